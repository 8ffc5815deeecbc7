/-
  Walks of the reference's eliminations: the sets of later neighbours.
-/
import Derived.Test.YtpflnkedolmamaaGreatDoorQJC
namespace Go.Pal
open Go Go.RowKit
/-- Slices of ints in a row: each reads the elements of its set, in blocks of A. -/
def Sets (A : Nat → Prop) (w : World) (L : List (Option Addr × Nat × Nat)) (rows : List Nat) : Prop :=
  L.length = rows.length ∧ ∀ (i : Nat) (s : Option Addr × Nat × Nat) (S : Nat), L[i]? = some s → rows[i]? = some S → RdA A w (.slice s.1 s.2.1 s.2.2) (elemsI S)
theorem Sets.keep {A A' : Nat → Prop} {w w' : World} {L : List (Option Addr × Nat × Nat)} {rows : List Nat} (h : Sets A w L rows) (hs : w.heap.size ≤ w'.heap.size) (hk : ∀ k, k < w.heap.size → A k → w'.heap[k]? = w.heap[k]? ∧ A' k) : Sets A' w' L rows :=
  ⟨h.1, fun i s S h1 h2 => (h.2 i s S h1 h2).keep hs hk⟩
theorem Sets.snoc {A : Nat → Prop} {w : World} {L : List (Option Addr × Nat × Nat)} {rows : List Nat} (h : Sets A w L rows) {s : Option Addr × Nat × Nat} {S : Nat} (hs : RdA A w (.slice s.1 s.2.1 s.2.2) (elemsI S)) : Sets A w (L ++ [s]) (rows ++ [S]) := by
  refine ⟨by simp [h.1], fun i s' S' h1 h2 => ?_⟩
  by_cases hi : i < L.length
  · rw [List.getElem?_append_left hi] at h1
    rw [List.getElem?_append_left (by rw [← h.1]; exact hi)] at h2
    exact h.2 i s' S' h1 h2
  · have hi2 : i = L.length := by
      have := (List.getElem?_eq_some_iff.1 h1).1
      simp at this
      omega
    subst hi2
    rw [List.getElem?_append_right (Nat.le_refl _)] at h1
    rw [h.1, List.getElem?_append_right (Nat.le_refl _)] at h2
    simp at h1 h2
    subst h1
    subst h2
    exact hs
end Go.Pal
namespace Go.Proofs.YtpflnkedolmamaaGreatDoor
open Go Go.RowKit Go.Pal
attribute [local go_sem] Oper.semAt_some

def elQ3 : ElT Tryz.prog 82 1 slC where
  bytes := 24
  zero := .slice none 0 0
  info := by kernel_rfl
  zc := rfl
  pos := by decide
  small := by decide
  size _ := rfl
  one x u hu := by simp [slC] at hu; subst hu; rfl
abbrev OwnQ3 := OwnR 82 1 slC
@[go_sem ↓ high] theorem build_rP (a b : Int) (w : World) : (Instr.build 189 #[(0, .int .i64 a), (1, .int .i64 b)]).run Tryz.prog w = .ok (.agg #[.int .i64 a, .int .i64 b]) w := by kernel_rfl
@[go_sem ↓ high] theorem buildSlice_rP (a b : Int) (w : World) : (Instr.buildSlice 117 1 #[(0, .agg #[.int .i64 a, .int .i64 b])]).run Tryz.prog w = .ok (.slice (some ⟨w.heap.size, 0, none⟩) 1 1) (w.alloc (.cells #[.int .i64 a, .int .i64 b] 189)) := by kernel_rfl
@[go_sem ↓ high] theorem buildSlice_rR (a : Option Addr) (n c : Nat) (w : World) : (Instr.buildSlice 116 1 #[(0, .slice a n c)]).run Tryz.prog w = .ok (.slice (some ⟨w.heap.size, 0, none⟩) 1 1) (w.alloc (.cells #[.slice a n c] 82)) := by kernel_rfl
/-- The state of Near: the rows of sets, the pairs that came. -/
structure NearSt (B : Nat) (w : World) (vo vc : Value) (L : List (Option Addr × Nat × Nat)) (rows : List Nat) (c : List (Int × Int)) : Prop where
  out : OwnQ3 B w vo L
  sets : Sets (fun j => vo.ownBlock ≠ some j ∧ vc.ownBlock ≠ some j) w L rows
  come : OwnQ2 B w vc c
  apart : ∀ j, vo.ownBlock = some j → vc.ownBlock ≠ some j
theorem NearSt.below {B : Nat} {w w' : World} {vo vc : Value} {L : List (Option Addr × Nat × Nat)} {rows : List Nat} {c : List (Int × Int)} (h : NearSt B w vo vc L rows c) (hb : Below w.heap.size w w') : NearSt B w' vo vc L rows c :=
  ⟨h.out.below hb (Nat.le_refl _), h.sets.keep hb.size fun k hk hA => ⟨hb.block k hk, hA⟩, h.come.below hb (Nat.le_refl _), h.apart⟩
theorem NearSt.coming {B : Nat} {w w' : World} {vo vc v' : Value} {L : List (Option Addr × Nat × Nat)} {rows : List Nat} {c c' : List (Int × Int)} (h : NearSt B w vo vc L rows c) (hO : OwnQ2 B w' v' c') (hg : ∀ k, k < w.heap.size → vc.ownBlock ≠ some k → w'.heap[k]? = w.heap[k]?) (hs : w.heap.size ≤ w'.heap.size) (hl : v'.ownBlock = vc.ownBlock ∨ ∃ j, v'.ownBlock = some j ∧ w.heap.size ≤ j) : NearSt B w' vo v' L rows c' := by
  have hap : ∀ k, k < w.heap.size → vc.ownBlock ≠ some k → v'.ownBlock ≠ some k := fun k hk hne => by
    rcases hl with e | ⟨j, e, hj⟩
    · rw [e]; exact hne
    · rw [e]; intro e2; cases e2; omega
  refine ⟨h.out.same fun g hg' => hg g (h.out.lt g hg') (h.apart g hg'), h.sets.keep hs fun k hk hA => ⟨hg k hk hA.2, hA.1, hap k hk hA.2⟩, hO, fun j hj => hap j (h.out.lt j hj) (h.apart j hj)⟩
theorem NearSt.near {w w' : World} {vo vc v' vn : Value} {ns : List Int} (h : RdA (fun j => vo.ownBlock ≠ some j ∧ vc.ownBlock ≠ some j) w vn ns) (hg : ∀ k, k < w.heap.size → vc.ownBlock ≠ some k → w'.heap[k]? = w.heap[k]?) (hs : w.heap.size ≤ w'.heap.size) (hl : v'.ownBlock = vc.ownBlock ∨ ∃ j, v'.ownBlock = some j ∧ w.heap.size ≤ j) : RdA (fun j => vo.ownBlock ≠ some j ∧ v'.ownBlock ≠ some j) w' vn ns := by
  refine h.keep hs fun k hk hA => ⟨hg k hk hA.2, hA.1, ?_⟩
  rcases hl with e | ⟨j, e, hj⟩
  · rw [e]; exact hA.2
  · rw [e]; intro e2; cases e2; omega
theorem NearSt.outing {B : Nat} {w w' : World} {vo vc v' : Value} {L : List (Option Addr × Nat × Nat)} {rows : List Nat} {c : List (Int × Int)} (h : NearSt B w vo vc L rows c) {s : Option Addr × Nat × Nat} {S : Nat} (hn : RdA (fun j => vo.ownBlock ≠ some j ∧ vc.ownBlock ≠ some j) w (.slice s.1 s.2.1 s.2.2) (elemsI S)) (hO : OwnQ3 B w' v' (L ++ [s])) (hg : ∀ k, k < w.heap.size → vo.ownBlock ≠ some k → w'.heap[k]? = w.heap[k]?) (hs : w.heap.size ≤ w'.heap.size) (hl : v'.ownBlock = vo.ownBlock ∨ ∃ j, v'.ownBlock = some j ∧ w.heap.size ≤ j) : NearSt B w' v' vc (L ++ [s]) (rows ++ [S]) c := by
  have hap : ∀ k, k < w.heap.size → vo.ownBlock ≠ some k → v'.ownBlock ≠ some k := fun k hk hne => by
    rcases hl with e | ⟨j, e, hj⟩
    · rw [e]; exact hne
    · rw [e]; intro e2; cases e2; omega
  have hco : ∀ j, vc.ownBlock = some j → vo.ownBlock ≠ some j := fun j hj e => h.apart j e hj
  refine ⟨hO, (h.sets.snoc hn).keep hs fun k hk hA => ⟨hg k hk hA.1, hap k hk hA.1, hA.2⟩, h.come.same fun g hg' => hg g (h.come.lt g hg') (hco g hg'), fun j hj e => ?_⟩
  exact hap j (h.come.lt j e) (hco j e) hj
set_option maxRecDepth 10000 in
set_option maxHeartbeats 4000000 in
theorem rnear21_any (G : Gr) (hG : G.Ok) (o : List Nat) (hlt : ∀ x ∈ o, x < 1024) (hlen : o.length ≤ 64) (vV vE vo : Value) (w : World) (hV : Rd vtxA 3 w.heap.size w vV G.V) (hE : Rd edgA 4 w.heap.size w vE G.E) (ho : RdL w vo (o.map fun i : Nat => (i : Int))) :
    Calls Tryz.prog 67 #[.agg #[vV, vE], vo] w fun e w' => ∃ v1 v2 L c, e = .returned (.tuple #[v1, v2]) ∧ NearSt w.heap.size w' v1 v2 L (rGame G o o.length).1 c ∧ Below w.heap.size w w' := by
  have HV := Lib.hid hV
  have HE := Lib.hid hE
  have HO := Lib.hid ho
  have hmE := hG.most
  have HED := Lib.hid fun W (h : Below w.heap.size w W) u v => redge_any G.E u v vV vE W ((hE.below h (Nat.le_refl _)).mono h.size) (by obtain ⟨a, c, rfl⟩ := hV.sl; exact ⟨_, _, _, rfl⟩) (by omega)
  obtain ⟨aV, cV, rfl⟩ := hV.sl
  obtain ⟨aE, cE, rfl⟩ := hE.sl
  obtain ⟨ao, co, rfl, -⟩ := ho
  clear hV hE
  rw [List.length_map]
  go_enter Tryz.func67, Tryz.ntmps67
  go_wp2_with fail
  obtain ⟨W0, hW0⟩ : ∃ W0, W0 = w.alloc (.cells #[.slice aV G.V.length cV, .slice aE G.E.length cE] 44) := ⟨_, rfl⟩
  have r2 : row? W0 w.heap.size = some #[.slice aV G.V.length cV, .slice aE G.E.length cE] := by rw [hW0]; exact row?_alloc_at _ _ _ _ rfl
  have hB0 : Below w.heap.size w W0 := by rw [hW0]; exact (Below.refl _ w).alloc (Nat.le_refl _) _
  have hs0 : w.heap.size < W0.heap.size := by rw [hW0]; simp
  have HR2 := Lib.hid r2
  have HB0 := Lib.hid hB0
  have HLT := Lib.hid hlt
  rw [← hW0]
  clear hW0 r2 hB0 hlt
  obtain ⟨LV, hLV⟩ : ∃ LV, LV = G.V.length := ⟨_, rfl⟩
  obtain ⟨LE, hLE⟩ : ∃ LV, LV = G.E.length := ⟨_, rfl⟩
  rw [← hLV, ← hLE] at HR2 HED ⊢
  clear hLV hLE HV HE
  go_loopw [6, 7, 8] (fun vo vc i wr => ∃ k : Nat, k ≤ o.length ∧ i = .int .i64 (k : Int) ∧ (∃ L, NearSt W0.heap.size wr vo vc L (rGame G o k).1 (rGame G o k).2) ∧ Below W0.heap.size W0 wr) (fun _ _ i _ => o.length - (intOf i).toNat)
  case atStart => exact ⟨0, by omega, rfl, ⟨[], OwnR.nil _ _, ⟨rfl, fun i s S h => by simp at h⟩, OwnR.nil _ _, fun j hj => by simp [Value.ownBlock] at hj⟩, Below.refl _ _⟩
  case round =>
    obtain ⟨k, hk, rfl, ⟨L, hN⟩, hb⟩ := hrel
    have hs := hb.size
    have HBw := Lib.hid (HB0.out.trans (hb.mono HB0.out.size))
    have HB := Lib.hid hb
    have HN := Lib.hid hN
    obtain ⟨qo, co', hqo⟩ := hN.out.sl
    obtain ⟨qc, cc', hqc⟩ := hN.come.sl
    clear hb
    by_cases hlt : k < o.length
    · obtain ⟨x, hx⟩ : ∃ x, o[k]? = some x := ⟨_, List.getElem?_eq_getElem hlt⟩
      have hg : o.getD k 0 = x := by rw [List.getD_eq_getElem?_getD, hx]; rfl
      have hgs := rGame_succ G o k
      obtain ⟨rows, hrows⟩ : ∃ rows, rows = (rGame G o k).1 := ⟨_, rfl⟩
      obtain ⟨c, hc⟩ : ∃ c, c = (rGame G o k).2 := ⟨_, rfl⟩
      rw [← hrows, ← hc] at hgs HN
      rw [← hc] at hqc
      have HGS := Lib.hid hgs
      have HCE := Lib.hid hc
      have HRL := Lib.hid (show rows.length ≤ 64 by rw [hrows, rGame_rows]; omega)
      have HX := Lib.hid hx
      have HGD := Lib.hid hg
      subst hqo
      subst hqc
      clear hN hrows hc hgs hx hg
      have hcl : c.length ≤ 262144 := by
        have h1 := rGame_len G o k
        have h2 : k * (o.length * o.length) ≤ 64 * (64 * 64) := Nat.mul_le_mul (by omega) (Nat.mul_le_mul hlen hlen)
        rw [HCE.out]
        omega
      have hx1024 := HLT.out x (List.mem_of_getElem? HX.out)
      go_wp2_with fail
      obtain ⟨W1, hW1⟩ : ∃ W1, W1 = wr.alloc (.cells #[] 3) := ⟨_, rfl⟩
      have hb1 : Below wr.heap.size wr W1 := by rw [hW1]; exact (Below.refl _ _).alloc (Nat.le_refl _) _
      have hs1 : wr.heap.size < W1.heap.size := by rw [hW1]; simp
      have HN1 := Lib.hid (HN.out.below hb1)
      have HB1 := Lib.hid (HBw.out.trans (hb1.mono HBw.out.size))
      have HBo1 := Lib.hid (HB.out.trans (hb1.mono HB.out.size))
      rw [← hW1]
      clear hW1 hb1
      obtain ⟨A, hA⟩ : ∃ A : Nat → Prop, A = fun g => (Value.slice qo L.length co').ownBlock ≠ some g ∧ (Value.slice qc c.length cc').ownBlock ≠ some g := ⟨_, rfl⟩
      have HA := Lib.hid hA
      clear hA
      go_loopw [9, 10] (fun vn j wn => ∃ m : Nat, k + 1 ≤ m ∧ m ≤ o.length ∧ j = .int .i64 (m : Int) ∧ RdA A wn vn (elemsI (rnTo G c o k m)) ∧ Below W1.heap.size W1 wn) (fun _ j _ => o.length - (intOf j).toNat)
      case atStart => exact ⟨k + 1, by omega, by omega, by go_num, by rw [rnTo_start, elemsI_zero]; exact ⟨_, _, rfl, .inl rfl⟩, Below.refl _ _⟩
      case round =>
        obtain ⟨m, hm1, hm2, rfl, hvn, hbn⟩ := hrel
        have HVN := Lib.hid hvn
        have hs2 := hbn.size
        have HB2 := Lib.hid (HB1.out.trans (hbn.mono HB1.out.size))
        have HBo2 := Lib.hid (HBo1.out.trans (hbn.mono HBo1.out.size))
        have HBn := Lib.hid hbn
        have HN2 := Lib.hid (HN1.out.below hbn)
        obtain ⟨qn, cn, hqn⟩ := hvn.sl
        subst hqn
        clear hvn hbn
        by_cases hlt2 : m < o.length
        · obtain ⟨y, hy⟩ : ∃ y, o[m]? = some y := ⟨_, List.getElem?_eq_getElem hlt2⟩
          have hlt3 : k < o.length := hlt
          obtain ⟨b, off, c1', z, h1, hz, hcx⟩ := HO.out.at (k := k) (by rw [List.length_map]; exact hlt)
          obtain ⟨b2, off2, c2', z2, h2, hz2, hcy⟩ := HO.out.at (k := m) (by rw [List.length_map]; exact hlt2)
          simp only [Value.slice.injEq] at h1 h2
          obtain ⟨rfl, -, rfl⟩ := h1
          simp only [Option.some.injEq, Addr.mk.injEq, and_true] at h2
          obtain ⟨⟨rfl, rfl⟩, -⟩ := h2
          rw [List.getElem?_map, HX.out] at hz
          rw [List.getElem?_map, hy] at hz2
          cases hz
          cases hz2
          have hy1024 := HLT.out y (List.mem_of_getElem? hy)
          have HFc := Lib.hid fun W (hw : Below wr.heap.size wr W) => (⟨(row?_below (HBo2.out.trans (hw.mono HBo2.out.size)) hs0).trans HR2.out, hcx W (HB2.out.trans (hw.mono HB2.out.size)), hcy W (HB2.out.trans (hw.mono HB2.out.size))⟩ : row? W w.heap.size = some #[.slice aV LV cV, .slice aE LE cE] ∧ W.cell? ⟨b, off + k, none⟩ = some (.int .i64 (x : Int)) ∧ W.cell? ⟨b, off + m, none⟩ = some (.int .i64 (y : Int)))
          have HEc := fun W (hw : Below wr.heap.size wr W) => HED.out W (HB2.out.trans (hw.mono HB2.out.size)) (x : Int) (y : Int)
          rw [show idx (edgB (x : Int) (y : Int)) G.E = G.edge x y from rfl] at HEc
          obtain ⟨fx, hfx⟩ : ∃ fx, fx = G.edge (x : Int) (y : Int) := ⟨_, rfl⟩
          rw [← hfx] at HEc
          have HEc := Lib.hid HEc
          have HIN := Lib.hid fun W (hw : Below wr.heap.size wr W) => rin_any c (x : Int) (y : Int) _ W ((HN2.out.below hw).come.rd elQ2) (by omega)
          have hrn := rnTo_succ G c (i := k) hy hm1
          rw [HGD.out] at hrn
          have hadj : rAdj G c (x : Int) (y : Int) = (decide (0 ≤ fx) || inP c x y) := by rw [hfx]; rfl
          obtain ⟨bi, hbi⟩ : ∃ bi, bi = inP c (x : Int) (y : Int) := ⟨_, rfl⟩
          rw [← hbi] at HIN hadj
          rw [hadj] at hrn
          have HRN := Lib.hid hrn
          have HY := Lib.hid hy
          clear hy hcx hcy hfx hadj hbi hrn
          by_cases he : 0 ≤ fx
          · go_wp2_with fail
            refine wp_region_free (fun w' => Below wr.heap.size wr w') (by kernel_rfl) (by kernel_rfl) (Below.refl _ _).drew ?_
            repeat (first | (apply wpFree_still; (intro w hw; obtain ⟨k1, k2, k3⟩ := HFc.out _ hw; clear hw; go_simp; (try go_ints); (first | with_reducible rfl | (go_simp; with_reducible rfl))); with_reducible rfl; (intro K hK; go_simp; (try go_ints); refine hK _ ?_; clear hK K)) | (apply wpFree_stillG rfl; (intro w hw; obtain ⟨k1, k2, k3⟩ := HFc.out _ hw; clear hw; go_simp; (try go_ints); (first | with_reducible rfl | (go_simp; with_reducible rfl))); (intro K hK; go_simp; (try go_ints); refine hK _ ?_; clear hK K)))
            apply wpFree_callG rfl
            · intro w hw; go_simp; first | with_reducible rfl | with_reducible exact ⟨rfl, rfl⟩
            · intro w hw; refine (HEc.out w hw).mono ?_; rintro e w' ⟨h1, h2⟩; exact ⟨h1, hw.trans (h2.mono hw.size)⟩
            intro K hK; go_simp; (try go_ints); refine hK _ ?_; clear hK K
            repeat (first | (apply wpFree_skip rfl; (intro K hK; go_simp; (try go_ints); refine hK _ ?_; clear hK K)) | (apply wpFree_still; (intro w hw; clear hw; go_simp; (try go_ints); (first | with_reducible rfl | (go_simp; with_reducible rfl))); with_reducible rfl; (intro K hK; go_simp; (try go_ints); refine hK _ ?_; clear hK K)))
            with_reducible refine wpFree_nil ?_
            intro w3 hb3
            have HRY := Lib.hid (show rnTo G c o k (m + 1) = sIns (rnTo G c o k m) y by rw [HRN.out, if_pos (by simp [he])])
            clear he HRN
            obtain ⟨k1, k2, k3⟩ := HFc.out _ hb3
            have HB3 := Lib.hid hb3
            have hs3 := hb3.size
            have HWi := Lib.hid (rwith_any A (rnTo G c o k m) y _ w3 (fun g hg => by rw [HA.out]; exact ⟨fun e => by have := HN2.out.out.lt g e; omega, fun e => by have := HN2.out.come.lt g e; omega⟩) (HVN.out.below hb3) (isSet_rnS G c _ fun z hz => HLT.out z (List.mem_of_mem_take (List.mem_of_mem_drop hz))) hy1024)
            clear hb3 k1 k2
            go_wp2_with fail
            refine HWi.out.mono ?_
            rintro r w4 ⟨v4, rfl, hv4, hb4⟩
            obtain ⟨q4, c4, rfl⟩ := hv4.sl
            have HV4 := Lib.hid hv4
            have HB4 := Lib.hid (HB3.out.trans (hb4.mono HB3.out.size))
            clear hv4 hb4 HWi k3
            go_wp2_with fail
            go_roundw
            case rel => exact ⟨m + 1, by omega, by omega, by go_num, by rw [HRY.out]; exact HV4.out, HBn.out.trans (HB4.out.mono HBn.out.size)⟩
            case measure => simp [intOf]; omega
          · have hge : decide (0 ≤ fx) = false := by simpa using he
            clear he
            go_wp2_with fail
            refine wp_region_free (fun w' => Below wr.heap.size wr w') (by kernel_rfl) (by kernel_rfl) (Below.refl _ _).drew ?_
            repeat (first | (apply wpFree_still; (intro w hw; obtain ⟨k1, k2, k3⟩ := HFc.out _ hw; clear hw; go_simp; (try go_ints); (first | with_reducible rfl | (go_simp; with_reducible rfl))); with_reducible rfl; (intro K hK; go_simp; (try go_ints); refine hK _ ?_; clear hK K)) | (apply wpFree_stillG rfl; (intro w hw; obtain ⟨k1, k2, k3⟩ := HFc.out _ hw; clear hw; go_simp; (try go_ints); (first | with_reducible rfl | (go_simp; with_reducible rfl))); (intro K hK; go_simp; (try go_ints); refine hK _ ?_; clear hK K)))
            apply wpFree_callG rfl
            · intro w hw; go_simp; first | with_reducible rfl | with_reducible exact ⟨rfl, rfl⟩
            · intro w hw; refine (HEc.out w hw).mono ?_; rintro e w' ⟨h1, h2⟩; exact ⟨h1, hw.trans (h2.mono hw.size)⟩
            intro K hK; go_simp; (try go_ints); refine hK _ ?_; clear hK K
            repeat (first | (apply wpFree_still; (intro w hw; obtain ⟨k1, k2, k3⟩ := HFc.out _ hw; clear hw; go_simp; (try go_ints); (first | with_reducible rfl | (go_simp; with_reducible rfl))); with_reducible rfl; (intro K hK; go_simp; (try go_ints); refine hK _ ?_; clear hK K)) | (apply wpFree_stillG rfl; (intro w hw; obtain ⟨k1, k2, k3⟩ := HFc.out _ hw; clear hw; go_simp; (try go_ints); (first | with_reducible rfl | (go_simp; with_reducible rfl))); (intro K hK; go_simp; (try go_ints); refine hK _ ?_; clear hK K)))
            apply wpFree_callG rfl
            · intro w hw; go_simp; first | with_reducible rfl | with_reducible exact ⟨rfl, rfl⟩
            · intro w hw; refine (HIN.out w hw).mono ?_; rintro e w' ⟨h1, rfl⟩; exact ⟨h1, hw⟩
            intro K hK; go_simp; (try go_ints); refine hK _ ?_; clear hK K
            repeat (first | (apply wpFree_still; (intro w hw; clear hw; go_simp; (try go_ints); (first | with_reducible rfl | (go_simp; with_reducible rfl))); with_reducible rfl; (intro K hK; go_simp; (try go_ints); refine hK _ ?_; clear hK K)) | (apply wpFree_stillG rfl; (intro w hw; clear hw; go_simp; (try go_ints); (first | with_reducible rfl | (go_simp; with_reducible rfl))); (intro K hK; go_simp; (try go_ints); refine hK _ ?_; clear hK K)))
            with_reducible refine wpFree_nil ?_
            intro w3 hb3
            rw [hge, Bool.false_or] at HRN
            cases bi with
            | true =>
              have HRY := Lib.hid (show rnTo G c o k (m + 1) = sIns (rnTo G c o k m) y by rw [HRN.out, if_pos rfl])
              clear hge HRN
              obtain ⟨k1, k2, k3⟩ := HFc.out _ hb3
              have HB3 := Lib.hid hb3
              have hs3 := hb3.size
              have HWi := Lib.hid (rwith_any A (rnTo G c o k m) y _ w3 (fun g hg => by rw [HA.out]; exact ⟨fun e => by have := HN2.out.out.lt g e; omega, fun e => by have := HN2.out.come.lt g e; omega⟩) (HVN.out.below hb3) (isSet_rnS G c _ fun z hz => HLT.out z (List.mem_of_mem_take (List.mem_of_mem_drop hz))) hy1024)
              clear hb3 k1 k2
              go_wp2_with fail
              refine HWi.out.mono ?_
              rintro r w4 ⟨v4, rfl, hv4, hb4⟩
              obtain ⟨q4, c4, rfl⟩ := hv4.sl
              have HV4 := Lib.hid hv4
              have HB4 := Lib.hid (HB3.out.trans (hb4.mono HB3.out.size))
              clear hv4 hb4 HWi k3
              go_wp2_with fail
              go_roundw
              case rel => exact ⟨m + 1, by omega, by omega, by go_num, by rw [HRY.out]; exact HV4.out, HBn.out.trans (HB4.out.mono HBn.out.size)⟩
              case measure => simp [intOf]; omega
            | false =>
              have HRY := Lib.hid (show rnTo G c o k (m + 1) = rnTo G c o k m by rw [HRN.out, if_neg (by decide)])
              have HB3 := Lib.hid hb3
              clear hge HRN hb3
              go_wp2_with fail
              go_roundw
              case rel => exact ⟨m + 1, by omega, by omega, by go_num, by rw [HRY.out]; exact HVN.out.below HB3.out, HBn.out.trans (HB3.out.mono HBn.out.size)⟩
              case measure => simp [intOf]; omega
        · have hmo : m = o.length := by omega
          subst hmo
          obtain ⟨S, hS⟩ : ∃ S, S = rnTo G c o k o.length := ⟨_, rfl⟩
          have hnl := rn_len G c o k o.length
          rw [← hS] at HVN HGS hnl ⊢
          clear hS
          obtain ⟨E, hE⟩ : ∃ E, E = elemsI S := ⟨_, rfl⟩
          have hEnd : E.Nodup := by rw [hE]; exact (elemsI_sorted _).imp fun h => by omega
          rw [← hE] at HVN HGS hnl ⊢
          have HEE := Lib.hid hE
          clear hE
          go_wp2_with fail
          go_loopw [7, 11] (fun vc j wn => ∃ m : Nat, m ≤ E.length ∧ j = .int .i64 (m : Int) ∧ NearSt W0.heap.size wn (.slice qo L.length co') vc L rows (rfTo G E c m) ∧ RdA (fun g => (Value.slice qo L.length co').ownBlock ≠ some g ∧ vc.ownBlock ≠ some g) wn (.slice qn E.length cn) E ∧ Below W0.heap.size W0 wn) (fun _ j _ => E.length - (intOf j).toNat)
          case atStart => exact ⟨0, by omega, rfl, HN2.out, by rw [← HA.out]; exact HVN.out, HBo2.out⟩
          case round =>
            obtain ⟨m, hm, rfl, hN3, hvn, hbn⟩ := hrel
            have HN3 := Lib.hid hN3
            have HVN3 := Lib.hid hvn
            have HB3 := Lib.hid hbn
            have hs3 := hbn.size
            have hcl3 := rfTo_len G E c m
            have hmm : m * m ≤ 64 * 64 := Nat.mul_le_mul (by omega) (by omega)
            obtain ⟨c3, hc3⟩ : ∃ c3, c3 = rfTo G E c m := ⟨_, rfl⟩
            rw [← hc3] at HN3 hcl3 hN3
            have HC3 := Lib.hid hc3
            obtain ⟨q3, cc3, hq3⟩ := hN3.come.sl
            subst hq3
            clear hN3 hvn hbn hc3
            by_cases hlt3 : m < E.length
            · go_wp2_with fail
              go_loopw [7, 12] (fun vc j wn => ∃ q : Nat, q ≤ m ∧ j = .int .i64 (q : Int) ∧ NearSt W0.heap.size wn (.slice qo L.length co') vc L rows (rfIn G E m q c3) ∧ RdA (fun g => (Value.slice qo L.length co').ownBlock ≠ some g ∧ vc.ownBlock ≠ some g) wn (.slice qn E.length cn) E ∧ Below W0.heap.size W0 wn) (fun _ j _ => m - (intOf j).toNat)
              case atStart => exact ⟨0, by omega, rfl, HN3.out, HVN3.out, HB3.out⟩
              case round =>
                obtain ⟨q, hq, rfl, hN4, hvn, hbn⟩ := hrel
                have HN4 := Lib.hid hN4
                have HVN4 := Lib.hid hvn
                have HB4 := Lib.hid hbn
                have hs4 := hbn.size
                have hcl4 := rfIn_len G E m c3 q
                obtain ⟨c4, hc4⟩ : ∃ c4, c4 = rfIn G E m q c3 := ⟨_, rfl⟩
                rw [← hc4] at HN4 hcl4 hN4
                have HC4 := Lib.hid hc4
                obtain ⟨q4, cc4, hq4⟩ := hN4.come.sl
                subst hq4
                clear hN4 hc4
                by_cases hlt4 : q < m
                · have hlt5 : q < E.length := by omega
                  obtain ⟨y, hy⟩ : ∃ y, E[m]? = some y := ⟨_, List.getElem?_eq_getElem hlt3⟩
                  obtain ⟨z, hz⟩ : ∃ z, E[q]? = some z := ⟨_, List.getElem?_eq_getElem hlt5⟩
                  obtain ⟨b, off, c1', y', h1, hy', hcx⟩ := hvn.rdl.at (k := m) hlt3
                  obtain ⟨b2, off2, c2', z', h2, hz', hcy⟩ := hvn.rdl.at (k := q) hlt5
                  rw [hy] at hy'
                  rw [hz] at hz'
                  cases hy'
                  cases hz'
                  simp only [Value.slice.injEq] at h1 h2
                  obtain ⟨rfl, -, rfl⟩ := h1
                  simp only [Option.some.injEq, Addr.mk.injEq, and_true] at h2
                  obtain ⟨⟨rfl, rfl⟩, -⟩ := h2
                  have HFc := Lib.hid fun W (hw : Below wr.heap.size wr W) => (⟨(row?_below (HB4.out.trans (hw.mono HB4.out.size)) hs0).trans HR2.out, hcx W hw, hcy W hw⟩ : row? W w.heap.size = some #[.slice aV LV cV, .slice aE LE cE] ∧ W.cell? ⟨b, off + m, none⟩ = some (.int .i64 y) ∧ W.cell? ⟨b, off + q, none⟩ = some (.int .i64 z))
                  have HBw4 := Lib.hid (HB0.out.trans (hbn.mono HB0.out.size))
                  have HEc := fun W (hw : Below wr.heap.size wr W) => HED.out W (HBw4.out.trans (hw.mono HBw4.out.size)) y z
                  rw [show idx (edgB y z) G.E = G.edge y z from rfl] at HEc
                  obtain ⟨fx, hfx⟩ : ∃ fx, fx = G.edge y z := ⟨_, rfl⟩
                  rw [← hfx] at HEc
                  have HEc := Lib.hid HEc
                  have HIN := Lib.hid fun W (hw : Below wr.heap.size wr W) => rin_any c4 y z _ W ((HN4.out.below hw).come.rd elQ2) (by omega)
                  have hrf := rfIn_succ G (a := m) c3 hz
                  rw [show E.getD m 0 = y by rw [List.getD_eq_getElem?_getD, hy]; rfl, ← HC4.out, rfStep] at hrf
                  have hadj : rAdj G c4 y z = (decide (0 ≤ fx) || inP c4 y z) := by rw [hfx]; rfl
                  obtain ⟨bi, hbi⟩ : ∃ bi, bi = inP c4 y z := ⟨_, rfl⟩
                  rw [← hbi] at HIN hadj
                  rw [hadj] at hrf
                  have HRF := Lib.hid hrf
                  clear hy hz hcx hcy hfx hadj hbi hrf hvn hbn
                  by_cases he : fx < 0
                  · have hge : decide (0 ≤ fx) = false := by simpa using he
                    rw [hge, Bool.false_or] at HRF
                    clear hge
                    go_wp2_with fail
                    refine wp_region_free (fun w' => Below wr.heap.size wr w') (by kernel_rfl) (by kernel_rfl) (Below.refl _ _).drew ?_
                    repeat (first | (apply wpFree_still; (intro w hw; obtain ⟨k1, k2, k3⟩ := HFc.out _ hw; clear hw; go_simp; (try go_ints); (first | with_reducible rfl | (go_simp; with_reducible rfl))); with_reducible rfl; (intro K hK; go_simp; (try go_ints); refine hK _ ?_; clear hK K)) | (apply wpFree_stillG rfl; (intro w hw; obtain ⟨k1, k2, k3⟩ := HFc.out _ hw; clear hw; go_simp; (try go_ints); (first | with_reducible rfl | (go_simp; with_reducible rfl))); (intro K hK; go_simp; (try go_ints); refine hK _ ?_; clear hK K)))
                    apply wpFree_callG rfl
                    · intro w hw; go_simp; first | with_reducible rfl | with_reducible exact ⟨rfl, rfl⟩
                    · intro w hw; refine (HEc.out w hw).mono ?_; rintro e w' ⟨h1, h2⟩; exact ⟨h1, hw.trans (h2.mono hw.size)⟩
                    intro K hK; go_simp; (try go_ints); refine hK _ ?_; clear hK K
                    repeat (first | (apply wpFree_still; (intro w hw; obtain ⟨k1, k2, k3⟩ := HFc.out _ hw; clear hw; go_simp; (try go_ints); (first | with_reducible rfl | (go_simp; with_reducible rfl))); with_reducible rfl; (intro K hK; go_simp; (try go_ints); refine hK _ ?_; clear hK K)) | (apply wpFree_stillG rfl; (intro w hw; obtain ⟨k1, k2, k3⟩ := HFc.out _ hw; clear hw; go_simp; (try go_ints); (first | with_reducible rfl | (go_simp; with_reducible rfl))); (intro K hK; go_simp; (try go_ints); refine hK _ ?_; clear hK K)))
                    apply wpFree_callG rfl
                    · intro w hw; go_simp; first | with_reducible rfl | with_reducible exact ⟨rfl, rfl⟩
                    · intro w hw; refine (HIN.out w hw).mono ?_; rintro e w' ⟨h1, rfl⟩; exact ⟨h1, hw⟩
                    intro K hK; go_simp; (try go_ints); refine hK _ ?_; clear hK K
                    repeat (first | (apply wpFree_still; (intro w hw; clear hw; go_simp; (try go_ints); (first | with_reducible rfl | (go_simp; with_reducible rfl))); with_reducible rfl; (intro K hK; go_simp; (try go_ints); refine hK _ ?_; clear hK K)) | (apply wpFree_stillG rfl; (intro w hw; clear hw; go_simp; (try go_ints); (first | with_reducible rfl | (go_simp; with_reducible rfl))); (intro K hK; go_simp; (try go_ints); refine hK _ ?_; clear hK K)))
                    with_reducible refine wpFree_nil ?_
                    intro w5 hb5
                    have HB5 := Lib.hid hb5
                    have hs5 := hb5.size
                    clear hb5
                    cases bi with
                    | true =>
                      rw [if_pos rfl] at HRF
                      go_wp2_with fail
                      go_roundw
                      case rel => exact ⟨q + 1, by omega, by go_num, by rw [HRF.out]; exact HN4.out.below HB5.out, HVN4.out.below HB5.out, HB4.out.trans (HB5.out.mono HB4.out.size)⟩
                      case measure => simp [intOf]; omega
                    | false =>
                      rw [if_neg (by decide)] at HRF
                      have HN5 := Lib.hid (HN4.out.below HB5.out)
                      have HVN5 := Lib.hid (HVN4.out.below HB5.out)
                      have HB6 := Lib.hid (HB4.out.trans (HB5.out.mono HB4.out.size))
                      have HFd := Lib.hid fun W (hw : Below w5.heap.size w5 W) => (HFc.out W (HB5.out.trans (hw.mono HB5.out.size))).2
                      clear HB5 HFc HEc HIN HN4 HVN4 HB4
                      go_wp2_with fail
                      refine wp_region_mix (fun W => Below w5.heap.size w5 W) 11 [(0, true), (1, true), (2, true), (3, true), (4, true), (5, true), (6, true), (7, true), (8, true), (9, true), (10, false)] (by kernel_rfl) (by kernel_rfl) (Below.refl _ _).drew ?_
                      repeat (apply wpPlan_still rfl rfl; (intro w hw; obtain ⟨k2, k3⟩ := HFd.out _ hw; clear hw; go_simp; (try go_ints); (first | with_reducible rfl | (go_simp; with_reducible rfl))); (intro K hK; go_simp; (try go_ints); refine hK _ _ ?_; clear hK K))
                      apply wpPlan_act rfl rfl
                      intro K hK
                      unfold Oper.wp
                      go_simp
                      refine hK _ _ ((Below.refl _ w5).drew.alloc (Nat.le_refl _) _) ?_
                      clear hK K
                      refine wpPlan_nil ?_
                      simp only [List.drop_succ_cons, List.drop_zero]
                      go_wp2_with (at_builtin; refine wpList_appO elQ2 117 Tryz.underlying117 rfl _ _ rfl W0.heap.size _ c4 rfl (HN5.out.come.below (C := w5.heap.size) ((Below.refl _ w5).drew.alloc (Nat.le_refl _) _) (Nat.le_refl _)) w5.heap.size (z, y) _ rfl (row?_alloc_at _ _ _ _ rfl) (by omega) (by simp; omega) ?_)
                      intro v6 w6 hO6 hb6 hg6 hl6
                      have hs6 : w5.heap.size ≤ w6.heap.size := by have := hb6.size; simp at this; omega
                      have hgg : ∀ j, j < w5.heap.size → (Value.slice q4 c4.length cc4).ownBlock ≠ some j → w6.heap[j]? = w5.heap[j]? := fun j hj hne => (hg6.block j (by simp; omega) (fun e => hne e.symm)).trans (Below.heap_alloc _ _ _ (by show j < w5.heap.size; exact hj))
                      have hll : v6.ownBlock = (Value.slice q4 c4.length cc4).ownBlock ∨ ∃ j, v6.ownBlock = some j ∧ w5.heap.size ≤ j := hl6.imp id fun e => ⟨_, e, by simp⟩
                      have HN6 := Lib.hid (HN5.out.coming hO6 hgg hs6 hll)
                      have HVN6 := Lib.hid (NearSt.near HVN5.out hgg hs6 hll)
                      have HB7 := Lib.hid ((HB6.out.drew.alloc (by simp; omega) _).trans hb6)
                      obtain ⟨q6, cc6, rfl⟩ := hO6.sl
                      clear hO6 hb6 hg6 hl6 hgg hll
                      go_wp2_with fail
                      go_roundw
                      case rel => exact ⟨q + 1, by omega, by go_num, by rw [HRF.out]; exact HN6.out, HVN6.out, HB7.out⟩
                      case measure => simp [intOf]; omega
                  · have hge : decide (0 ≤ fx) = true := by simp; omega
                    have hlf : decide (fx < 0) = false := by simpa using he
                    rw [hge, Bool.true_or, if_pos rfl] at HRF
                    clear hge he
                    go_wp2_with fail
                    refine wp_region_free (fun w' => Below wr.heap.size wr w') (by kernel_rfl) (by kernel_rfl) (Below.refl _ _).drew ?_
                    repeat (first | (apply wpFree_still; (intro w hw; obtain ⟨k1, k2, k3⟩ := HFc.out _ hw; clear hw; go_simp; (try go_ints); (first | with_reducible rfl | (go_simp; with_reducible rfl))); with_reducible rfl; (intro K hK; go_simp; (try go_ints); refine hK _ ?_; clear hK K)) | (apply wpFree_stillG rfl; (intro w hw; obtain ⟨k1, k2, k3⟩ := HFc.out _ hw; clear hw; go_simp; (try go_ints); (first | with_reducible rfl | (go_simp; with_reducible rfl))); (intro K hK; go_simp; (try go_ints); refine hK _ ?_; clear hK K)))
                    apply wpFree_callG rfl
                    · intro w hw; go_simp; first | with_reducible rfl | with_reducible exact ⟨rfl, rfl⟩
                    · intro w hw; refine (HEc.out w hw).mono ?_; rintro e w' ⟨h1, h2⟩; exact ⟨h1, hw.trans (h2.mono hw.size)⟩
                    intro K hK; go_simp; (try go_ints); refine hK _ ?_; clear hK K
                    repeat (first | (apply wpFree_skip rfl; (intro K hK; go_simp; (try go_ints); refine hK _ ?_; clear hK K)) | (apply wpFree_still; (intro w hw; clear hw; go_simp; (try go_ints); (first | with_reducible rfl | (go_simp; with_reducible rfl))); with_reducible rfl; (intro K hK; go_simp; (try go_ints); refine hK _ ?_; clear hK K)))
                    with_reducible refine wpFree_nil ?_
                    intro w5 hb5
                    have HB5 := Lib.hid hb5
                    clear hb5 hlf
                    go_wp2_with fail
                    go_roundw
                    case rel => exact ⟨q + 1, by omega, by go_num, by rw [HRF.out]; exact HN4.out.below HB5.out, HVN4.out.below HB5.out, HB4.out.trans (HB5.out.mono HB4.out.size)⟩
                    case measure => simp [intOf]; omega
                · have hqm : q = m := by omega
                  subst hqm
                  have hr1 := rfTo_succ G E c q
                  rw [← HC3.out, ← HC4.out] at hr1
                  have HR1 := Lib.hid hr1
                  clear hr1 hvn hbn
                  go_wp2_with fail
                  go_roundw
                  case rel => exact ⟨q + 1, by omega, by go_num, by rw [HR1.out]; exact HN4.out, HVN4.out, HB4.out⟩
                  case measure => simp [intOf]; omega
            · have hmE : m = E.length := by omega
              subst hmE
              go_wp2_with (at_builtin; refine wpList_appO elQ3 116 Tryz.underlying116 rfl _ _ rfl W0.heap.size _ L rfl (HN3.out.out.below (C := wr.heap.size) ((Below.refl _ wr).alloc (Nat.le_refl _) _) (Nat.le_refl _)) wr.heap.size (qn, E.length, cn) _ rfl (row?_alloc_at _ _ _ _ rfl) (by have := HN3.out.sets.1; have := HRL.out; omega) (by simp; omega) ?_)
              intro v6 w6 hO6 hb6 hg6 hl6
              have hs6 : wr.heap.size ≤ w6.heap.size := by have := hb6.size; simp at this; omega
              have hgg : ∀ j, j < wr.heap.size → (Value.slice qo L.length co').ownBlock ≠ some j → w6.heap[j]? = wr.heap[j]? := fun j hj hne => (hg6.block j (by simp; omega) (fun e => hne e.symm)).trans (Below.heap_alloc _ _ _ (by show j < wr.heap.size; exact hj))
              have hll : v6.ownBlock = (Value.slice qo L.length co').ownBlock ∨ ∃ j, v6.ownBlock = some j ∧ wr.heap.size ≤ j := hl6.imp id fun e => ⟨_, e, by simp⟩
              have hvs := HVN3.out
              rw [HEE.out] at hvs
              have hn7 := NearSt.outing (s := (qn, E.length, cn)) (S := S) HN3.out (by rw [HEE.out]; exact hvs) hO6 hgg hs6 hll
              have HN7 := Lib.hid hn7
              have HB7 := Lib.hid ((HB3.out.alloc (by omega) _).trans hb6)
              obtain ⟨q6, cc6, rfl⟩ := hO6.sl
              clear hO6 hb6 hg6 hl6 hgg hll hvs hn7
              go_wp2_with fail
              go_roundw
              case rel => exact ⟨k + 1, by omega, by go_num, ⟨_, by rw [HGS.out, ← HC3.out]; exact HN7.out⟩, HB7.out⟩
              case measure => simp [intOf]; omega
    · have hkn : k = o.length := by omega
      subst hkn
      obtain ⟨W1, hW1⟩ : ∃ W1, W1 = wr := ⟨_, rfl⟩
      go_wp2_with fail
      go_ret2
      refine ⟨_, _, L, _, rfl, ⟨hN.out.lower (by omega), hN.sets, hN.come.lower (by omega), hN.apart⟩, HBw.out⟩
end Go.Proofs.YtpflnkedolmamaaGreatDoor
