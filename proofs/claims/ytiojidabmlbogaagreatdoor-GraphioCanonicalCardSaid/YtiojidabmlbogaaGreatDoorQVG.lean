/-
  Walk: graph.Build of a graph's vertices and edges in any order, the ends of an edge either way round.
-/
import Derived.Test.YtiojidabmlbogaaGreatDoorQVa
import Derived.Test.YtiojidabmlbogaaGreatDoorQJm
set_option linter.unusedSimpArgs false
set_option linter.unusedVariables false
namespace Go.Proofs.YtiojidabmlbogaaGreatDoor
open Go Go.RowKit Go.Pal
attribute [local go_sem] Oper.semAt_some

set_option maxRecDepth 10000 in
set_option maxHeartbeats 4000000 in
theorem gbuild_perm (G : Gr) (hG : G.Ok) (vs : List (Int × Th)) (es : List ((Int × Int) × Th)) (hpv : vs.Perm G.V) (hpe : (es.map nrmE).Perm G.E) (va ve : Value) (w : World) (hv : Rd vtxA 3 w.heap.size w va vs) (he : Rd edgA 4 w.heap.size w ve es) :
    Calls Tryz.prog 18 #[va, ve] w fun r w' => ∃ g bV bE, r = .returned (.tuple #[.pointer (some ⟨g, 0, none⟩), .int .i64 0]) ∧ GOk w' g bV bE G ∧ (w.heap.size ≤ g ∧ w.heap.size ≤ bV ∧ w.heap.size ≤ bE) ∧ Below w.heap.size w w' := by
  have HV := Lib.hid hv
  have HE := Lib.hid he
  have HG := Lib.hid hG
  have HPV := Lib.hid hpv
  have HPE := Lib.hid hpe
  have hlV : vs.length ≤ 1024 := by rw [hpv.length_eq]; exact hG.len
  have hlE : es.length ≤ 1024 := by have := hpe.length_eq; rw [List.length_map] at this; rw [this]; exact hG.most
  obtain ⟨aV, cV, rfl⟩ := hv.sl
  obtain ⟨aE, cE, rfl⟩ := he.sl
  clear hv he hG hpv hpe
  obtain ⟨LV, hLV⟩ : ∃ LV, LV = vs.length := ⟨_, rfl⟩
  obtain ⟨LE, hLE⟩ : ∃ LV, LV = es.length := ⟨_, rfl⟩
  have HLV := Lib.hid hLV
  have HLE := Lib.hid hLE
  rw [← hLV] at HV hlV ⊢
  rw [← hLE] at HE hlE ⊢
  clear hLV hLE
  go_enter Tryz.func18, Tryz.ntmps18
  go_wp2_with fail
  refine (gnew_ok w).mono ?_
  rintro e w1 ⟨g, bV, bE, rfl, hG1, hg0, hV0, hE0, hb1⟩
  have HG1 := Lib.hid hG1
  have HB1 := Lib.hid hb1
  clear hG1 hb1
  go_wp2_with fail
  go_loopw [16] (fun i wr => ∃ k : Nat, k ≤ LV ∧ i = .int .i64 (k : Int) ∧ GOk wr g bV bE (madeTo (vs.map vEd) k) ∧ Below w.heap.size w wr) (fun i _ => LV - (intOf i).toNat)
  case atStart => exact ⟨0, by omega, rfl, HG1.out, HB1.out⟩
  case round =>
    obtain ⟨k, hk, rfl, hGk, hb⟩ := hrel
    have HGk := Lib.hid hGk
    have HB := Lib.hid hb
    have hs := hb.size
    clear hGk hb
    by_cases hlt : k < LV
    · obtain ⟨b, off, c', y, h1, hb, hy, hc⟩ := HV.out.at (by rw [← HLV.out]; exact hlt)
      simp only [Value.slice.injEq] at h1
      obtain ⟨rfl, -, rfl⟩ := h1
      obtain ⟨hwf, hok, hwr, hap⟩ := v_step HG.out HPV.out hy
      obtain ⟨yi, yl, yw⟩ := y
      have HAp := Lib.hid fun W (hW : GOk W g bV bE (madeTo (vs.map vEd) k)) => gapply_any (vEd (yi, yl, yw)) hwf (.inl rfl) g bV bE (madeTo (vs.map vEd) k) hok W hW
      rw [hwr, hap, show edC (vEd (yi, yl, yw)) = #[.int .i64 0, .int .i64 yi, .int .i64 0, .int .u8 (yl : Int), .int .i64 yw] from rfl] at HAp
      have jl : rowLoad Tryz.prog 37 ⟨b, off + k * 3, none⟩ wr = .ok (.agg #[.int .i64 yi, .int .u8 (yl : Int), .int .i64 yw]) wr := load_cells Tryz.isAgg37 Tryz.sizeOf37 wr b _ _ rfl fun j u hu => hc wr HB.out j u hu
      have hrt : row? (wr.alloc (.cells #[.int .i64 yi, .int .u8 (yl : Int), .int .i64 yw] 37)) wr.heap.size = some #[.int .i64 yi, .int .u8 (yl : Int), .int .i64 yw] := row?_alloc_at _ _ _ _ rfl
      clear hwf hok hwr hap hy hc
      go_wp2_with fail
      refine (HAp.out _ (HGk.out.below ((Below.refl _ wr).alloc (Nat.le_refl _) _))).mono ?_
      rintro r w2 ⟨rfl, hG2, hS2⟩
      have HB2 := Lib.hid ((HB.out.alloc hs _).trans (hS2.below (by simp; omega) fun j hj => by omega))
      have HG2 := Lib.hid hG2
      clear hG2 hS2 HAp jl hrt
      go_wp2_with fail
      go_roundw
      case rel => exact ⟨k + 1, by omega, by go_num, HG2.out, HB2.out⟩
      case measure => simp [intOf]; omega
    · have hkn : LV = k := by omega
      subst hkn
      have he0 : madeTo (vs.map vEd) LV = edgTo G es 0 := by rw [HLV.out, made_v_all HG.out HPV.out]; rfl
      rw [he0] at HGk
      clear he0
      go_wp2_with fail
      go_loopw [35] (fun i wr => ∃ k : Nat, k ≤ LE ∧ i = .int .i64 (k : Int) ∧ GOk wr g bV bE (edgTo G es k) ∧ Below w.heap.size w wr) (fun i _ => LE - (intOf i).toNat)
      case atStart => exact ⟨0, by omega, rfl, HGk.out, HB.out⟩
      case round =>
        obtain ⟨k, hk, rfl, hGk, hb⟩ := hrel
        have HGk := Lib.hid hGk
        have HB := Lib.hid hb
        have hs := hb.size
        clear hGk hb
        by_cases hlt : k < LE
        · obtain ⟨b, off, c', y, h1, hb, hy, hc⟩ := HE.out.at (by rw [← HLE.out]; exact hlt)
          simp only [Value.slice.injEq] at h1
          obtain ⟨rfl, -, rfl⟩ := h1
          obtain ⟨hwf, hok, hwr, hap⟩ := e_step HG.out HPE.out hy
          obtain ⟨⟨yu, yv⟩, yl, yw⟩ := y
          have HAp := Lib.hid fun W (hW : GOk W g bV bE (edgTo G es k)) => gapply_any (eEd ((yu, yv), yl, yw)) hwf (.inr rfl) g bV bE (edgTo G es k) hok W hW
          rw [hwr, hap, show edC (eEd ((yu, yv), yl, yw)) = #[.int .i64 2, .int .i64 yu, .int .i64 yv, .int .u8 (yl : Int), .int .i64 yw] from rfl] at HAp
          have jl : rowLoad Tryz.prog 39 ⟨b, off + k * 4, none⟩ wr = .ok (.agg #[.int .i64 yu, .int .i64 yv, .int .u8 (yl : Int), .int .i64 yw]) wr := load_cells Tryz.isAgg39 Tryz.sizeOf39 wr b _ _ rfl fun j u hu => hc wr HB.out j u hu
          have hrt : row? (wr.alloc (.cells #[.int .i64 yu, .int .i64 yv, .int .u8 (yl : Int), .int .i64 yw] 39)) wr.heap.size = some #[.int .i64 yu, .int .i64 yv, .int .u8 (yl : Int), .int .i64 yw] := row?_alloc_at _ _ _ _ rfl
          clear hwf hok hwr hap hy hc
          go_wp2_with fail
          refine (HAp.out _ (HGk.out.below ((Below.refl _ wr).alloc (Nat.le_refl _) _))).mono ?_
          rintro r w2 ⟨rfl, hG2, hS2⟩
          have HB2 := Lib.hid ((HB.out.alloc hs _).trans (hS2.below (by simp; omega) fun j hj => by omega))
          have HG2 := Lib.hid hG2
          clear hG2 hS2 HAp jl hrt
          go_wp2_with fail
          go_roundw
          case rel => exact ⟨k + 1, by omega, by go_num, HG2.out, HB2.out⟩
          case measure => simp [intOf]; omega
        · have hkn : LE = k := by omega
          subst hkn
          have he0 : edgTo G es LE = G := by rw [HLE.out, edgTo_all HG.out HPE.out]
          rw [he0] at HGk
          clear he0
          go_wp2_with fail
          go_ret2
          exact ⟨g, bV, bE, rfl, HGk.out, ⟨hg0, hV0, hE0⟩, HB.out⟩
end Go.Proofs.YtiojidabmlbogaaGreatDoor
