/-
  The walk of the statement TreeDecompEqualClone; trees of bags copied, empty ones too.
-/
import Derived.Test.YtpflnkedolmamaaGreatDoorQGU
import Derived.Test.YtpflnkedolmamaaGreatDoorQRef3
import Derived.Lib.SliceRun
namespace Go.Proofs.YtpflnkedolmamaaGreatDoor
open Go Go.RowKit Go.Pal Go.Shelf
attribute [local go_sem] Oper.semAt_some

set_option maxHeartbeats 1000000 in
theorem cloneT_own0 (a : Addr) (c : Nat) (w : World) : Calls Tryz.prog 58 #[.slice (some a) 0 c] w fun e w' => ∃ v', e = .returned v' ∧ OwnT w.heap.size w' v' [] ∧ Below w.heap.size w w' := by
  have q22 : ∀ (w : World) (a : Option Addr) (n c n' c' : Nat), (binOp .eql 23 (.slice a n c) (.slice none n' c')).run Tryz.prog w = .ok (.bool a.isNone) w := fun w a n c n' c' => Lib.run_eql_slice_nil w _ _ a n c n' c' Tryz.underlying23
  obtain ⟨i0, hi, hz0, hz1, hz2⟩ := info_parts qinfoBag
  go_enter Tryz.func58, Tryz.ntmps58
  go_wp2_with (at_builtin; refine wpList_append_own _ rfl _ _ 23 rfl w.heap.size 35 i0 _ 17 136 Tryz.underlying23 hi hz0 hz1 hz2 (by simp [Value.cells, bagA_size]) (by decide) _ _ _ rfl (World.ownsRow_made w #[] 0 (Nat.le_refl _) (Nat.zero_le _) (by simp)) a 0 c [] rfl rfl (fun j u hj => by simp at hj) (fun u hu => by simp at hu) (by simp) (by simp) (by simp) ?_)
  intro v' w1 hown hgrow hnil
  have hb : Below w.heap.size w w1 := ((Below.refl _ w).alloc (Nat.le_refl _) _).grown hgrow (by simp) (by intro k hk; simp [Value.ownBlock] at hk; omega)
  go_wp2_with fail
  go_ret
  exact ⟨v', rfl, by simpa [OwnR, encC] using hown, hb⟩
theorem cloneT_all (T : List Bg) (v : Value) (w : World) (hv : Rd bagA 17 w.heap.size w v T) (hlen : T.length ≤ 65536) :
    Calls Tryz.prog 58 #[v] w fun e w' => ∃ v', e = .returned v' ∧ OwnT w.heap.size w' v' T ∧ Below w.heap.size w w' := by
  by_cases h : T = []
  · subst h
    obtain ⟨a, c, rfl⟩ := hv.sl
    cases a with
    | none => exact cloneT_own [] _ w hv (fun _ => .inl ⟨_, _, rfl⟩) hlen
    | some a => exact cloneT_own0 a c w
  · exact cloneT_own T v w hv (fun e => absurd e h) hlen
theorem tClone_all (T : List Bg) (v : Value) (w : World) (hv : Rd bagA 17 w.heap.size w v T) (hlen : T.length ≤ 65536) :
    Calls Tryz.prog 14 #[v] w fun e w' => ∃ v', e = .returned v' ∧ OwnT w.heap.size w' v' T ∧ Below w.heap.size w w' := by
  have HC := Lib.hid (cloneT_all T v w hv hlen)
  clear hv
  go_enter Tryz.func14, Tryz.ntmps14
  go_wp2_with (go_at_call 58; refine HC.out.mono ?_; rintro e w' ⟨v', rfl, hO, hb⟩)
  obtain ⟨q, cq, rfl⟩ := hO.sl
  go_wp2_with fail
  go_ret
  exact ⟨_, rfl, hO, hb⟩
/-- A bag of a row of the call's own is stored anew. -/
theorem own_bag {T : List Bg} {B g n cap : Nat} {w : World} (hO : OwnT B w (.slice (some ⟨g, 0, none⟩) n cap) T) {i : Nat} {x : Bg} (hx : T[i]? = some x) (y : Bg) :
    rowStore Tryz.prog 35 ⟨g, i * 17, none⟩ (.agg (bagA y)) w = .ok () (w.setCells g (i * 17) (bagA y).toList) ∧ OwnT B (w.setCells g (i * 17) (bagA y).toList) (.slice (some ⟨g, 0, none⟩) n cap) (T.set i y) := by
  constructor
  · obtain ⟨f, hrow, hf, hcap, hm, hB, rfl⟩ := row_own hO
    have hi := (List.getElem?_eq_some_iff.1 hx).1
    have hst := run_storeCells_cells (P := Tryz.prog) g (i * 17) (bagA y).toList 0 w (fun j hj => by
      rw [Array.length_toList, bagA_size] at hj
      rw [hrow.cell (by omega)]; rfl) (fun j hj => hrow.frozen _) (fun v hv => bagA_one y v hv)
    simp only [Nat.add_zero] at hst
    unfold rowStore
    simp [storeVar, Sem.run_bind, Tryz.sizeOf35, Value.cells, bagA_size, hst]
  · have h := own_patch (y := y) elB hO hx 0 (bagA y).toList (by rw [Array.length_toList, bagA_size]; decide) fun j u hu => by
      have := (Array.getElem?_eq_some_iff.1 hu).1
      rw [if_pos ⟨by omega, by rw [Array.length_toList]; omega⟩]
      simpa using hu
    exact h
@[go_sem ↓ high] theorem storeBG (a : Addr) (v : Value) : storeVar 35 a v = storeLater 35 a v := rfl
@[go_sem] theorem storeBG_run (w : World) (a : Addr) (v : Value) : (storeLater 35 a v).run Tryz.prog w = rowStore Tryz.prog 35 a v w := rfl

set_option maxRecDepth 10000 in
set_option maxHeartbeats 4000000 in
theorem eqClone_any (T T' : List Bg) (hS : ∀ x ∈ T, IsSet x.2) (hS' : ∀ x ∈ T', IsSet x.2) (va vb : Value) (up : Int) (hup : InI up) (w : World) (ha : Rd bagA 17 w.heap.size w va T) (hb : Rd bagA 17 w.heap.size w vb T') (hT : Tab2 w) :
    Calls Tryz.prog 3 #[va, vb, .int .i64 up] w fun e w' => e = .returned (.bool true) ∧ Below w.heap.size w w' := by
  have HA := Lib.hid ha
  have HB := Lib.hid hb
  have HS := Lib.hid hS
  have HS' := Lib.hid hS'
  have HT := Lib.hid hT
  have HK := Lib.hid fun W (h : Below w.heap.size w W) => known26_any W (HT.out.on h)
  obtain ⟨a, c, rfl⟩ := ha.sl
  obtain ⟨a2, c2, rfl⟩ := hb.sl
  have hu0 := hup.1
  have hu1 := hup.2
  clear ha hb hS hS' hT hup
  by_cases hl : T.length ≤ 30 ∧ T'.length ≤ 30
  · obtain ⟨hl1, hl2⟩ := hl
    go_enter Tryz.func3, Tryz.ntmps3
    go_wp2_with fail
    refine (HK.out w (Below.refl _ _)).mono ?_
    rintro e w1 ⟨rfl, hb1⟩
    have HB1 := Lib.hid hb1
    clear hb1
    go_wp2_with fail
    refine (l26To_any T _ w1 ((HA.out.below HB1.out (Nat.le_refl _)).mono HB1.out.size) (by omega) HS.out).mono ?_
    rintro e w2 ⟨x, rfl, hx, hb2⟩
    have HX := Lib.hid hx
    have HB2 := Lib.hid (HB1.out.trans (hb2.mono HB1.out.size))
    obtain ⟨xa, xc, rfl, -⟩ := hx
    clear hb2
    go_wp2_with fail
    refine (tClone_all T _ w2 ((HA.out.below HB2.out (Nat.le_refl _)).mono HB2.out.size) (by omega)).mono ?_
    rintro e w3 ⟨v3, rfl, hO3, hb3⟩
    have HO3 := Lib.hid hO3
    have HC3 := Lib.hid hb3
    have hs2 := HB2.out.size
    obtain ⟨q3, c3, rfl⟩ := hO3.sl
    clear hb3 hO3
    have HAr := Lib.hid fun W (hb : Below w2.heap.size w2 W) => (HA.out.below (HB2.out.trans (hb.mono hs2)) (Nat.le_refl _)).mono (Nat.le_trans hs2 hb.size)
    have HBr := Lib.hid fun W (hb : Below w2.heap.size w2 W) => (HB.out.below (HB2.out.trans (hb.mono hs2)) (Nat.le_refl _)).mono (Nat.le_trans hs2 hb.size)
    go_wp2_with fail
    refine (tdEqual_any T T' HS.out HS'.out _ _ w3 (HAr.out w3 HC3.out) (HBr.out w3 HC3.out) (by omega) (by omega)).mono ?_
    rintro e w4 ⟨rfl, hb4⟩
    have HO4 := Lib.hid (HO3.out.below hb4 (Nat.le_refl _))
    have HC4 := Lib.hid (HC3.out.trans (hb4.mono HC3.out.size))
    clear hb4 HO3
    go_wp2_with fail
    refine (l26To_any T' _ w4 (HBr.out w4 HC4.out) (by omega) HS'.out).mono ?_
    rintro e w5 ⟨y, rfl, hy, hb5⟩
    have HY := Lib.hid hy
    have HO5 := Lib.hid (HO4.out.below hb5 (Nat.le_refl _))
    have HC5 := Lib.hid (HC4.out.trans (hb5.mono HC4.out.size))
    obtain ⟨ya, yc, rfl, -⟩ := hy
    clear hb5 HO4
    go_wp2_with fail
    refine (r26same_any T T' _ _ w5 (HX.out.below HC5.out) HY.out (by omega) (by omega)).mono ?_
    rintro e w6 ⟨rfl, hb6⟩
    have HO6 := Lib.hid (HO5.out.below hb6 (Nat.le_refl _))
    have HC6 := Lib.hid (HC5.out.trans (hb6.mono HC5.out.size))
    have hbb : (decide (T = T') != decide (T = T')) = false := by cases decide (T = T') <;> rfl
    clear hb6 HO5
    obtain ⟨bq, hbq⟩ : ∃ bq, bq = decide (T = T') := ⟨_, rfl⟩
    rw [← hbq] at hbb ⊢
    clear hbq
    go_wp2_with fail
    refine (tdEqual_any T T HS.out HS.out _ _ w6 (HAr.out w6 HC6.out) (HO6.out.rd elB) (by omega) (by omega)).mono ?_
    rw [decide_eq_true rfl]
    rintro e w7 ⟨rfl, hb7⟩
    have HO7 := Lib.hid (HO6.out.below hb7 (Nat.le_refl _))
    have HC7 := Lib.hid (HC6.out.trans (hb7.mono HC6.out.size))
    clear hb7 HO6
    go_wp2_with fail
    go_loopw [9] (fun i wr => ∃ (k : Nat) (L : List Bg), k ≤ T.length ∧ i = .int .i64 (k : Int) ∧ L.length = T.length ∧ OwnT w2.heap.size wr (.slice q3 T.length c3) L ∧ Below w2.heap.size w2 wr) (fun i _ => T.length - (intOf i).toNat)
    case atStart => exact ⟨0, T, by omega, rfl, rfl, HO7.out, HC7.out⟩
    case round =>
      obtain ⟨k, L, hk, rfl, hL, hO, hb⟩ := hrel
      have HO := Lib.hid hO
      have HBw := Lib.hid hb
      have HLL := Lib.hid hL
      by_cases hlt : k < T.length
      · obtain ⟨x, hx⟩ : ∃ x, L[k]? = some x := ⟨_, List.getElem?_eq_getElem (by omega)⟩
        obtain ⟨g, rfl, hg⟩ : ∃ g, q3 = some ⟨g, 0, none⟩ ∧ w2.heap.size ≤ g := by
          rcases hO.2 with ⟨h, h2⟩ | ⟨g, cap, cur, h, h2, _⟩
          · omega
          · simp only [Value.slice.injEq] at h
            exact ⟨g, h.1, h2⟩
        obtain ⟨hst, hO2⟩ := own_bag hO hx (up, 0)
        have HO2 := Lib.hid hO2
        have HB2 := Lib.hid (below_setCells hg (bagA (up, 0)).toList (k * 17) wr hb)
        clear hO hb hL hx hO2
        go_wp2_with (refine qwpList_bBag1 rfl _ rfl (up : Int) rfl ?_)
        go_roundw
        case rel => exact ⟨k + 1, L.set k (up, 0), by omega, by go_num, by rw [List.length_set]; exact HLL.out, HO2.out, HB2.out⟩
        case measure => simp [intOf]; omega
      · have hkn : k = T.length := by omega
        subst hkn
        clear hO hb hL
        go_wp2_with fail
        refine (l26To_any T _ wr (HAr.out wr HBw.out) (by omega) HS.out).mono ?_
        rintro e w8 ⟨z, rfl, hz, hb8⟩
        have HZ := Lib.hid hz
        have HC8 := Lib.hid (HBw.out.trans (hb8.mono HBw.out.size))
        obtain ⟨za, zc, rfl, -⟩ := hz
        clear hb8
        go_wp2_with fail
        refine (r26same_any T T _ _ w8 HZ.out (HX.out.below HC8.out) (by omega) (by omega)).mono ?_
        rw [decide_eq_true rfl]
        rintro e w9 ⟨rfl, hb9⟩
        have HC9 := Lib.hid (HC8.out.trans (hb9.mono HC8.out.size))
        clear hb9
        go_wp2_with fail
        go_ret
        exact ⟨rfl, HB2.out.trans (HC9.out.mono hs2)⟩
  · by_cases h1 : T.length ≤ 30
    · have h2 : ¬ T'.length ≤ 30 := fun h => hl ⟨h1, h⟩
      clear hl
      go_enter Tryz.func3, Tryz.ntmps3
      go_wp2_with fail
      refine (HK.out w (Below.refl _ _)).mono ?_
      rintro e w1 ⟨rfl, hb1⟩
      have HB1 := Lib.hid hb1
      clear hb1
      go_wp2_with fail
      refine (HK.out w1 HB1.out).mono ?_
      rintro e w2 ⟨rfl, hb2⟩
      have HB2 := Lib.hid (HB1.out.trans (hb2.mono HB1.out.size))
      clear hb2
      go_wp2_with fail
      go_ret
      exact ⟨rfl, HB2.out⟩
    · clear hl
      go_enter Tryz.func3, Tryz.ntmps3
      go_wp2_with fail
      refine (HK.out w (Below.refl _ _)).mono ?_
      rintro e w1 ⟨rfl, hb1⟩
      have HB1 := Lib.hid hb1
      clear hb1
      go_wp2_with fail
      refine (HK.out w1 HB1.out).mono ?_
      rintro e w2 ⟨rfl, hb2⟩
      have HB2 := Lib.hid (HB1.out.trans (hb2.mono HB1.out.size))
      clear hb2
      go_wp2_with fail
      go_ret
      exact ⟨rfl, HB2.out⟩
end Go.Proofs.YtpflnkedolmamaaGreatDoor
