/-
  Walks of package treedecomp.
-/
import Derived.Test.YtmmhngjndnonhaaGreatDoorDSets
import Derived.Test.YtmmhngjndnonhaaGreatDoorDPlain
set_option linter.unusedSimpArgs false
set_option linter.unusedVariables false
namespace Go.Proofs.YtmmhngjndnonhaaGreatDoor
open Go Go.RowKit Go.Pal

@[go_sem ↓ high] theorem loadBag (a : Addr) : loadVar 126 a = loadLater 126 a := rfl
@[go_sem ↓ high] theorem storeBag (a : Addr) (v : Value) : storeVar 126 a v = storeLater 126 a v := rfl
@[go_sem] theorem loadBag_run (w : World) (a : Addr) : (loadLater 126 a).run Tryz.prog w = rowLoad Tryz.prog 126 a w := rfl
@[go_sem] theorem storeBag_run (w : World) (a : Addr) (v : Value) : (storeLater 126 a v).run Tryz.prog w = rowStore Tryz.prog 126 a v w := rfl
@[go_sem] theorem storeBag_at (w : World) (g : Nat) (d : Array Value) : rowStore Tryz.prog 126 ⟨g, 0, none⟩ (.agg d) w = match row? w g with
      | some c => if c.size = 17 ∧ d.size = 17 ∧ allOne d = true then .ok () (w.setRow g d) else laterStore Tryz.prog 126 ⟨g, 0, none⟩ (.agg d) w
      | none => laterStore Tryz.prog 126 ⟨g, 0, none⟩ (.agg d) w := store_row Tryz.sizeOf126 w g d
@[go_sem ↓ high] theorem zeroBag (w : World) : (zeroValue 126).run Tryz.prog w = .ok (.agg (bagA (0, 0))) w := by rw [Tryz.zeroValue126]; rfl
attribute [go_sem] bagA_size bagA_zero bagA_get0 bagA_extract
@[go_sem] theorem allOne_bagA (b : Bg) : allOne (bagA b) = true := by
  unfold allOne
  rw [Array.all_eq_true_iff_forall_mem]
  exact fun v hv => bagA_one b v (by simpa using hv)

set_option maxRecDepth 10000 in
set_option maxHeartbeats 400000 in
theorem indexFuncT (p : Bg → Bool) (g : Nat) (lb : Array Value) (eg : ∀ args w, (callFunc g args).run Tryz.prog w = .ok (.enter g args) w) (T : List Bg) (v : Value) (w : World) (hv : Rd bagA 17 w.heap.size w v T) (hlen : T.length ≤ 9223372036854775807)
    (hp : ∀ W, Below w.heap.size w W → ∀ x ∈ T, Calls Tryz.prog g (#[.agg (bagA x)] ++ lb) W fun e W' => e = .returned (.bool (p x)) ∧ Below W.heap.size W W') :
    Calls Tryz.prog 137 #[v, .func (.func g) #[] lb] w fun e w' => e = .returned (.int .i64 (idx p T)) ∧ Below w.heap.size w w' := by
  obtain ⟨a, c, rfl, hr⟩ := hv
  have HP := Lib.hid hp; clear hp
  have HR := Lib.hid hr; clear hr
  go_enter Tryz.func137, Tryz.ntmps137
  go_wp2
  go_loopw [8] (fun i wr => ∃ k : Nat, k ≤ T.length ∧ i = .int .i64 k ∧ (∀ j x, j < k → T[j]? = some x → p x = false) ∧ Below w.heap.size w wr) (fun i _ => T.length - (intOf i).toNat)
  case atStart => exact ⟨0, by omega, rfl, fun j x hj => by omega, Below.refl _ _⟩
  case round =>
    obtain ⟨k, hk, rfl, hno, hb⟩ := hrel
    have HN := Lib.hid hno; clear hno
    by_cases hlt : k < T.length
    · obtain ⟨x, hx⟩ : ∃ x, T[k]? = some x := ⟨_, List.getElem?_eq_getElem hlt⟩
      have HX := Lib.hid hx
      rcases HR.out with h | ⟨b, off, rfl, hbB, hc⟩
      · rw [h] at hlt; simp at hlt
      have hl : rowLoad Tryz.prog 126 ⟨b, off + k * 17, none⟩ wr = .ok (.agg (bagA x)) wr := load_cells Tryz.isAgg126 Tryz.sizeOf126 wr b _ (bagA x) (bagA_size x) fun j u hu => (hb.cell (p := ⟨b, off + k * 17 + j, none⟩) hbB).trans (hc k x hx j u hu)
      have HC := Lib.hid hc
      have HB := Lib.hid hb
      clear hx hc
      go_wp2_with fail
      refine (HP.out wr HB.out x (List.mem_of_getElem? HX.out)).mono ?_
      rintro e w1 ⟨rfl, hb1⟩
      have hB1 : Below w.heap.size w w1 := HB.out.trans (hb1.mono HB.out.size)
      cases hpx : p x with
      | true =>
        go_wp2
        go_ret
        refine ⟨?_, hB1⟩
        rw [idx_some HX.out hpx HN.out]
        rfl
      | false =>
        have HPX := Lib.hid hpx; clear hpx
        go_wp2
        go_roundw
        case rel => exact ⟨k + 1, by omega, by go_num, fun j y hj hy => by
          by_cases h : j = k
          · subst h
            have := HX.out
            rw [hy] at this
            cases this
            exact HPX.out
          · exact HN.out j y (by omega) hy, hB1⟩
        case measure => simp [intOf]; omega
    · have hk' : k = T.length := by omega
      have HK := Lib.hid hk'; clear hk'
      have HR2 := HR
      go_wp2
      go_ret
      refine ⟨?_, hb⟩
      rw [idx_none fun j x hx => HN.out j x (by have := (List.getElem?_eq_some_iff.1 hx).1; have := HK.out; omega) hx]
      rfl

set_option maxHeartbeats 400000 in
theorem containsFuncT (p : Bg → Bool) (g : Nat) (lb : Array Value) (eg : ∀ args w, (callFunc g args).run Tryz.prog w = .ok (.enter g args) w) (T : List Bg) (v : Value) (w : World) (hv : Rd bagA 17 w.heap.size w v T) (hlen : T.length ≤ 9223372036854775807)
    (hp : ∀ W, Below w.heap.size w W → ∀ x ∈ T, Calls Tryz.prog g (#[.agg (bagA x)] ++ lb) W fun e W' => e = .returned (.bool (p x)) ∧ Below W.heap.size W W') :
    Calls Tryz.prog 131 #[v, .func (.func g) #[] lb] w fun e w' => e = .returned (.bool (T.any p)) ∧ Below w.heap.size w w' := by
  have HC := Lib.hid (indexFuncT p g lb eg T v w hv hlen hp)
  clear hv hp eg
  go_enter Tryz.func131, Tryz.ntmps131
  go_wp2_with (go_at_call 137; refine HC.out.mono ?_; rintro e w' ⟨rfl, hb⟩)
  go_ret
  refine ⟨?_, hb⟩
  rw [← idx_nonneg]
  rfl

set_option maxHeartbeats 400000 in
/-- The test of Check: a parent out of range. -/
theorem check1_any (b : Bg) (g : Nat) (v : Value) (n : Nat) (w : World) (hv : row? w g = some #[v]) (hn : ∃ a c, v = .slice a n c) :
    Calls Tryz.prog 133 #[.agg (bagA b), .pointer (some ⟨g, 0, none⟩)] w fun e w' => e = .returned (.bool (decide (b.1 < -1) || decide ((n : Int) ≤ b.1))) ∧ Below w.heap.size w w' := by
  obtain ⟨a, c, rfl⟩ := hn
  have hg := row?_lt hv
  have c0 := (cell?_row (i := 0) hv)
  simp at c0
  have Hv := Lib.hid hv; clear hv
  by_cases h1 : b.1 < -1
  · go_enter Tryz.func133, Tryz.ntmps133
    have h1' : decide (b.1 < -1) = true := by simpa using h1
    go_wp2
    go_ret
    refine ⟨by simp [h1], ?_⟩
    (repeat' (first | (with_reducible exact Below.refl _ _) | (with_reducible assumption) | (with_reducible refine Below.alloc ?_ ?_ _) | (with_reducible refine Below.drew ?_) | (with_reducible refine Below.setCell ?_ ?_ _) | (with_reducible refine below_setRow ?_ ?_ _) | (with_reducible exact Nat.le_refl _) | omega | (simp; done) | (simp; omega) | (simp at *; omega)))
  · have h1' : decide (b.1 < -1) = false := by simpa using h1
    go_enter Tryz.func133, Tryz.ntmps133
    go_wp2
    go_ret
    refine ⟨by simp, ?_⟩
    (repeat' (first | (with_reducible exact Below.refl _ _) | (with_reducible assumption) | (with_reducible refine Below.alloc ?_ ?_ _) | (with_reducible refine Below.drew ?_) | (with_reducible refine Below.setCell ?_ ?_ _) | (with_reducible refine below_setRow ?_ ?_ _) | (with_reducible exact Nat.le_refl _) | omega | (simp; done) | (simp; omega) | (simp at *; omega)))
end Go.Proofs.YtmmhngjndnonhaaGreatDoor
