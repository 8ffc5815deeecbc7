/-
  Walks of package toptree: split.
-/
import Derived.Test.YtoboncfgogjllaaGreatDoorQTo1
namespace Go.Pal
open Go Go.RowKit
/-- A slice value reads as a list of integers, beginning anywhere in its row; of the row's block A holds. -/
def RdI (A : Nat → Prop) (w : World) (v : Value) (ns : List Int) : Prop :=
  ∃ b off c, v = .slice (some ⟨b, off, none⟩) ns.length c ∧ ns.length ≤ c ∧ A b ∧ b < w.heap.size ∧ ∀ (i : Nat) (z : Int), ns[i]? = some z → w.cell? ⟨b, off + i, none⟩ = some (.int .i64 z)
theorem RdI.keep {A A' : Nat → Prop} {w w' : World} {v : Value} {ns : List Int} (h : RdI A w v ns) (hs : w.heap.size ≤ w'.heap.size) (hk : ∀ k, k < w.heap.size → A k → w'.heap[k]? = w.heap[k]? ∧ A' k) : RdI A' w' v ns := by
  obtain ⟨b, off, c, h1, h2, hA, h3, h4⟩ := h
  obtain ⟨h5, h6⟩ := hk b h3 hA
  exact ⟨b, off, c, h1, h2, h6, by omega, fun i z hz => (World.cell?_of_block h5).trans (h4 i z hz)⟩
theorem RdI.below {A : Nat → Prop} {w w' : World} {v : Value} {ns : List Int} (h : RdI A w v ns) (hb : Below w.heap.size w w') : RdI A w' v ns := h.keep hb.size fun k hk hA => ⟨hb.block k hk, hA⟩
theorem Below.drewN {B : Nat} {w w' : World} (h : Below B w w') (n : Nat) : Below B w (w'.drewN n) := ⟨h.os, h.tape, h.output, h.size, h.block⟩
theorem RdI.take {A : Nat → Prop} {w : World} {b off c : Nat} {ns : List Int} (hA : A b) (hB : b < w.heap.size) (hc : ∀ (i : Nat) (z : Int), ns[i]? = some z → w.cell? ⟨b, off + i, none⟩ = some (.int .i64 z)) {k : Nat} (hk : k ≤ ns.length) (hkc : k ≤ c) : RdI A w (.slice (some ⟨b, off, none⟩) k c) (ns.take k) :=
  ⟨b, off, c, by rw [List.length_take, Nat.min_eq_left hk], by rw [List.length_take]; omega, hA, hB, fun i z hz => hc i z (by rw [List.getElem?_take] at hz; split at hz; exact hz; cases hz)⟩
theorem RdI.drop {A : Nat → Prop} {w : World} {b off c : Nat} {ns : List Int} (hA : A b) (hB : b < w.heap.size) (hc : ∀ (i : Nat) (z : Int), ns[i]? = some z → w.cell? ⟨b, off + i, none⟩ = some (.int .i64 z)) {k : Nat} (hkc : ns.length - k ≤ c) : RdI A w (.slice (some ⟨b, off + k, none⟩) (ns.length - k) c) (ns.drop k) :=
  ⟨b, off + k, c, by rw [List.length_drop], by rw [List.length_drop]; omega, hA, hB, fun i z hz => by
    rw [List.getElem?_drop] at hz
    rw [Nat.add_assoc]
    exact hc (k + i) z hz⟩
theorem splitFrom_cons (total sum x : Nat) (xs : List Nat) : splitFrom total sum (x :: xs) = if total ≤ 2 * (sum + x) then 0 else splitFrom total (sum + x) xs + 1 := rfl
theorem splitFrom_lt (total : Nat) : ∀ (sum : Nat) (ws : List Nat), ws ≠ [] → total ≤ 2 * (sum + ws.sum) → splitFrom total sum ws < ws.length
  | _, [], h, _ => absurd rfl h
  | sum, x :: xs, _, h => by
    unfold splitFrom
    split
    · simp
    · rename_i hn
      cases xs with
      | nil => simp at h; omega
      | cons y ys =>
        have := splitFrom_lt total (sum + x) (y :: ys) (by simp) (by simp at h ⊢; omega)
        simp at this ⊢
        omega
theorem sum_take_le : ∀ (ws : List Nat) (k : Nat), (ws.take k).sum ≤ ws.sum
  | [], k => by simp
  | _ :: _, 0 => by simp
  | x :: xs, k + 1 => by
    have := sum_take_le xs k
    simp only [List.take_succ_cons, List.sum_cons]
    omega
theorem splitAtW_pos {ws : List Nat} (h : 2 ≤ ws.length) : 1 ≤ splitAtW ws ∧ splitAtW ws < ws.length := by
  unfold splitAtW
  omega
end Go.Pal
namespace Go.Proofs.YtoboncfgogjllaaGreatDoor
open Go Go.RowKit Go.Pal Go.Shelf

set_option maxRecDepth 10000 in
set_option maxHeartbeats 400000 in
theorem split_any (A : Nat → Prop) (g : Nat) (pre lb : Array Value) (eg : ∀ args w, (callFunc g args).run Tryz.prog w = .ok (.enter g args) w) (ns : List Int) (ws : List Nat) (hws : ws.length = ns.length) (v : Value) (w : World) (hv : RdI A w v ns) (h2 : 2 ≤ ns.length) (hlen : ns.length ≤ 65536) (hsum : ws.sum ≤ 1000000000000)
    (hp : ∀ W, Below w.heap.size w W → ∀ (i : Nat) (z : Int) (x : Nat), ns[i]? = some z → ws[i]? = some x → Calls Tryz.prog g (pre.push (.int .i64 z) ++ lb) W fun e W' => e = .returned (.int .i64 (x : Int)) ∧ Below W.heap.size W W') :
    Calls Tryz.prog 57 #[v, .func (.func g) pre lb] w fun e w' => ∃ v1 v2, e = .returned (.tuple #[v1, v2]) ∧ RdI A w' v1 (ns.take (splitAtW ws)) ∧ RdI A w' v2 (ns.drop (splitAtW ws)) ∧ Below w.heap.size w w' := by
  obtain ⟨b, off, c, rfl, hnc, hA, hbB, hc⟩ := hv
  have HP := Lib.hid hp
  have HC := Lib.hid hc
  clear hp hc
  go_enter Tryz.func57, Tryz.ntmps57
  go_wp2
  go_loopw [6, 15] (fun t i wr => ∃ k : Nat, k ≤ ns.length ∧ i = .int .i64 (k : Int) ∧ t = .int .i64 ((ws.take k).sum : Int) ∧ Below w.heap.size w wr) (fun _ i _ => ns.length - (intOf i).toNat)
  case atStart => exact ⟨0, by omega, rfl, rfl, Below.refl _ _⟩
  case round =>
    obtain ⟨k, hk, rfl, rfl, hb⟩ := hrel
    have HB := Lib.hid hb
    clear hb
    by_cases hlt : k < ns.length
    · obtain ⟨z, hz⟩ : ∃ z, ns[k]? = some z := ⟨_, List.getElem?_eq_getElem hlt⟩
      obtain ⟨x, hx⟩ : ∃ x, ws[k]? = some x := ⟨_, List.getElem?_eq_getElem (by omega)⟩
      have hcell := (HB.out.cell (p := ⟨b, off + k, none⟩) hbB).trans (HC.out k z hz)
      have hcall := HP.out wr HB.out k z x hz hx
      have hsle := sum_take_le ws (k + 1)
      have hstk : (ws.take (k + 1)).sum = (ws.take k).sum + x := by rw [List.take_add_one, hx]; simp
      rw [hstk] at hsle
      have HST := Lib.hid hstk
      have hsz := HB.out.size
      clear hz hx hstk
      go_wp2
      refine hcall.mono ?_
      rintro e w1 ⟨rfl, hb1⟩
      have HB1 := Lib.hid (HB.out.trans (hb1.mono hsz))
      clear hb1 hcall
      go_wp2
      go_roundw
      case rel => exact ⟨k + 1, by omega, by go_num, by rw [HST.out]; go_num, HB1.out⟩
      case measure => simp [intOf]; omega
    · have hkn : k = ns.length := by omega
      subst hkn
      rw [List.take_of_length_le (by omega)]
      have hsz := HB.out.size
      have hr0 := splitFrom_lt ws.sum 0 ws (fun e => by rw [e] at hws; simp at hws; omega) (by omega)
      go_wp2
      go_loopw [9, 30] (fun t i wr => ∃ k : Nat, k < ns.length ∧ i = .int .i64 (k : Int) ∧ t = .int .i64 ((ws.take k).sum : Int) ∧ splitFrom ws.sum (ws.take k).sum (ws.drop k) + k = splitFrom ws.sum 0 ws ∧ Below w.heap.size w wr) (fun _ i _ => ns.length - (intOf i).toNat)
      case atStart => exact ⟨0, by omega, rfl, rfl, rfl, HB.out⟩
      case round =>
        obtain ⟨k, hk, rfl, rfl, hsp, hb⟩ := hrel
        obtain ⟨z, hz⟩ : ∃ z, ns[k]? = some z := ⟨_, List.getElem?_eq_getElem hk⟩
        obtain ⟨x, hx⟩ : ∃ x, ws[k]? = some x := ⟨_, List.getElem?_eq_getElem (by omega)⟩
        have HB2 := Lib.hid hb
        have hsz2 := hb.size
        clear hb
        have hcell := (HB2.out.cell (p := ⟨b, off + k, none⟩) hbB).trans (HC.out k z hz)
        have hcall := HP.out _ HB2.out k z x hz hx
        have hsle := sum_take_le ws (k + 1)
        have hstk : (ws.take (k + 1)).sum = (ws.take k).sum + x := by rw [List.take_add_one, hx]; simp
        rw [hstk] at hsle
        have hdk : ws.drop k = x :: ws.drop (k + 1) := by
          obtain ⟨h1, h2⟩ := List.getElem?_eq_some_iff.1 hx
          rw [← h2]
          exact List.drop_eq_getElem_cons h1
        rw [hdk] at hsp
        have HST := Lib.hid hstk
        clear hz hx hstk
        go_wp2_with fail
        refine hcall.mono ?_
        rintro e w1 ⟨rfl, hb1⟩
        have HB3 := Lib.hid (HB2.out.trans (hb1.mono hsz2))
        have hsz3 := HB3.out.size
        clear hb1 hcall
        by_cases hle : ws.sum ≤ 2 * ((ws.take k).sum + x)
        · rw [splitFrom_cons, if_pos hle] at hsp
          have hat : splitAtW ws = min (k + 1) (ns.length - 1) := by unfold splitAtW; rw [hws, ← hsp]; simp
          have hge : (2 : Int) * (((ws.take k).sum : Nat) + (x : Int)) ≥ ((ws.sum : Nat) : Int) := by omega
          have hcond : ¬ ((2 : Int) * (((ws.take k).sum : Nat) + (x : Int)) < ((ws.sum : Nat) : Int)) := by omega
          have hm : min ((k : Int) + 1) ((ns.length : Int) - 1) = ((splitAtW ws : Nat) : Int) := by rw [hat]; omega
          have hpos := splitAtW_pos (ws := ws) (by omega)
          rw [hws] at hpos
          obtain ⟨at', hat'⟩ : ∃ a, a = splitAtW ws := ⟨_, rfl⟩
          rw [← hat'] at hm hpos
          have HAT := Lib.hid hat'
          clear hat'
          obtain ⟨hp1, hp2⟩ := hpos
          clear hat
          go_wp2_with fail
          go_quiet (fail)
          have HB4 := Lib.hid (Go.Pal.Below.drewN HB3.out nq)
          go_wp2
          go_ret2
          refine ⟨_, _, rfl, ?_, ?_, HB4.out⟩
          all_goals rw [← HAT.out]
          · show RdI _ _ (.slice (some ⟨b, off, none⟩) at' at') _
            exact RdI.take hA (Nat.lt_of_lt_of_le hbB HB4.out.size) (fun i z hz => (HB4.out.cell (p := ⟨b, off + i, none⟩) hbB).trans (HC.out i z hz)) (by omega) (Nat.le_refl _)
          · show RdI _ _ (.slice (some ⟨b, off + at', none⟩) (ns.length - at') (c - at')) _
            exact RdI.drop hA (Nat.lt_of_lt_of_le hbB HB4.out.size) (fun i z hz => (HB4.out.cell (p := ⟨b, off + i, none⟩) hbB).trans (HC.out i z hz)) (by omega)
        · rw [splitFrom_cons, if_neg hle] at hsp
          have hk1 : k + 1 < ns.length := by
            rcases Nat.lt_or_ge (k + 1) ns.length with h | h
            · exact h
            · exfalso
              have := HST.out
              rw [List.take_of_length_le (by omega)] at this
              omega
          go_wp2_with fail
          go_roundw
          case rel => exact ⟨k + 1, hk1, by go_num, by rw [HST.out]; go_num, by rw [HST.out, ← hsp]; omega, HB3.out⟩
          case measure => simp [intOf]; omega
end Go.Proofs.YtoboncfgogjllaaGreatDoor
