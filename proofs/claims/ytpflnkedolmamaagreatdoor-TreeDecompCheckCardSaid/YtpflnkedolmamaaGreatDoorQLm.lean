/-
  Walks: the reference's Where, Width, Depth, Deep, Fits of a tree of bags; slices.Max; the program's Depth, and Root, Children, Depth of a tree that Check refuses.
  Rules for a drawn region with guards; CheckGraph of any tree of bags, and at no graph; Root of a tree that Check takes.
-/
import Derived.Test.YtpflnkedolmamaaGreatDoorQLq
import Derived.Test.YtpflnkedolmamaaGreatDoorQLp
import Derived.Test.YtpflnkedolmamaaGreatDoorQJC
set_option linter.unusedSimpArgs false
set_option linter.unusedVariables false
namespace Go.Pal
open Go
theorem hasI_mem {S : Nat} (hS : IsSet S) (n : Int) : decide (n ∈ elemsI S) = hasI S n := by
  rw [Bool.eq_iff_iff, decide_eq_true_eq]
  constructor
  · intro h
    obtain ⟨m, hm, rfl⟩ := List.mem_map.1 (show n ∈ (elems S).map fun i : Nat => (i : Int) from h)
    exact hasI_nat ((mem_elems hS).1 hm) (elems_lt hm)
  · intro h
    have h0 : 0 ≤ n ∧ n < 1024 := by
      unfold hasI at h
      rw [Bool.and_eq_true, decide_eq_true_eq] at h
      exact h.1
    have h1 := hasI_bit h
    have h2 := (mem_elemsI hS (n := n.toNat)).2 h1
    rwa [Int.toNat_of_nonneg h0.1] at h2
/-- The greatest of the first k numbers. -/
def maxTo (l : List Int) (k : Nat) : Int := (l.take k).foldl max (l.headD 0)
theorem maxTo_succ {l : List Int} {k : Nat} {x : Int} (h : l[k]? = some x) : maxTo l (k + 1) = max (maxTo l k) x := by
  unfold maxTo
  rw [List.take_add_one, h, List.foldl_append]
  rfl
theorem maxTo_one {l : List Int} {x : Int} (h : l[0]? = some x) : maxTo l 1 = x := by
  cases l with
  | nil => simp at h
  | cons y r =>
    simp at h
    subst h
    simp [maxTo]
theorem maxTo_all {l : List Int} (hne : l ≠ []) : ∀ {k : Nat}, 0 < k → k ≤ l.length → maxTo l k ∈ l ∧ ∀ j z, j < k → l[j]? = some z → z ≤ maxTo l k
  | 0, h, _ => by omega
  | k + 1, _, hk => by
    obtain ⟨x, hx⟩ : ∃ x, l[k]? = some x := ⟨_, List.getElem?_eq_getElem (by omega)⟩
    by_cases h0 : k = 0
    · subst h0
      rw [maxTo_one hx]
      refine ⟨List.mem_of_getElem? hx, fun j z hj hz => ?_⟩
      have : j = 0 := by omega
      subst this
      rw [hx] at hz
      cases hz
      exact Int.le_refl _
    · obtain ⟨h1, h2⟩ := maxTo_all hne (k := k) (by omega) (by omega)
      rw [maxTo_succ hx]
      refine ⟨?_, fun j z hj hz => ?_⟩
      · rcases Int.le_total (maxTo l k) x with h | h
        · rw [Int.max_eq_right h]; exact List.mem_of_getElem? hx
        · rw [Int.max_eq_left h]; exact h1
      · by_cases hjk : j = k
        · subst hjk
          rw [hx] at hz
          cases hz
          omega
        · have := h2 j z (by omega) hz
          omega
end Go.Pal
namespace Go.Proofs.YtpflnkedolmamaaGreatDoor
open Go Go.RowKit Go.Pal
attribute [local go_sem] Oper.semAt_some

set_option maxRecDepth 10000 in
set_option maxHeartbeats 1000000 in
theorem rwhere_any (T : List Bg) (n : Int) (v : Value) (w : World) (hv : RefT w v T) (hlen : T.length ≤ 65536) :
    Calls Tryz.prog 32 #[v, .int .i64 n] w fun e w' => ∃ v', e = .returned v' ∧ OwnI w.heap.size w' v' (whereTo T n T.length) ∧ Below w.heap.size w w' := by
  have HV := Lib.hid hv
  obtain ⟨a, c, rfl, -⟩ := hv
  go_enter Tryz.func32, Tryz.ntmps32
  go_wp2_with fail
  go_loopw [5, 6] (fun v i wr => ∃ k : Nat, k ≤ T.length ∧ i = .int .i64 (k : Int) ∧ OwnI w.heap.size wr v (whereTo T n k) ∧ Below w.heap.size w wr) (fun _ i _ => T.length - (intOf i).toNat)
  case atStart => exact ⟨0, by omega, rfl, World.ownsRow_nil _ _ _ _, Below.refl _ _⟩
  case round =>
    obtain ⟨k, hk, rfl, hO, hb⟩ := hrel
    have hsz := hb.size
    have HO := Lib.hid hO
    have HB1 := Lib.hid hb
    clear hO hb
    by_cases hlt : k < T.length
    · obtain ⟨b2, off, c2, p, S, q, cap, hv2, hx, hS, hc⟩ := HV.out.at hlt
      simp only [Value.slice.injEq] at hv2
      obtain ⟨rfl, -, rfl⟩ := hv2
      obtain ⟨k1, k2, k3⟩ := hc wr HB1.out
      have hst := whereTo_succ T n k
      rw [bagN_of hx] at hst
      have hkl := whereTo_len T n k
      have hel := elemsI_length S
      have hh := rhas_any (elemsI S) (.slice q (elemsI S).length cap) n wr k3.1 (by omega)
      rw [hasI_mem hS] at hh
      obtain ⟨hb, hhb⟩ : ∃ hb, hb = hasI S n := ⟨_, rfl⟩
      simp only at hst
      rw [← hhb] at hh hst
      have HH := Lib.hid hh
      obtain ⟨acc, hacc⟩ : ∃ acc, acc = whereTo T n k := ⟨_, rfl⟩
      rw [← hacc] at hst HO hkl
      have HST := Lib.hid hst
      clear hx hc k1 k3 hacc hst hh hhb
      go_wp2_with fail
      refine HH.out.mono ?_
      rintro e w1 ⟨rfl, rfl⟩
      clear k2
      cases hb with
      | true =>
        go_wp2_with (at_builtin; refine wpList_appT rfl 39 undI _ _ rfl (w.heap.size) _ (acc) rfl (HO.out.alloc _) _ ((k : Int)) _ rfl (by simp [go_sem]) (by first | omega | (simp; omega)) (by simp; omega) ?_)
        intro v' w2 hO2 hb2
        obtain ⟨q2, cap2, rfl⟩ := hO2.sl
        have HO2 := Lib.hid hO2
        have HB2 := Lib.hid (((HB1.out).alloc (hsz) _).trans hb2)
        clear hO2 hb2
        go_wp2_with fail
        go_roundw
        case rel => exact ⟨k + 1, by omega, by go_num, by rw [HST.out]; simp only [if_true]; exact HO2.out, HB2.out⟩
        case measure => simp [intOf]; omega
      | false =>
        go_wp2_with fail
        go_roundw
        case rel => exact ⟨k + 1, by omega, by go_num, by rw [HST.out]; simp only [Bool.false_eq_true, if_false]; exact HO.out, HB1.out⟩
        case measure => simp [intOf]; omega
    · have hkn : k = T.length := by omega
      subst hkn
      go_wp2_with fail
      go_ret
      exact ⟨_, rfl, HO.out, HB1.out⟩

set_option maxRecDepth 10000 in
set_option maxHeartbeats 1000000 in
theorem rwidth_any (T : List Bg) (v : Value) (w : World) (hv : RefT w v T) (hlen : T.length ≤ 65536) :
    Calls Tryz.prog 29 #[v] w fun e w' => e = .returned (.int .i64 (widTo T T.length)) ∧ w' = w := by
  have HV := Lib.hid hv
  obtain ⟨a, c, rfl, -⟩ := hv
  go_enter Tryz.func29, Tryz.ntmps29
  go_wp2_with fail
  go_loop [3, 4] (fun m i => ∃ k : Nat, k ≤ T.length ∧ i = .int .i64 (k : Int) ∧ m = .int .i64 (widTo T k)) (fun _ i => T.length - (intOf i).toNat)
  case atStart => exact ⟨0, by omega, rfl, rfl⟩
  case round =>
    obtain ⟨k, hk, rfl, rfl⟩ := hrel
    by_cases hlt : k < T.length
    · obtain ⟨b2, off, c2, p, S, q, cap, hv2, hx, hS, hc⟩ := HV.out.at hlt
      simp only [Value.slice.injEq] at hv2
      obtain ⟨rfl, -, rfl⟩ := hv2
      obtain ⟨k1, k2, -⟩ := hc w (Below.refl _ _)
      have hst := widTo_succ hx
      simp only [lenS_elems] at hst
      have hel := elemsI_length S
      have he2 : (elemsI S).length = (elems S).length := by simp [elemsI]
      rw [← he2] at hst
      have HST := Lib.hid hst
      clear hx hc k1 hst he2
      go_wp2_with fail
      go_round
      case rel => exact ⟨k + 1, by omega, by go_num, by rw [HST.out]⟩
      case measure => simp [intOf]; omega
    · have hkn : k = T.length := by omega
      subst hkn
      go_wp2_with fail
      go_ret
      exact ⟨rfl, rfl⟩

set_option maxRecDepth 10000 in
set_option maxHeartbeats 1000000 in
theorem rdepth_any (T : List Bg) (v : Value) (w : World) (hv : RefT w v T) (hP : ParIn T) (hlen : T.length ≤ 65536) (i : Nat) (hi : i < T.length) :
    Calls Tryz.prog 88 #[v, .int .i64 (i : Int)] w fun e w' => e = .returned (.int .i64 (deepAt T i : Int)) ∧ Below w.heap.size w w' := by
  have HA := Lib.hid (above_any T v w hv hP hlen i hi)
  obtain ⟨a, c, rfl, -⟩ := hv
  have hd : deepAt T i = ((climb T (T.length + 1) (upI T (i : Int))).getD []).length := rfl
  have HD := Lib.hid hd
  clear hd
  go_enter Tryz.func88, Tryz.ntmps88
  go_wp2_with fail
  refine HA.out.mono ?_
  rintro e w1 ⟨v1, rfl, hv1, hb1⟩
  obtain ⟨q1, c1, rfl, -⟩ := hv1
  rw [← HD.out]
  have HB1 := Lib.hid hb1
  clear hb1
  go_wp2_with fail
  go_ret
  exact ⟨rfl, HB1.out⟩

set_option maxRecDepth 10000 in
set_option maxHeartbeats 1000000 in
theorem rdeep_any (T : List Bg) (v : Value) (w : World) (hv : RefT w v T) (hP : ParIn T) (hlen : T.length ≤ 65536) :
    Calls Tryz.prog 36 #[v] w fun e w' => e = .returned (.int .i64 (deepTo T T.length : Int)) ∧ Below w.heap.size w w' := by
  have HV := Lib.hid hv
  have HPI := Lib.hid hP
  obtain ⟨a, c, rfl, -⟩ := hv
  go_enter Tryz.func36, Tryz.ntmps36
  go_wp2_with fail
  go_loopw [3, 4] (fun m i wr => ∃ k : Nat, k ≤ T.length ∧ i = .int .i64 (k : Int) ∧ m = .int .i64 (deepTo T k : Int) ∧ Below w.heap.size w wr) (fun _ i _ => T.length - (intOf i).toNat)
  case atStart => exact ⟨0, by omega, rfl, rfl, Below.refl _ _⟩
  case round =>
    obtain ⟨k, hk, rfl, rfl, hb⟩ := hrel
    have HB := Lib.hid hb
    have hs := hb.size
    clear hb
    by_cases hlt : k < T.length
    · have hd := rdepth_any T (.slice a T.length c) wr (HV.out.below HB.out) HPI.out hlen k hlt
      have hle : deepAt T k ≤ T.length + 1 := by
        unfold deepAt
        cases hcl : climb T (T.length + 1) (upI T (k : Int)) with
        | none => simp
        | some l => have := climb_len hcl; simpa using this
      have HD := Lib.hid hd
      have HST := Lib.hid (deepTo_succ T k)
      obtain ⟨d, hdd⟩ : ∃ d, d = deepAt T k := ⟨_, rfl⟩
      rw [← hdd] at HD HST hle
      obtain ⟨m, hm⟩ : ∃ m, m = deepTo T k := ⟨_, rfl⟩
      rw [← hm] at HST ⊢
      clear hd hdd hm
      go_wp2_with fail
      refine HD.out.mono ?_
      rintro e w1 ⟨rfl, hb1⟩
      have HB1 := Lib.hid (HB.out.trans (hb1.mono hs))
      clear hb1 HD
      go_wp2_with fail
      go_roundw
      case rel => exact ⟨k + 1, by omega, by go_num, by rw [HST.out]; go_num, HB1.out⟩
      case measure => simp [intOf]; omega
    · have hkn : k = T.length := by omega
      subst hkn
      go_wp2_with fail
      go_ret
      exact ⟨rfl, HB.out⟩

set_option maxRecDepth 10000 in
set_option maxHeartbeats 1000000 in
theorem maxI_any (l : List Int) (v : Value) (w : World) (hv : RdL w v l) (hne : l ≠ []) (hlen : l.length ≤ 65536) :
    Calls Tryz.prog 87 #[v] w fun e w' => e = .returned (.int .i64 (maxTo l l.length)) ∧ w' = w := by
  have HV := Lib.hid hv
  have hpos : 0 < l.length := List.length_pos_iff.2 hne
  obtain ⟨b, off, c', z, h1, hz, hcz⟩ := hv.at hpos
  obtain ⟨a, c, rfl, -⟩ := hv
  simp only [Value.slice.injEq] at h1
  obtain ⟨rfl, -, rfl⟩ := h1
  have c0 := hcz w (Below.refl _ _)
  simp only [Nat.add_zero] at c0
  have HZ := Lib.hid (maxTo_one hz)
  clear hcz hz
  have hl1 : decide (l.length < 1) = false := by simp; omega
  have hl2 : decide ((l.length : Int) < 1) = false := by simp; omega
  go_enter Tryz.func87, Tryz.ntmps87
  go_wp2_with fail
  clear c0
  go_loop [3, 4] (fun m i => ∃ k : Nat, 0 < k ∧ k ≤ l.length ∧ i = .int .i64 (k : Int) ∧ m = .int .i64 (maxTo l k)) (fun _ i => l.length - (intOf i).toNat)
  case atStart => exact ⟨1, by omega, by omega, rfl, by rw [HZ.out]⟩
  case round =>
    obtain ⟨k, hk0, hk, rfl, rfl⟩ := hrel
    by_cases hlt : k < l.length
    · obtain ⟨b2, off2, c2, y, h1, hy, hcy⟩ := HV.out.at hlt
      simp only [Value.slice.injEq, Option.some.injEq, Addr.mk.injEq, and_true] at h1
      obtain ⟨⟨rfl, rfl⟩, -, rfl⟩ := h1
      have c0 := hcy w (Below.refl _ _)
      have HST := Lib.hid (maxTo_succ hy)
      clear hcy hy
      go_wp2_with fail
      go_round
      case rel => exact ⟨k + 1, by omega, by omega, by go_num, by rw [HST.out]⟩
      case measure => simp [intOf]; omega
    · have hkn : k = l.length := by omega
      subst hkn
      go_wp2_with fail
      go_ret
      exact ⟨rfl, rfl⟩

set_option maxHeartbeats 1000000 in
theorem tDepth_any (T : List Bg) (r : Nat) (h : Rooted T r) (hroot : rootsTo T T.length = [(r : Int)]) (hall : ∀ x, x < T.length → ∃ m, Pal.Steps (parU T) m x r) (v : Value) (w : World) (hv : Rd bagA 17 w.heap.size w v T) (hle : T.length ≤ 1024)
    (hck : ∀ W, Below w.heap.size w W → Calls Tryz.prog 27 #[v] W fun e w' => e = .returned (.int .i64 0) ∧ Below W.heap.size W w') :
    Calls Tryz.prog 34 #[v] w fun e w' => e = .returned (.int .i64 (deepTo T T.length : Int)) ∧ Below w.heap.size w w' := by
  have HC := Lib.hid (hck w (Below.refl _ _))
  have HV := Lib.hid hv
  obtain ⟨a, c, rfl⟩ := hv.sl
  obtain ⟨t, htl, hft, hts, htz, htn, htm⟩ := h.tree
  have hsz := htz.2 hall
  have hds := h.depths htl hft htn fun x hx => (htm x).2 ⟨hx, hall x hx⟩
  have hP : ParAt T := fun i x hx => by
    have hi := (List.getElem?_eq_some_iff.1 hx).1
    have hp : parU T i = x.1 := by simp [parU, hx]
    by_cases hir : i = r
    · subst hir; exact .inl (by rw [← hp, h.head])
    · obtain ⟨p, h1, h2⟩ := h.par i hi hir
      exact .inr ⟨p, by rw [← hp, h1], h2⟩
  have HP := Lib.hid hP
  have HDS := Lib.hid hds
  rw [← htl] at hroot
  have hlt := h.lt
  clear hv hck htz hds hall hP
  go_enter Tryz.func34, Tryz.ntmps34
  go_wp2_with fail
  refine HC.out.mono ?_
  rintro e w1 ⟨rfl, hb1⟩
  have HB1 := Lib.hid hb1
  have hs1 := hb1.size
  clear hb1 HC
  have hd := depths_any T (.slice a T.length c) w1 ((HV.out.below HB1.out (Nat.le_refl _)).mono hs1) (by omega) HP.out t hroot hft (by omega)
  rw [HDS.out, decide_eq_true hsz] at hd
  have HD := Lib.hid hd
  clear hd
  go_wp2_with fail
  refine HD.out.mono ?_
  rintro e w2 ⟨rfl, hr2, hb2⟩
  obtain ⟨D, hDD⟩ : ∃ D, D = (List.range T.length).map fun i => (deepAt T i : Int) := ⟨_, rfl⟩
  rw [← hDD] at hr2
  have hDl : D.length = T.length := by rw [hDD]; simp
  have hDne : D ≠ [] := fun e => by rw [e] at hDl; simp at hDl; omega
  have hrd : RdL w2 (.slice (some ⟨w1.heap.size, 0, none⟩) T.length T.length) D := by
    rw [← hDl]
    refine ⟨_, _, rfl, .inr ⟨w1.heap.size, 0, rfl, row?_lt hr2, fun i z hz => ?_⟩⟩
    rw [Nat.zero_add, cell?_row hr2]
    simp [hz]
  have hm := maxI_any D _ w2 hrd hDne (by omega)
  have hmax := maxTo_all hDne (k := D.length) (by omega) (Nat.le_refl _)
  have hM : maxTo D D.length + 1 = (deepTo T T.length : Int) := by
    refine deep_max (fun z hz => ?_) (by rw [← hDD]; exact hmax.1)
    rw [← hDD] at hz
    obtain ⟨j, hj⟩ := List.mem_iff_getElem?.1 hz
    exact hmax.2 j z (List.getElem?_eq_some_iff.1 hj).1 hj
  obtain ⟨M, hMM⟩ : ∃ M, M = maxTo D D.length := ⟨_, rfl⟩
  rw [← hMM] at hm hM
  have HM := Lib.hid hM
  have HMx := Lib.hid hm
  have HB2 := Lib.hid (HB1.out.trans (hb2.mono hs1))
  have hMb : -1 ≤ M ∧ M ≤ 100000 := by
    have h1 : deepTo T T.length ≤ T.length + 2 := by
      obtain ⟨i, hi, he⟩ := deepTo_at T (k := T.length) (by omega)
      rw [he]
      have : deepAt T i ≤ T.length + 1 := by
        unfold deepAt
        cases hcl : climb T (T.length + 1) (upI T (i : Int)) with
        | none => simp
        | some l => have := climb_len hcl; simpa using this
      omega
    omega
  obtain ⟨hM0, hM1⟩ := hMb
  clear hr2 hb2 hrd hm hmax hM hMM hDD hDl hDne HD
  go_wp2_with fail
  refine HMx.out.mono ?_
  rintro e w3 ⟨rfl, rfl⟩
  go_wp2_with fail
  go_ret
  exact ⟨by rw [HM.out]; rfl, HB2.out⟩
theorem tDepth_bad (T : List Bg) (n : Int) (hn : n ≠ 0) (v : Value) (w : World) (hv : ∃ a m c, v = .slice a m c) (hck : Calls Tryz.prog 27 #[v] w fun e w' => e = .returned (.int .i64 n) ∧ Below w.heap.size w w') :
    Calls Tryz.prog 34 #[v] w fun e w' => e = .returned (.int .i64 0) ∧ Below w.heap.size w w' := by
  have HC := Lib.hid hck
  obtain ⟨a, m, c, rfl⟩ := hv
  have h2 : (n != 0) = true := by simpa using hn
  have h3 : (n == 0) = false := by simpa using hn
  clear hck
  go_enter Tryz.func34, Tryz.ntmps34
  go_wp2_with fail
  refine HC.out.mono ?_
  rintro e w1 ⟨rfl, hb1⟩
  have HB1 := Lib.hid hb1
  clear hb1
  go_wp2_with fail
  go_ret
  exact ⟨rfl, HB1.out⟩
theorem tRoot_bad (n : Int) (hn : n ≠ 0) (v : Value) (w : World) (hv : ∃ a m c, v = .slice a m c) (hck : Calls Tryz.prog 27 #[v] w fun e w' => e = .returned (.int .i64 n) ∧ Below w.heap.size w w') :
    Calls Tryz.prog 25 #[v] w fun e w' => e = .returned (.int .i64 (-1)) ∧ Below w.heap.size w w' := by
  have HC := Lib.hid hck
  obtain ⟨a, m, c, rfl⟩ := hv
  have h2 : (n != 0) = true := by simpa using hn
  have h3 : (n == 0) = false := by simpa using hn
  clear hck
  go_enter Tryz.func25, Tryz.ntmps25
  go_wp2_with fail
  refine HC.out.mono ?_
  rintro e w1 ⟨rfl, hb1⟩
  have HB1 := Lib.hid hb1
  clear hb1
  go_wp2_with fail
  go_ret
  exact ⟨rfl, HB1.out⟩
theorem tChildren_bad (n : Int) (hn : n ≠ 0) (v : Value) (w : World) (hv : ∃ a m c, v = .slice a m c) (hck : Calls Tryz.prog 27 #[v] w fun e w' => e = .returned (.int .i64 n) ∧ Below w.heap.size w w') :
    Calls Tryz.prog 33 #[v] w fun e w' => e = .returned (.slice none 0 0) ∧ Below w.heap.size w w' := by
  have HC := Lib.hid hck
  obtain ⟨a, m, c, rfl⟩ := hv
  have h2 : (n != 0) = true := by simpa using hn
  have h3 : (n == 0) = false := by simpa using hn
  clear hck
  go_enter Tryz.func33, Tryz.ntmps33
  go_wp2_with fail
  refine HC.out.mono ?_
  rintro e w1 ⟨rfl, hb1⟩
  have HB1 := Lib.hid hb1
  clear hb1
  go_wp2_with fail
  go_ret
  exact ⟨rfl, HB1.out⟩
theorem tChildren_rt (T : List Bg) (hP : ParAt T) (v : Value) (w : World) (hv : Rd bagA 17 w.heap.size w v T) (hle : T.length ≤ 65536) (hck : Calls Tryz.prog 27 #[v] w fun e w' => e = .returned (.int .i64 0) ∧ Below w.heap.size w w') :
    Calls Tryz.prog 33 #[v] w fun e w' => ∃ g vs, e = .returned (.slice (some ⟨g, 0, none⟩) T.length T.length) ∧ w.heap.size ≤ g ∧ vs.length = T.length ∧ Grid g w' vs (kidsTo T T.length) ∧ Below w.heap.size w w' := by
  have HC := Lib.hid hck
  have HV := Lib.hid hv
  have HP := Lib.hid hP
  obtain ⟨a, c, rfl⟩ := hv.sl
  clear hv hck hP
  go_enter Tryz.func33, Tryz.ntmps33
  go_wp2_with fail
  refine HC.out.mono ?_
  rintro e w1 ⟨rfl, hb1⟩
  go_wp2_with fail
  refine (below_any T _ w1 ((HV.out.below hb1 (Nat.le_refl _)).mono hb1.size) hle HP.out).mono ?_
  rintro e w2 ⟨vs, rfl, hvs, hG, hb2⟩
  go_wp2
  go_ret
  exact ⟨w1.heap.size, vs, rfl, hb1.size, hvs, hG, hb1.trans (hb2.mono hb1.size)⟩
end Go.Proofs.YtpflnkedolmamaaGreatDoor
namespace Go.Proofs.YtpflnkedolmamaaGreatDoor
open Go Go.RowKit Go.Pal
attribute [local go_sem] Oper.semAt_some
theorem wpPlan_stillG {ops : Array Oper} {S : World → Prop} {Q : Exit → Act → World → Prop} {K : Act → World → Prop} {a : Act} {w : World} {k : Nat} {r : List (Nat × Bool)} {o : Oper} {v : Value} (ho : ops[k]? = some o) (hw : Region.wanted o (yielded ops a.tmps) = true) (hv : ∀ w, S w → (execOp a.eval o).run Tryz.prog w = .ok (.value v) w)
    (h : ∀ K' : Act → World → Prop, (∀ a w, wpPlan Tryz.prog ops S Q K r a w → K' a w) → K' (a.put o.dst v) w) : wpPlan Tryz.prog ops S Q K ((k, true) :: r) a w :=
  ⟨o, v, ho, .inl ⟨hw, hv⟩, h _ fun _ _ h => h⟩
theorem wpPlan_actG {ops : Array Oper} {S : World → Prop} {Q : Exit → Act → World → Prop} {K : Act → World → Prop} {a : Act} {w : World} {k : Nat} {r : List (Nat × Bool)} {o : Oper} (ho : ops[k]? = some o) (hw : Region.wanted o (yielded ops a.tmps) = true)
    (h : ∀ K' : Act → World → Prop, (∀ a w, S w → wpPlan Tryz.prog ops S Q K r a w → K' a w) → o.wp Tryz.prog a w K' Q) : wpPlan Tryz.prog ops S Q K ((k, false) :: r) a w := by
  show wpOp Tryz.prog ops Q k _ a w
  unfold wpOp
  simp only [ho, hw, if_true]
  exact .inl (h _ fun a w hs hp => ⟨hs, hp⟩)

theorem tcg_nil (v : Value) (w : World) (hv : ∃ a m c, v = .slice a m c) :
    Calls Tryz.prog 22 #[v, .pointer none] w fun e w' => e = .returned (.int .i64 1) ∧ Below w.heap.size w w' := by
  obtain ⟨a, m, c, rfl⟩ := hv
  go_enter Tryz.func22, Tryz.ntmps22
  go_wp2_with fail
  go_ret
  exact ⟨rfl, Below.refl _ _⟩
theorem tcg_bad (n : Int) (hn : n ≠ 0) (v : Value) (g : Nat) (w : World) (hv : ∃ a m c, v = .slice a m c) (hck : Calls Tryz.prog 27 #[v] w fun e w' => e = .returned (.int .i64 n) ∧ Below w.heap.size w w') :
    Calls Tryz.prog 22 #[v, .pointer (some ⟨g, 0, none⟩)] w fun e w' => e = .returned (.int .i64 n) ∧ Below w.heap.size w w' := by
  have HC := Lib.hid hck
  obtain ⟨a, m, c, rfl⟩ := hv
  have h2 : (n != 0) = true := by simpa using hn
  have h3 : (n == 0) = false := by simpa using hn
  clear hck
  go_enter Tryz.func22, Tryz.ntmps22
  go_wp2_with fail
  refine HC.out.mono ?_
  rintro e w1 ⟨rfl, hb1⟩
  have HB1 := Lib.hid hb1
  clear hb1
  go_wp2_with fail
  go_ret
  exact ⟨rfl, HB1.out⟩
/-- CheckGraph of any tree of bags. -/
theorem tcg_all (T : List Bg) (hS : ∀ x ∈ T, IsSet x.2) (g bV bE : Nat) (G : Gr) (hG : G.Ok) (v : Value) (w : World) (hv : Rd bagA 17 w.heap.size w v T) (hlen : T.length ≤ 1024) (h : GOk w g bV bE G) :
    Calls Tryz.prog 22 #[v, .pointer (some ⟨g, 0, none⟩)] w fun e w' => e = .returned (.int .i64 (rFitsN G T)) ∧ Below w.heap.size w w' := by
  have hck := fun W (hb : Below w.heap.size w W) => tcheck_any T hS v W ((hv.below hb (Nat.le_refl _)).mono hb.size) hlen
  by_cases h0 : rCheckN T = 0
  · rw [fits_eq hG h0]
    simp only [h0] at hck
    exact checkGraph_any T hS g bV bE G hG v w hv (by omega) h hck
  · have hF : rFitsN G T = rCheckN T := by unfold rFitsN; rw [if_pos h0]
    rw [hF]
    obtain ⟨a, c, rfl⟩ := hv.sl
    exact tcg_bad _ h0 _ g w ⟨_, _, _, rfl⟩ (hck w (Below.refl _ _))
theorem tRoot_rt (T : List Bg) (r : Nat) (hr : rootsTo T T.length = [(r : Int)]) (v : Value) (w : World) (hv : Rd bagA 17 w.heap.size w v T) (hle : T.length ≤ 65536) (hck : Calls Tryz.prog 27 #[v] w fun e w' => e = .returned (.int .i64 0) ∧ Below w.heap.size w w') :
    Calls Tryz.prog 25 #[v] w fun e w' => e = .returned (.int .i64 (r : Int)) ∧ Below w.heap.size w w' := by
  have HC := Lib.hid hck
  have HV := Lib.hid hv
  have HR := Lib.hid hr
  obtain ⟨a, c, rfl⟩ := hv.sl
  clear hv hck hr
  go_enter Tryz.func25, Tryz.ntmps25
  go_wp2_with fail
  refine HC.out.mono ?_
  rintro e w1 ⟨rfl, hb1⟩
  go_wp2_with fail
  refine (roots_any T _ w1 ((HV.out.below hb1 (Nat.le_refl _)).mono hb1.size) hle).mono ?_
  rintro e w2 ⟨v2, rfl, hO, hb2⟩
  rw [HR.out] at hO
  obtain ⟨q, n, c, rfl⟩ := hO.slice
  have hn := hO.len
  simp at hn
  subst hn
  obtain ⟨g, rfl, hg1, hg2, hc⟩ := hO.cell (j := 0) rfl
  have HB := Lib.hid (hb1.trans (hb2.mono hb1.size))
  clear hO hb2
  go_wp2
  go_ret
  exact ⟨rfl, HB.out⟩

set_option maxRecDepth 10000 in
set_option maxHeartbeats 4000000 in
theorem rfits_any (G : Gr) (hG : G.Ok) (T : List Bg) (hSet : ∀ x ∈ T, IsSet x.2) (hPr : ∀ x ∈ T, -9223372036854775808 ≤ x.1 ∧ x.1 ≤ 9223372036854775807) (v vV vE : Value) (w : World) (hv : RefT w v T) (hlen : T.length ≤ 65536)
    (hV : Rd vtxA 3 w.heap.size w vV G.V) (hE : Rd edgA 4 w.heap.size w vE G.E)
    (hWh : ∀ n W, Below w.heap.size w W → Calls Tryz.prog 32 #[v, .int .i64 n] W fun e w' => ∃ v', e = .returned v' ∧ OwnI W.heap.size w' v' (whereTo T n T.length) ∧ Below W.heap.size W w') :
    Calls Tryz.prog 28 #[v, .agg #[vV, vE]] w fun e w' => e = .returned (.int .i64 (rFitsN G T)) ∧ Below w.heap.size w w' := by
  have HX := Lib.hid hv
  have HV := Lib.hid hV
  have HE := Lib.hid hE
  have HWh := Lib.hid hWh
  have HSet := Lib.hid hSet
  have HPr := Lib.hid hPr
  have hlV := hG.len
  have hlE := hG.most
  obtain ⟨a, c, rfl, -⟩ := hv
  obtain ⟨aV, cV, rfl⟩ := hV.sl
  obtain ⟨aE, cE, rfl⟩ := hE.sl
  obtain ⟨R, hR⟩ : ∃ R, R = rFitsN G T := ⟨_, rfl⟩
  have HR := Lib.hid hR
  rw [← hR]
  clear hV hE hWh hSet hPr hR hG
  go_enter Tryz.func28, Tryz.ntmps28
  go_wp2_with fail
  obtain ⟨W0, hW0⟩ : ∃ W0, W0 = w.alloc (.cells #[.slice aV G.V.length cV, .slice aE G.E.length cE] 44) := ⟨_, rfl⟩
  have hB0 : Below w.heap.size w W0 := by rw [hW0]; exact (Below.refl _ w).alloc (Nat.le_refl _) _
  have hr0 : row? W0 w.heap.size = some #[.slice aV G.V.length cV, .slice aE G.E.length cE] := by rw [hW0]; exact row?_alloc_at _ _ _ _ rfl
  have hs0 : w.heap.size < W0.heap.size := by rw [hW0]; simp
  rw [← hW0]
  clear hW0
  refine (rcheck_any T _ W0 (HX.out.below hB0) hlen HPr.out).mono ?_
  rintro e w1 ⟨rfl, hb1⟩
  have HB1 := Lib.hid (hB0.trans (hb1.mono hB0.size))
  have HR1 := Lib.hid ((row?_below hb1 hs0).trans hr0)
  have hs1 := hb1.size
  have hw1 : w.heap.size < w1.heap.size := by omega
  clear hB0 hr0 hb1
  by_cases h0 : rCheckN T = 0
  · have H0 := Lib.hid h0
    rw [h0]
    go_wp2_with fail
    go_loopw [6] (fun i wr => ∃ k : Nat, k ≤ G.V.length ∧ i = .int .i64 (k : Int) ∧ (G.V.take k).all (fun p => decide ((whereTo T p.1 T.length).length ≠ 0)) = true ∧ Below w1.heap.size w1 wr) (fun i _ => G.V.length - (intOf i).toNat)
    case atStart => exact ⟨0, by omega, rfl, rfl, Below.refl _ _⟩
    case round =>
      obtain ⟨k, hk, rfl, hall, hb⟩ := hrel
      have HAll := Lib.hid hall
      have HB := Lib.hid hb
      have HBw := Lib.hid (HB1.out.trans (hb.mono HB1.out.size))
      have hs := hb.size
      have hwr : w.heap.size < wr.heap.size := by omega
      have hr := (row?_below hb hw1).trans HR1.out
      have c1 := cell?_row (i := 0) hr
      have c2 := cell?_row (i := 1) hr
      simp at c1 c2
      clear hall hb hr
      by_cases hlt : k < G.V.length
      · obtain ⟨b, off, c', x, h1, hbb, hx, hcx⟩ := HV.out.at hlt
        simp only [Value.slice.injEq] at h1
        obtain ⟨rfl, -, rfl⟩ := h1
        have c0 := hcx wr HBw.out 0 (.int .i64 x.1) rfl
        simp only [Nat.add_zero] at c0
        have HWx := Lib.hid (HWh.out x.1 wr HBw.out)
        obtain ⟨xi, hxi⟩ : ∃ xi, xi = x.1 := ⟨_, rfl⟩
        have HST := Lib.hid (show (G.V.take (k + 1)).all (fun p => decide ((whereTo T p.1 T.length).length ≠ 0)) = decide ((whereTo T xi T.length).length ≠ 0) by
          rw [take_snoc hx, List.all_append, HAll.out, hxi]; simp)
        rw [← hxi] at c0 HWx
        have HFa := Lib.hid (show (whereTo T xi T.length).length = 0 → G.V.all (fun p => decide ((whereTo T p.1 T.length).length ≠ 0)) = false from fun h => all_false hx (by rw [← hxi]; simpa using h))
        have hwl := whereTo_len T xi T.length
        obtain ⟨L, hL⟩ : ∃ L, L = whereTo T xi T.length := ⟨_, rfl⟩
        rw [← hL] at HWx HST HFa hwl
        clear hcx hx hbb hxi hL
        go_wp2_with fail
        refine HWx.out.mono ?_
        rintro e w2 ⟨v2, rfl, hO, hb2⟩
        obtain ⟨q2, n2, c3, rfl⟩ := hO.slice
        have hn2 := hO.len
        subst hn2
        have HB2 := Lib.hid (HB.out.trans (hb2.mono hs))
        clear hO hb2 c0 c1 c2 HWx
        by_cases hz : L.length = 0
        · have HE9 : Hid (R = 9) := Lib.hid (by rw [HR.out]; unfold rFitsN; rw [if_neg (by rw [H0.out]; simp), if_pos (HFa.out hz)])
          rw [hz]
          go_wp2_with fail
          go_ret
          exact ⟨by rw [HE9.out]; rfl, HB1.out.trans (HB2.out.mono HB1.out.size)⟩
        · have hz1 : (L.length == 0) = false := by simpa using hz
          have hz2 : ((L.length : Int) == 0) = false := by rw [beq_eq_false_iff_ne]; omega
          have HST2 : Hid ((G.V.take (k + 1)).all (fun p => decide ((whereTo T p.1 T.length).length ≠ 0)) = true) := Lib.hid (by rw [HST.out]; simpa using hz)
          go_wp2_with fail
          go_roundw
          case rel => exact ⟨k + 1, by omega, by go_num, HST2.out, HB2.out⟩
          case measure => simp [intOf]; omega
      · have hkn : k = G.V.length := by omega
        subst hkn
        have hVa := HAll.out
        rw [List.take_length] at hVa
        have HVa := Lib.hid hVa
        obtain ⟨wo, rfl⟩ : ∃ wo : World, wo = wr := ⟨_, rfl⟩
        clear hVa hlt hk
        go_wp2_with fail
        clear c1 c2
        go_loopw [7, 8, 9] (fun i _ _ wr => ∃ k : Nat, k ≤ G.E.length ∧ i = .int .i64 (k : Int) ∧ (G.E.take k).all (fun e => T.any (holdE e)) = true ∧ Below w1.heap.size w1 wr) (fun i _ _ _ => G.E.length - (intOf i).toNat)
        case atStart => exact ⟨0, by omega, rfl, rfl, HB.out⟩
        case round =>
          obtain ⟨k, hk, rfl, hall, hb⟩ := hrel
          have HAllE := Lib.hid hall
          have HBe := Lib.hid hb
          have HBwe := Lib.hid (HB1.out.trans (hb.mono HB1.out.size))
          have hse := hb.size
          have hwe : w.heap.size < wr.heap.size := by omega
          have hr := (row?_below hb hw1).trans HR1.out
          have c1 := cell?_row (i := 0) hr
          have c2 := cell?_row (i := 1) hr
          simp at c1 c2
          clear hall hb hr
          by_cases hlt : k < G.E.length
          · obtain ⟨b, off, c', x, h1, hbb, hx, hcx⟩ := HE.out.at hlt
            simp only [Value.slice.injEq] at h1
            obtain ⟨rfl, -, rfl⟩ := h1
            have HX0 := Lib.hid hx
            have HCX := Lib.hid hcx
            obtain ⟨wo2, rfl⟩ : ∃ wo2 : World, wo2 = wr := ⟨_, rfl⟩
            clear hcx hx hbb
            go_wp2_with fail
            clear c1 c2
            go_loopw [8, 9] (fun th j wq => ∃ m : Nat, m ≤ T.length ∧ j = .int .i64 (m : Int) ∧ th = .bool ((T.take m).any (holdE x)) ∧ Below w1.heap.size w1 wq) (fun _ j _ => T.length - (intOf j).toNat)
            case atStart => exact ⟨0, by omega, rfl, rfl, HBe.out⟩
            case round =>
              obtain ⟨m, hm, rfl, rfl, hbq⟩ := hrel
              obtain ⟨wq, rfl⟩ : ∃ wq : World, wq = wr := ⟨_, rfl⟩
              have HBq := Lib.hid hbq
              have HBwq := Lib.hid (HB1.out.trans (hbq.mono HB1.out.size))
              have hsq := hbq.size
              by_cases hlm : m < T.length
              · obtain ⟨b2, off2, c2', p, S, q, cap, hv2, hy, hS, hcy⟩ := HX.out.at hlm
                simp only [Value.slice.injEq] at hv2
                obtain ⟨rfl, -, rfl⟩ := hv2
                have HF := Lib.hid fun W (hw : Below wq.heap.size wq W) => (⟨(hcy W (HBwq.out.trans (hw.mono HBwq.out.size))).2.1, (row?_below (HBq.out.trans (hw.mono hsq)) hw1).trans HR1.out, (cell?_row (i := 1) ((row?_below (HBq.out.trans (hw.mono hsq)) hw1).trans HR1.out)).trans rfl, by have := HCX.out W (HBwq.out.trans (hw.mono HBwq.out.size)) 0 (.int .i64 x.1.1) rfl; simpa using this, HCX.out W (HBwq.out.trans (hw.mono HBwq.out.size)) 1 (.int .i64 x.1.2) rfl⟩ : W.cell? ⟨b2, off2 + m * 2 + 1, none⟩ = some (.slice q (elemsI S).length cap) ∧ row? W w.heap.size = some #[.slice aV G.V.length cV, .slice (some ⟨b, off, none⟩) G.E.length cE] ∧ W.cell? ⟨w.heap.size, 1, none⟩ = some (.slice (some ⟨b, off, none⟩) G.E.length cE) ∧ W.cell? ⟨b, off + k * 4, none⟩ = some (.int .i64 x.1.1) ∧ W.cell? ⟨b, off + k * 4 + 1, none⟩ = some (.int .i64 x.1.2))
                have hel := elemsI_length S
                have hh := fun n W (hw : Below wq.heap.size wq W) => rhas_any (elemsI S) (.slice q (elemsI S).length cap) n W (hcy W (HBwq.out.trans (hw.mono HBwq.out.size))).2.2.1 (by omega)
                simp only [hasI_mem hS] at hh
                have hst : (T.take (m + 1)).any (holdE x) = ((T.take m).any (holdE x) || (hasI S x.1.1 && hasI S x.1.2)) := by
                  rw [take_snoc hy, List.any_append]; simp [holdE]
                obtain ⟨tv, htv⟩ : ∃ tv, tv = (T.take m).any (holdE x) := ⟨_, rfl⟩
                rw [← htv] at hst ⊢
                have hh1 := hh x.1.1
                have hh2 := hh x.1.2
                obtain ⟨e1, he1⟩ : ∃ e1, e1 = hasI S x.1.1 := ⟨_, rfl⟩
                obtain ⟨e2, he2⟩ : ∃ e2, e2 = hasI S x.1.2 := ⟨_, rfl⟩
                rw [← he1] at hh1 hst
                rw [← he2] at hh2 hst
                obtain ⟨xu, hxu⟩ : ∃ xu, xu = x.1.1 := ⟨_, rfl⟩
                obtain ⟨xv, hxv⟩ : ∃ xv, xv = x.1.2 := ⟨_, rfl⟩
                rw [← hxu] at hh1 HF
                rw [← hxv] at hh2 HF
                have HH1 := Lib.hid hh1
                have HH2 := Lib.hid hh2
                have HST := Lib.hid hst
                clear hcy hy hbq hh hh1 hh2 hst htv he1 he2 hxu hxv
                cases tv with
                | true =>
                  go_wp2_with fail
                  refine wp_region_free (fun w' => Below wq.heap.size wq w') (by kernel_rfl) (by kernel_rfl) (Below.refl _ _).drew ?_
                  repeat (first | (apply wpFree_still; (intro w hw; obtain ⟨k1, k2, k3, k4, k5⟩ := HF.out _ hw; clear hw; go_simp; (try go_ints); (first | with_reducible rfl | (go_simp; with_reducible rfl))); with_reducible rfl; (intro K hK; go_simp; (try go_ints); refine hK _ ?_; clear hK K)) | (apply wpFree_stillG rfl; (intro w hw; obtain ⟨k1, k2, k3, k4, k5⟩ := HF.out _ hw; clear hw; go_simp; (try go_ints); (first | with_reducible rfl | (go_simp; with_reducible rfl))); (intro K hK; go_simp; (try go_ints); refine hK _ ?_; clear hK K)) | (apply wpFree_skip rfl; (intro K hK; go_simp; (try go_ints); refine hK _ ?_; clear hK K)))
                  with_reducible refine wpFree_nil ?_
                  intro w2 hb2
                  have HB2 := Lib.hid (HBq.out.trans (hb2.mono hsq))
                  clear hb2
                  go_wp2_with fail
                  go_roundw
                  case rel => exact ⟨m + 1, by omega, by go_num, by rw [HST.out]; rfl, HB2.out⟩
                  case measure => simp [intOf]; omega
                | false =>
                  cases e1 with
                  | false =>
                    go_wp2_with fail
                    refine wp_region_free (fun w' => Below wq.heap.size wq w') (by kernel_rfl) (by kernel_rfl) (Below.refl _ _).drew ?_
                    repeat (first | (apply wpFree_still; (intro w hw; obtain ⟨k1, k2, k3, k4, k5⟩ := HF.out _ hw; clear hw; go_simp; (try go_ints); (first | with_reducible rfl | (go_simp; with_reducible rfl))); with_reducible rfl; (intro K hK; go_simp; (try go_ints); refine hK _ ?_; clear hK K)) | (apply wpFree_stillG rfl; (intro w hw; obtain ⟨k1, k2, k3, k4, k5⟩ := HF.out _ hw; clear hw; go_simp; (try go_ints); (first | with_reducible rfl | (go_simp; with_reducible rfl))); (intro K hK; go_simp; (try go_ints); refine hK _ ?_; clear hK K)) | (apply wpFree_skip rfl; (intro K hK; go_simp; (try go_ints); refine hK _ ?_; clear hK K)))
                    apply wpFree_callG rfl
                    · intro w hw; go_simp; first | with_reducible rfl | with_reducible exact ⟨rfl, rfl⟩
                    · intro w hw; refine ((HH1).out w hw).mono ?_; rintro e w' ⟨h1, rfl⟩; exact ⟨h1, hw⟩
                    intro K hK; go_simp; (try go_ints); refine hK _ ?_; clear hK K
                    repeat (first | (apply wpFree_still; (intro w hw; obtain ⟨k1, k2, k3, k4, k5⟩ := HF.out _ hw; clear hw; go_simp; (try go_ints); (first | with_reducible rfl | (go_simp; with_reducible rfl))); with_reducible rfl; (intro K hK; go_simp; (try go_ints); refine hK _ ?_; clear hK K)) | (apply wpFree_stillG rfl; (intro w hw; obtain ⟨k1, k2, k3, k4, k5⟩ := HF.out _ hw; clear hw; go_simp; (try go_ints); (first | with_reducible rfl | (go_simp; with_reducible rfl))); (intro K hK; go_simp; (try go_ints); refine hK _ ?_; clear hK K)) | (apply wpFree_skip rfl; (intro K hK; go_simp; (try go_ints); refine hK _ ?_; clear hK K)))
                    with_reducible refine wpFree_nil ?_
                    intro w2 hb2
                    have HB2 := Lib.hid (HBq.out.trans (hb2.mono hsq))
                    clear hb2
                    go_wp2_with fail
                    go_roundw
                    case rel => exact ⟨m + 1, by omega, by go_num, by rw [HST.out]; rfl, HB2.out⟩
                    case measure => simp [intOf]; omega
                  | true =>
                    cases e2 with
                    | true =>
                      go_wp2_with fail
                      refine wp_region_free (fun w' => Below wq.heap.size wq w') (by kernel_rfl) (by kernel_rfl) (Below.refl _ _).drew ?_
                      repeat (first | (apply wpFree_still; (intro w hw; obtain ⟨k1, k2, k3, k4, k5⟩ := HF.out _ hw; clear hw; go_simp; (try go_ints); (first | with_reducible rfl | (go_simp; with_reducible rfl))); with_reducible rfl; (intro K hK; go_simp; (try go_ints); refine hK _ ?_; clear hK K)) | (apply wpFree_stillG rfl; (intro w hw; obtain ⟨k1, k2, k3, k4, k5⟩ := HF.out _ hw; clear hw; go_simp; (try go_ints); (first | with_reducible rfl | (go_simp; with_reducible rfl))); (intro K hK; go_simp; (try go_ints); refine hK _ ?_; clear hK K)) | (apply wpFree_skip rfl; (intro K hK; go_simp; (try go_ints); refine hK _ ?_; clear hK K)))
                      apply wpFree_callG rfl
                      · intro w hw; go_simp; first | with_reducible rfl | with_reducible exact ⟨rfl, rfl⟩
                      · intro w hw; refine ((HH1).out w hw).mono ?_; rintro e w' ⟨h1, rfl⟩; exact ⟨h1, hw⟩
                      intro K hK; go_simp; (try go_ints); refine hK _ ?_; clear hK K
                      repeat (first | (apply wpFree_still; (intro w hw; obtain ⟨k1, k2, k3, k4, k5⟩ := HF.out _ hw; clear hw; go_simp; (try go_ints); (first | with_reducible rfl | (go_simp; with_reducible rfl))); with_reducible rfl; (intro K hK; go_simp; (try go_ints); refine hK _ ?_; clear hK K)) | (apply wpFree_stillG rfl; (intro w hw; obtain ⟨k1, k2, k3, k4, k5⟩ := HF.out _ hw; clear hw; go_simp; (try go_ints); (first | with_reducible rfl | (go_simp; with_reducible rfl))); (intro K hK; go_simp; (try go_ints); refine hK _ ?_; clear hK K)) | (apply wpFree_skip rfl; (intro K hK; go_simp; (try go_ints); refine hK _ ?_; clear hK K)))
                      apply wpFree_callG rfl
                      · intro w hw; go_simp; first | with_reducible rfl | with_reducible exact ⟨rfl, rfl⟩
                      · intro w hw; refine ((HH2).out w hw).mono ?_; rintro e w' ⟨h1, rfl⟩; exact ⟨h1, hw⟩
                      intro K hK; go_simp; (try go_ints); refine hK _ ?_; clear hK K
                      repeat (first | (apply wpFree_still; (intro w hw; obtain ⟨k1, k2, k3, k4, k5⟩ := HF.out _ hw; clear hw; go_simp; (try go_ints); (first | with_reducible rfl | (go_simp; with_reducible rfl))); with_reducible rfl; (intro K hK; go_simp; (try go_ints); refine hK _ ?_; clear hK K)) | (apply wpFree_stillG rfl; (intro w hw; obtain ⟨k1, k2, k3, k4, k5⟩ := HF.out _ hw; clear hw; go_simp; (try go_ints); (first | with_reducible rfl | (go_simp; with_reducible rfl))); (intro K hK; go_simp; (try go_ints); refine hK _ ?_; clear hK K)) | (apply wpFree_skip rfl; (intro K hK; go_simp; (try go_ints); refine hK _ ?_; clear hK K)))
                      with_reducible refine wpFree_nil ?_
                      intro w2 hb2
                      have HB2 := Lib.hid (HBq.out.trans (hb2.mono hsq))
                      clear hb2
                      go_wp2_with fail
                      go_roundw
                      case rel => exact ⟨m + 1, by omega, by go_num, by rw [HST.out]; rfl, HB2.out⟩
                      case measure => simp [intOf]; omega
                    | false =>
                      go_wp2_with fail
                      refine wp_region_free (fun w' => Below wq.heap.size wq w') (by kernel_rfl) (by kernel_rfl) (Below.refl _ _).drew ?_
                      repeat (first | (apply wpFree_still; (intro w hw; obtain ⟨k1, k2, k3, k4, k5⟩ := HF.out _ hw; clear hw; go_simp; (try go_ints); (first | with_reducible rfl | (go_simp; with_reducible rfl))); with_reducible rfl; (intro K hK; go_simp; (try go_ints); refine hK _ ?_; clear hK K)) | (apply wpFree_stillG rfl; (intro w hw; obtain ⟨k1, k2, k3, k4, k5⟩ := HF.out _ hw; clear hw; go_simp; (try go_ints); (first | with_reducible rfl | (go_simp; with_reducible rfl))); (intro K hK; go_simp; (try go_ints); refine hK _ ?_; clear hK K)) | (apply wpFree_skip rfl; (intro K hK; go_simp; (try go_ints); refine hK _ ?_; clear hK K)))
                      apply wpFree_callG rfl
                      · intro w hw; go_simp; first | with_reducible rfl | with_reducible exact ⟨rfl, rfl⟩
                      · intro w hw; refine ((HH1).out w hw).mono ?_; rintro e w' ⟨h1, rfl⟩; exact ⟨h1, hw⟩
                      intro K hK; go_simp; (try go_ints); refine hK _ ?_; clear hK K
                      repeat (first | (apply wpFree_still; (intro w hw; obtain ⟨k1, k2, k3, k4, k5⟩ := HF.out _ hw; clear hw; go_simp; (try go_ints); (first | with_reducible rfl | (go_simp; with_reducible rfl))); with_reducible rfl; (intro K hK; go_simp; (try go_ints); refine hK _ ?_; clear hK K)) | (apply wpFree_stillG rfl; (intro w hw; obtain ⟨k1, k2, k3, k4, k5⟩ := HF.out _ hw; clear hw; go_simp; (try go_ints); (first | with_reducible rfl | (go_simp; with_reducible rfl))); (intro K hK; go_simp; (try go_ints); refine hK _ ?_; clear hK K)) | (apply wpFree_skip rfl; (intro K hK; go_simp; (try go_ints); refine hK _ ?_; clear hK K)))
                      apply wpFree_callG rfl
                      · intro w hw; go_simp; first | with_reducible rfl | with_reducible exact ⟨rfl, rfl⟩
                      · intro w hw; refine ((HH2).out w hw).mono ?_; rintro e w' ⟨h1, rfl⟩; exact ⟨h1, hw⟩
                      intro K hK; go_simp; (try go_ints); refine hK _ ?_; clear hK K
                      repeat (first | (apply wpFree_still; (intro w hw; obtain ⟨k1, k2, k3, k4, k5⟩ := HF.out _ hw; clear hw; go_simp; (try go_ints); (first | with_reducible rfl | (go_simp; with_reducible rfl))); with_reducible rfl; (intro K hK; go_simp; (try go_ints); refine hK _ ?_; clear hK K)) | (apply wpFree_stillG rfl; (intro w hw; obtain ⟨k1, k2, k3, k4, k5⟩ := HF.out _ hw; clear hw; go_simp; (try go_ints); (first | with_reducible rfl | (go_simp; with_reducible rfl))); (intro K hK; go_simp; (try go_ints); refine hK _ ?_; clear hK K)) | (apply wpFree_skip rfl; (intro K hK; go_simp; (try go_ints); refine hK _ ?_; clear hK K)))
                      with_reducible refine wpFree_nil ?_
                      intro w2 hb2
                      have HB2 := Lib.hid (HBq.out.trans (hb2.mono hsq))
                      clear hb2
                      go_wp2_with fail
                      go_roundw
                      case rel => exact ⟨m + 1, by omega, by go_num, by rw [HST.out]; rfl, HB2.out⟩
                      case measure => simp [intOf]; omega
              · have hmn : m = T.length := by omega
                subst hmn
                rw [List.take_length]
                obtain ⟨tv, htv⟩ : ∃ tv, tv = T.any (holdE x) := ⟨_, rfl⟩
                have HTV := Lib.hid htv
                rw [← htv]
                clear htv hbq
                cases tv with
                | true =>
                  have HST : Hid ((G.E.take (k + 1)).all (fun e => T.any (holdE e)) = true) := Lib.hid (by rw [take_snoc HX0.out, List.all_append, HAllE.out]; simp [← HTV.out])
                  go_wp2_with fail
                  go_roundw
                  case rel => exact ⟨k + 1, by omega, by go_num, HST.out, HBq.out⟩
                  case measure => simp [intOf]; omega
                | false =>
                  have HE23 : Hid (R = 23) := Lib.hid (by rw [HR.out]; unfold rFitsN; rw [if_neg (by rw [H0.out]; simp), if_neg (by rw [HVa.out]; simp), if_pos (all_false HX0.out HTV.out.symm)])
                  go_wp2_with fail
                  go_ret
                  exact ⟨by rw [HE23.out]; rfl, HBwq.out⟩
          · have hkn : k = G.E.length := by omega
            subst hkn
            have hEa := HAllE.out
            rw [List.take_length] at hEa
            have HE0 : Hid (R = 0) := Lib.hid (by rw [HR.out]; unfold rFitsN; rw [if_neg (by rw [H0.out]; simp), if_neg (by rw [HVa.out]; simp), if_neg (by rw [hEa]; simp)])
            clear hEa
            go_wp2_with fail
            go_ret
            exact ⟨by rw [HE0.out]; rfl, HBwe.out⟩
  · have HE0 : Hid (R = rCheckN T) := Lib.hid (by rw [HR.out]; unfold rFitsN; rw [if_pos h0])
    have h2 : (rCheckN T != 0) = true := by simpa using h0
    have h3 : (rCheckN T == 0) = false := by simpa using h0
    go_wp2_with fail
    go_ret
    exact ⟨by rw [HE0.out]; rfl, HB1.out⟩
end Go.Proofs.YtpflnkedolmamaaGreatDoor
