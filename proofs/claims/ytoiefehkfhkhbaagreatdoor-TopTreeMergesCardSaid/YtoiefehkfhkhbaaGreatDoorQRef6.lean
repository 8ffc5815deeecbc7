/-
  Walks of the reference: Check of a tree of bags, and of a frame.
  Walks of the reference of frames: New, Size, Heavy, Light, Way, Shared; the split of a list of weights.
-/
import Derived.Test.YtoiefehkfhkhbaaGreatDoorQRef3
import Derived.Test.YtoiefehkfhkhbaaGreatDoorQPlain
import Derived.Test.YtoiefehkfhkhbaaGreatDoorQTop3
namespace Go.Pal
open Go
theorem rCheckN_len {T : List Bg} (h : T.length < 1 ∨ 4096 < T.length) : rCheckN T = 2 := by unfold rCheckN; rw [if_pos h]
theorem rCheckN_par {T : List Bg} (h0 : ¬ (T.length < 1 ∨ 4096 < T.length)) (h : T.all (parB T.length) = false) : rCheckN T = 3 := by unfold rCheckN; rw [if_neg h0, if_pos h]
theorem rCheckN_root {T : List Bg} (h0 : ¬ (T.length < 1 ∨ 4096 < T.length)) (h1 : T.all (parB T.length) = true) (h : (T.filter rootB).length ≠ 1) : rCheckN T = 3 := by unfold rCheckN; rw [if_neg h0, if_neg (by simp [h1]), if_pos h]
theorem rCheckN_up {T : List Bg} (h0 : ¬ (T.length < 1 ∨ 4096 < T.length)) (h1 : T.all (parB T.length) = true) (h2 : (T.filter rootB).length = 1) (h : (List.range T.length).all (upB T) = false) : rCheckN T = 15 := by
  unfold rCheckN; rw [if_neg h0, if_neg (by simp [h1]), if_neg (by simp [h2]), if_pos h]
theorem rCheckN_top {T : List Bg} (h0 : ¬ (T.length < 1 ∨ 4096 < T.length)) (h1 : T.all (parB T.length) = true) (h2 : (T.filter rootB).length = 1) (h3 : (List.range T.length).all (upB T) = true) (h : (List.range T.length).all (topB T) = false) : rCheckN T = 7 := by
  unfold rCheckN; rw [if_neg h0, if_neg (by simp [h1]), if_neg (by simp [h2]), if_neg (by simp [h3]), if_pos h]
theorem rCheckN_ok {T : List Bg} (h0 : ¬ (T.length < 1 ∨ 4096 < T.length)) (h1 : T.all (parB T.length) = true) (h2 : (T.filter rootB).length = 1) (h3 : (List.range T.length).all (upB T) = true) (h4 : (List.range T.length).all (topB T) = true) : rCheckN T = 0 := by
  unfold rCheckN; rw [if_neg h0, if_neg (by simp [h1]), if_neg (by simp [h2]), if_neg (by simp [h3]), if_neg (by simp [h4])]
theorem all_false {α : Type} {p : α → Bool} {l : List α} {k : Nat} {x : α} (hx : l[k]? = some x) (h : p x = false) : l.all p = false := by
  rw [List.all_eq_false]
  exact ⟨x, List.mem_of_getElem? hx, by simp [h]⟩
theorem all_range_succ {p : Nat → Bool} {k : Nat} (h : (List.range k).all p = true) (hk : p k = true) : (List.range (k + 1)).all p = true := by
  rw [List.range_succ, List.all_append, h]; simp [hk]
theorem all_range_false {p : Nat → Bool} {n k : Nat} (hk : k < n) (h : p k = false) : (List.range n).all p = false := by
  rw [List.all_eq_false]
  exact ⟨k, List.mem_range.2 hk, by simp [h]⟩
theorem parIn_of {T : List Bg} (h : T.all (parB T.length) = true) (i : Nat) (x : Bg) (hx : T[i]? = some x) : -1 ≤ x.1 ∧ x.1 < (T.length : Int) := by
  have := List.all_eq_true.1 h x (List.mem_of_getElem? hx)
  simpa [parB] using this
end Go.Pal
namespace Go.Proofs.YtoiefehkfhkhbaaGreatDoor
open Go Go.RowKit Go.Pal

set_option maxRecDepth 10000 in
set_option maxHeartbeats 4000000 in
theorem rcheck_any (T : List Bg) (v : Value) (w : World) (hv : RefT w v T) (hlen : T.length ≤ 65536) (hp : ∀ x ∈ T, -9223372036854775808 ≤ x.1 ∧ x.1 ≤ 9223372036854775807) :
    Calls Tryz.prog 38 #[v] w fun e w' => e = .returned (.int .i64 (rCheckN T)) ∧ Below w.heap.size w w' := by
  have HV := Lib.hid hv
  have HPP := Lib.hid hp
  obtain ⟨a, c, rfl, -⟩ := hv
  obtain ⟨R, hR⟩ : ∃ R, R = rCheckN T := ⟨_, rfl⟩
  have HRR := Lib.hid hR
  rw [← hR]
  clear hp hR
  by_cases h0 : T.length < 1
  · have HE : Hid (R = 2) := Lib.hid (by rw [HRR.out, rCheckN_len (.inl h0)])
    have h0z : (T.length : Int) < 1 := by omega
    go_enter Tryz.func38, Tryz.ntmps38
    go_wp2_with fail
    go_ret
    exact ⟨by rw [HE.out]; rfl, Below.refl _ _⟩
  by_cases h4 : 4096 < T.length
  · have HE : Hid (R = 2) := Lib.hid (by rw [HRR.out, rCheckN_len (.inr h4)])
    have h0z : ¬ (T.length : Int) < 1 := by omega
    have h0y : decide ((T.length : Int) < 1) = false := by simp; omega
    have h0x : decide (T.length < 1) = false := decide_eq_false (by omega)
    have h4z : (4096 : Int) < (T.length : Int) := by omega
    go_enter Tryz.func38, Tryz.ntmps38
    go_wp2_with fail
    go_ret
    exact ⟨by rw [HE.out]; rfl, Below.refl _ _⟩
  have H0 : Hid (¬ (T.length < 1 ∨ 4096 < T.length)) := Lib.hid (by omega)
  have h0z : ¬ (T.length : Int) < 1 := by omega
  have h0y : decide ((T.length : Int) < 1) = false := by simp; omega
  have h4z : ¬ (4096 : Int) < (T.length : Int) := by omega
  have h4y : decide ((4096 : Int) < (T.length : Int)) = false := by simp; omega
  clear h0 h4
  go_enter Tryz.func38, Tryz.ntmps38
  go_wp2_with fail
  clear h0z h0y h4z h4y
  go_loop [3, 4] (fun n i => ∃ k : Nat, k ≤ T.length ∧ i = .int .i64 (k : Int) ∧ n = .int .i64 (((T.take k).filter rootB).length : Int) ∧ (T.take k).all (parB T.length) = true) (fun _ i => T.length - (intOf i).toNat)
  case atStart => exact ⟨0, by omega, rfl, rfl, rfl⟩
  case round =>
    obtain ⟨k, hk, rfl, rfl, hpar⟩ := hrel
    have HPAR := Lib.hid hpar
    clear hpar
    by_cases hlt : k < T.length
    · obtain ⟨b2, off, c2, p, S, q, cap, hv2, hx, hS, hc⟩ := HV.out.at hlt
      simp only [Value.slice.injEq] at hv2
      obtain ⟨rfl, -, rfl⟩ := hv2
      obtain ⟨k1, -, -⟩ := hc w (Below.refl _ _)
      obtain ⟨hp0, hp1⟩ := HPP.out _ (List.mem_of_getElem? hx)
      simp only at hp0 hp1
      have HX := Lib.hid hx
      have hfl : ((T.take k).filter rootB).length ≤ k := Nat.le_trans (List.length_filter_le _ _) (List.length_take_le _ _)
      clear hx hc
      by_cases hb : -1 ≤ p ∧ p < (T.length : Int)
      · obtain ⟨hb0, hb1⟩ := hb
        have hpb : parB T.length (p, S) = true := by simp [parB]; omega
        have HALL : Hid ((T.take (k + 1)).all (parB T.length) = true) := Lib.hid (by rw [List.take_add_one, HX.out, List.all_append, HPAR.out]; simp [hpb])
        have hn1 : decide (p < -1) = false := by simp; omega
        have hn2 : decide ((T.length : Int) ≤ p) = false := by simp; omega
        clear hpb
        by_cases hneg : p < 0
        · have HC : Hid (((T.take (k + 1)).filter rootB).length = ((T.take k).filter rootB).length + 1) := Lib.hid (by rw [List.take_add_one, HX.out, List.filter_append]; simp [rootB, hneg])
          go_wp2_with fail
          go_round
          case rel => exact ⟨k + 1, by omega, by go_num, by rw [HC.out]; go_num, HALL.out⟩
          case measure => simp [intOf]; omega
        · have HC : Hid (((T.take (k + 1)).filter rootB).length = ((T.take k).filter rootB).length) := Lib.hid (by rw [List.take_add_one, HX.out, List.filter_append]; simp [rootB, hneg])
          go_wp2_with fail
          go_round
          case rel => exact ⟨k + 1, by omega, by go_num, by rw [HC.out], HALL.out⟩
          case measure => simp [intOf]; omega
      · have hpb : parB T.length (p, S) = false := by simp [parB]; omega
        have HE : Hid (R = 3) := Lib.hid (by rw [HRR.out, rCheckN_par H0.out (all_false HX.out hpb)])
        clear hpb
        by_cases hb1 : p < -1
        · clear hb
          go_wp2_with fail
          go_ret
          exact ⟨by rw [HE.out]; rfl, Below.refl _ _⟩
        · have hb2 : (T.length : Int) ≤ p := by omega
          have hn1 : decide (p < -1) = false := by simp; omega
          clear hb
          go_wp2_with fail
          go_ret
          exact ⟨by rw [HE.out]; rfl, Below.refl _ _⟩
    · have hkn : k = T.length := by omega
      subst hkn
      rw [List.take_length] at HPAR ⊢
      have HIN : Hid (ParIn T) := Lib.hid (parIn_of HPAR.out)
      by_cases hroot : (T.filter rootB).length = 1
      · have HROOT := Lib.hid hroot
        have e1 : (((T.filter rootB).length : Nat) : Int) = 1 := by omega
        rw [e1]
        clear hroot e1 HPP
        go_wp2_with fail
        go_loopw [5, 6, 7] (fun i _ _ wr => ∃ k : Nat, k ≤ T.length ∧ i = .int .i64 (k : Int) ∧ (List.range k).all (upB T) = true ∧ Below w.heap.size w wr) (fun i _ _ _ => T.length - (intOf i).toNat)
        case atStart => exact ⟨0, by omega, rfl, rfl, Below.refl _ _⟩
        case round =>
          obtain ⟨k, hk, rfl, hup, hb⟩ := hrel
          have hsz := hb.size
          have HUP := Lib.hid hup
          have HB1 := Lib.hid hb
          clear hup hb
          by_cases hlt : k < T.length
          · have hab := above_any T _ wr (HV.out.below HB1.out) HIN.out hlen k hlt
            have hu : upB T k = (climb T (T.length + 1) (upI T (k : Int))).isSome := rfl
            rw [← hu] at hab
            cases hcl : upB T k with
            | true =>
              rw [hcl] at hab
              have HAB := Lib.hid hab
              have HALL : Hid ((List.range (k + 1)).all (upB T) = true) := Lib.hid (all_range_succ HUP.out hcl)
              clear hab hu hcl
              go_wp2_with fail
              refine HAB.out.mono ?_
              rintro e w1 ⟨v1, rfl, -, hb1⟩
              have HB2 := Lib.hid (HB1.out.trans (hb1.mono hsz))
              clear HAB hb1
              go_wp2_with fail
              go_roundw
              case rel => exact ⟨k + 1, by omega, by go_num, HALL.out, HB2.out⟩
              case measure => simp [intOf]; omega
            | false =>
              rw [hcl] at hab
              have HAB := Lib.hid hab
              have HE : Hid (R = 15) := Lib.hid (by rw [HRR.out, rCheckN_up H0.out HPAR.out HROOT.out (all_range_false hlt hcl)])
              clear hab hu hcl
              go_wp2_with fail
              refine HAB.out.mono ?_
              rintro e w1 ⟨v1, rfl, -, hb1⟩
              have HB2 := Lib.hid (HB1.out.trans (hb1.mono hsz))
              clear HAB hb1
              go_wp2_with fail
              go_ret
              exact ⟨by rw [HE.out]; rfl, HB2.out⟩
          · have hkn : k = T.length := by omega
            subst hkn
            obtain ⟨wo, rfl⟩ : ∃ wo : World, wo = wr := ⟨_, rfl⟩
            have HALLU := Lib.hid HUP.out
            clear HUP hlt hk hsz
            go_wp2_with fail
            go_loopw [8, 9] (fun i _ wr => ∃ k : Nat, k ≤ T.length ∧ i = .int .i64 (k : Int) ∧ (List.range k).all (topB T) = true ∧ Below w.heap.size w wr) (fun i _ _ => T.length - (intOf i).toNat)
            case atStart => exact ⟨0, by omega, rfl, rfl, HB1.out⟩
            case round =>
              obtain ⟨k, hk, rfl, htop, hb⟩ := hrel
              have HTOP := Lib.hid htop
              have HB2 := Lib.hid hb
              clear htop hb
              by_cases hlt : k < T.length
              · obtain ⟨b2, off, c2, p, S, q, cap, hv2, hx, hS, hc⟩ := HV.out.at hlt
                simp only [Value.slice.injEq] at hv2
                obtain ⟨rfl, -, rfl⟩ := hv2
                have HX := Lib.hid hx
                have HC := Lib.hid hc
                have hls := elemsI_length S
                have hbn := bagN_of hx
                have HBN := Lib.hid hbn
                obtain ⟨w2, rfl⟩ : ∃ w2 : World, w2 = wr := ⟨_, rfl⟩
                clear hx hc hbn
                go_wp2_with fail
                go_loopw [9] (fun i wr => ∃ m : Nat, m ≤ (elemsI S).length ∧ i = .int .i64 (m : Int) ∧ ((elems S).take m).all (oneB T) = true ∧ Below w.heap.size w wr) (fun i _ => (elemsI S).length - (intOf i).toNat)
                case atStart => exact ⟨0, by omega, rfl, rfl, HB2.out⟩
                case round =>
                  obtain ⟨m, hm, rfl, hone, hb⟩ := hrel
                  have hsz := hb.size
                  have HONE := Lib.hid hone
                  have HB3 := Lib.hid hb
                  obtain ⟨k1, k2, k3⟩ := HC.out wr hb
                  clear hone hb
                  by_cases hlt2 : m < (elemsI S).length
                  · obtain ⟨b4, off4, c4, z, hv4, hz, hc4⟩ := k3.1.at hlt2
                    simp only [Value.slice.injEq] at hv4
                    obtain ⟨rfl, -, rfl⟩ := hv4
                    have k4 := hc4 wr (Below.refl _ _)
                    obtain ⟨n, hn, rfl, hn1⟩ := elemsI_get hz
                    have HN := Lib.hid hn
                    have hab := rtops_any T _ wr (HV.out.below HB3.out) HIN.out hlen n
                    have hll : (topsTo T n T.length).length = (topsL T n).length := by rw [topsTo_all, List.length_map]
                    have htl := topsTo_length T n T.length
                    have HAB := Lib.hid hab
                    clear hc4 hz hn hab k3
                    cases hcl : oneB T n with
                    | true =>
                      have hl1 : (topsTo T n T.length).length = 1 := by rw [hll]; simpa [oneB] using hcl
                      have HALL : Hid (((elems S).take (m + 1)).all (oneB T) = true) := Lib.hid (by rw [List.take_add_one, HN.out, List.all_append, HONE.out]; simp [hcl])
                      have HL1 := Lib.hid hl1
                      clear hl1 hll hcl htl
                      go_wp2_with fail
                      refine HAB.out.mono ?_
                      rintro e w1 ⟨v1, rfl, hO1, hb1⟩
                      obtain ⟨q5, c5, rfl⟩ := hO1.sl
                      rw [HL1.out]
                      have HB4 := Lib.hid (HB3.out.trans (hb1.mono hsz))
                      clear HAB hb1 hO1 k1 k2 k4
                      go_wp2_with fail
                      go_roundw
                      case rel => exact ⟨m + 1, by omega, by go_num, HALL.out, HB4.out⟩
                      case measure => simp [intOf]; omega
                    | false =>
                      have hl1 : ¬ (topsTo T n T.length).length = 1 := by rw [hll]; simpa [oneB] using hcl
                      have hf : topB T k = false := by
                        unfold topB
                        rw [HBN.out]
                        exact all_false HN.out hcl
                      have HE : Hid (R = 7) := Lib.hid (by rw [HRR.out, rCheckN_top H0.out HPAR.out HROOT.out HALLU.out (all_range_false hlt hf)])
                      have hl2 : ((((topsTo T n T.length).length : Nat) : Int) == 1) = false := by simp; omega
                      have hl3 : ((((topsTo T n T.length).length : Nat) : Int) != 1) = true := by simp; omega
                      obtain ⟨L, hL⟩ : ∃ L, L = (topsTo T n T.length).length := ⟨_, rfl⟩
                      rw [← hL] at hl1 hl2 hl3 htl
                      have HLL := Lib.hid hL
                      clear hll hcl hf hL
                      go_wp2_with fail
                      refine HAB.out.mono ?_
                      rintro e w1 ⟨v1, rfl, hO1, hb1⟩
                      obtain ⟨q5, c5, rfl⟩ := hO1.sl
                      rw [← HLL.out]
                      have HB4 := Lib.hid (HB3.out.trans (hb1.mono hsz))
                      clear HAB hb1 hO1 k1 k2 k4
                      go_wp2_with fail
                      go_ret
                      exact ⟨by rw [HE.out]; rfl, HB4.out⟩
                  · have hmn : m = (elems S).length := by have : (elemsI S).length = (elems S).length := by simp [elemsI]
                                                          omega
                    have HT : Hid (topB T k = true) := Lib.hid (by unfold topB; rw [HBN.out]; have h := HONE.out; rw [hmn, List.take_length] at h; exact h)
                    have HALL : Hid ((List.range (k + 1)).all (topB T) = true) := Lib.hid (all_range_succ HTOP.out HT.out)
                    clear hmn k3
                    go_wp2_with fail
                    go_roundw
                    case rel => exact ⟨k + 1, by omega, by go_num, HALL.out, HB3.out⟩
                    case measure => simp [intOf]; omega
              · have hkn : k = T.length := by omega
                subst hkn
                have HE : Hid (R = 0) := Lib.hid (by rw [HRR.out, rCheckN_ok H0.out HPAR.out HROOT.out HALLU.out HTOP.out])
                go_wp2_with fail
                go_ret
                exact ⟨by rw [HE.out]; rfl, HB2.out⟩
      · have HE : Hid (R = 3) := Lib.hid (by rw [HRR.out, rCheckN_root H0.out HPAR.out hroot])
        have hr1 : ((((T.filter rootB).length : Nat) : Int) == 1) = false := by simp; omega
        have hr2 : ((((T.filter rootB).length : Nat) : Int) != 1) = true := by simp; omega
        go_wp2_with fail
        go_ret
        exact ⟨by rw [HE.out]; rfl, Below.refl _ _⟩
end Go.Proofs.YtoiefehkfhkhbaaGreatDoor
namespace Go.Pal
open Go Go.RowKit
theorem r45N_check {T : List Bg} (h : rCheckN T ≠ 0) : r45N T = rCheckN T := by unfold r45N; rw [if_pos h]
theorem r45N_len {T : List Bg} (h : rCheckN T = 0) (h1 : 1024 < T.length) : r45N T = 2 := by unfold r45N; rw [if_neg (by simp [h]), if_pos h1]
theorem r45N_few {T : List Bg} (h : rCheckN T = 0) (h1 : ¬ 1024 < T.length) (h2 : T.all fewB = false) : r45N T = 14 := by unfold r45N; rw [if_neg (by simp [h]), if_neg h1, if_pos h2]
theorem r45N_ok {T : List Bg} (h : rCheckN T = 0) (h1 : ¬ 1024 < T.length) (h2 : T.all fewB = true) : r45N T = 0 := by unfold r45N; rw [if_neg (by simp [h]), if_neg h1, if_neg (by simp [h2])]
def labL (l : List Tr) : List Int := l.map fun t => (t.lab : Int)
theorem labL_length (l : List Tr) : (labL l).length = l.length := by simp [labL]
theorem labL_get {l : List Tr} {k : Nat} {z : Int} (h : (labL l)[k]? = some z) : ∃ t, l[k]? = some t ∧ z = (t.lab : Int) := by
  unfold labL at h
  rw [List.getElem?_map] at h
  obtain ⟨t, h1, rfl⟩ := Option.map_eq_some_iff.1 h
  exact ⟨t, h1, rfl⟩
theorem Fits.labL {n : Nat} {kids : Nat → List Int} {u : Tr} (h : Fits n kids u) : kids u.lab = Go.Pal.labL u.ks ∧ ∀ t ∈ u.ks, Fits n kids t := by
  cases h with
  | mk b ks hb hk hks => exact ⟨hk, hks⟩
theorem szs_take_succ {ks : List Tr} {k : Nat} {t : Tr} (h : ks[k]? = some t) : Tr.szs (ks.take (k + 1)) = Tr.szs (ks.take k) + t.sz := by
  rw [List.take_add_one, h, Tr.szs_append]
  simp [Tr.szs]
theorem szs_take_le (ks : List Tr) (k : Nat) : Tr.szs (ks.take k) ≤ Tr.szs ks := by
  conv => rhs; rw [← List.take_append_drop k ks, Tr.szs_append]
  omega
theorem hvL_take_succ {ks : List Tr} {k : Nat} {t : Tr} (h : ks[k]? = some t) : Tr.hvL (ks.take (k + 1)) = Tr.hS (Tr.hvL (ks.take k)) t := by
  rw [List.take_add_one, h]
  exact Tr.hvL_snoc _ _
end Go.Pal
namespace Go.Proofs.YtoiefehkfhkhbaaGreatDoor
open Go Go.RowKit Go.Pal

set_option maxRecDepth 10000 in
set_option maxHeartbeats 1000000 in
theorem r45new_any (T : List Bg) (v : Value) (w : World) (hv : RefT w v T) (hlen : T.length ≤ 65536) (hp : ∀ x ∈ T, -9223372036854775808 ≤ x.1 ∧ x.1 ≤ 9223372036854775807) :
    Calls Tryz.prog 13 #[v] w fun e w' => e = .returned (.int .i64 (r45N T)) ∧ Below w.heap.size w w' := by
  have HC := Lib.hid (rcheck_any T v w hv hlen hp)
  have HV := Lib.hid hv
  obtain ⟨a, c, rfl, -⟩ := hv
  obtain ⟨R, hR⟩ : ∃ R, R = r45N T := ⟨_, rfl⟩
  have HRR := Lib.hid hR
  rw [← hR]
  clear hR hp
  by_cases h0 : rCheckN T = 0
  · have H0 := Lib.hid h0
    have HC2 := HC.out
    rw [h0] at HC2
    have HC3 := Lib.hid HC2
    clear h0 HC2 HC
    by_cases h1 : 1024 < T.length
    · have HE : Hid (R = 2) := Lib.hid (by rw [HRR.out, r45N_len H0.out h1])
      go_enter Tryz.func13, Tryz.ntmps13
      go_wp2_with fail
      refine HC3.out.mono ?_
      rintro e w1 ⟨rfl, hb1⟩
      have HB1 := Lib.hid hb1
      clear hb1
      go_wp2_with fail
      go_ret
      exact ⟨by rw [HE.out]; rfl, HB1.out⟩
    · go_enter Tryz.func13, Tryz.ntmps13
      go_wp2_with fail
      refine HC3.out.mono ?_
      rintro e w1 ⟨rfl, hb1⟩
      have HB1 := Lib.hid hb1
      clear hb1
      go_wp2_with fail
      go_loop [4] (fun i => ∃ k : Nat, k ≤ T.length ∧ i = .int .i64 (k : Int) ∧ (T.take k).all fewB = true) (fun i => T.length - (intOf i).toNat)
      case atStart => exact ⟨0, by omega, rfl, rfl⟩
      case round =>
        obtain ⟨k, hk, rfl, hpar⟩ := hrel
        have HPAR := Lib.hid hpar
        clear hpar
        by_cases hlt : k < T.length
        · obtain ⟨b2, off, c2, p, S, q, cap, hv2, hx, hS, hc⟩ := HV.out.at hlt
          simp only [Value.slice.injEq] at hv2
          obtain ⟨rfl, -, rfl⟩ := hv2
          obtain ⟨-, k2, -⟩ := hc w1 HB1.out
          have HX := Lib.hid hx
          have hll : (elemsI S).length = (elems S).length := by simp [elemsI]
          clear hx hc
          by_cases hf : (elemsI S).length ≤ 4
          · have HALL : Hid ((T.take (k + 1)).all fewB = true) := Lib.hid (by rw [List.take_add_one, HX.out, List.all_append, HPAR.out]; simp [fewB]; omega)
            have hf2 : ¬ (4 : Int) < ((elemsI S).length : Int) := by omega
            clear hll
            go_wp2_with fail
            go_round
            case rel => exact ⟨k + 1, by omega, by go_num, HALL.out⟩
            case measure => simp [intOf]; omega
          · have hf2 : (4 : Int) < ((elemsI S).length : Int) := by omega
            have HE : Hid (R = 14) := Lib.hid (by rw [HRR.out, r45N_few H0.out h1 (all_false HX.out (by simp [fewB]; omega))])
            clear hll
            go_wp2_with fail
            go_ret
            exact ⟨by rw [HE.out]; rfl, HB1.out⟩
        · have hkn : k = T.length := by omega
          subst hkn
          rw [List.take_length] at HPAR
          have HE : Hid (R = 0) := Lib.hid (by rw [HRR.out, r45N_ok H0.out h1 HPAR.out])
          go_wp2_with fail
          go_ret
          exact ⟨by rw [HE.out]; rfl, HB1.out⟩
  · have HE : Hid (R = rCheckN T) := Lib.hid (by rw [HRR.out, r45N_check h0])
    have h1 : (rCheckN T == 0) = false := by simpa using h0
    have h2 : (rCheckN T != 0) = true := by simpa using h0
    obtain ⟨E, hE⟩ : ∃ E, E = rCheckN T := ⟨_, rfl⟩
    rw [← hE] at HE h0 h1 h2 HC
    clear hE
    go_enter Tryz.func13, Tryz.ntmps13
    go_wp2_with fail
    refine HC.out.mono ?_
    rintro e w1 ⟨rfl, hb1⟩
    have HB1 := Lib.hid hb1
    clear hb1
    go_wp2_with fail
    go_ret
    exact ⟨by rw [HE.out]; rfl, HB1.out⟩

set_option maxRecDepth 10000 in
set_option maxHeartbeats 1000000 in
theorem rsize_any (T : List Bg) (hlen : T.length ≤ 65536) (u : Tr) : ∀ (_ : Fits T.length (kidsTo T T.length) u) (_ : u.sz ≤ 65536) (v : Value) (w : World) (_ : RefT w v T),
    Calls Tryz.prog 60 #[v, .int .i64 (u.lab : Int)] w fun e w' => e = .returned (.int .i64 (u.sz : Int)) ∧ Below w.heap.size w w' := by
  induction u using Tr.induct with
  | h b ks ih =>
    intro hF hsz v w hv
    have HV := Lib.hid hv
    have hK := rkids_any T v w hv hlen b
    obtain ⟨hk1, hk2⟩ := hF.labL
    simp only [Tr.lab, Tr.ks] at hk1 hk2
    rw [hk1] at hK
    have HK := Lib.hid hK
    have IH : Hid (∀ t ∈ ks, ∀ w, RefT w v T → Calls Tryz.prog 60 #[v, .int .i64 (t.lab : Int)] w fun e w' => e = .returned (.int .i64 (t.sz : Int)) ∧ Below w.heap.size w w') := Lib.hid fun t ht w hw =>
      ih t ht (hk2 t ht) (by have := Tr.szs_le ht; simp only [Tr.sz] at hsz; omega) v w hw
    obtain ⟨a, c, rfl, -⟩ := hv
    have hs0 : Tr.szs ks + 1 ≤ 65536 := by simp only [Tr.sz] at hsz; omega
    have hkl : ks.length ≤ Tr.szs ks := Tr.length_le_szs ks
    have e0 : (Tr.node b ks).sz = 1 + Tr.szs ks := by simp [Tr.sz]
    rw [e0]
    simp only [Tr.lab]
    clear hF hsz hK hk1 hk2 ih e0
    go_enter Tryz.func60, Tryz.ntmps60
    go_wp2_with fail
    refine HK.out.mono ?_
    rintro e w1 ⟨v1, rfl, hO1, hb1⟩
    have HL := Lib.hid hO1.rdl
    obtain ⟨q1, c1, rfl⟩ := hO1.sl
    rw [labL_length] at HL ⊢
    have HB1 := Lib.hid hb1
    have hs1 := hb1.size
    clear hO1 hb1 HK
    go_wp2_with fail
    go_loopw [5, 7] (fun n i wr => ∃ k : Nat, k ≤ ks.length ∧ i = .int .i64 (k : Int) ∧ n = .int .i64 (1 + (Tr.szs (ks.take k) : Int)) ∧ Below w1.heap.size w1 wr) (fun _ i _ => ks.length - (intOf i).toNat)
    case atStart => exact ⟨0, by omega, rfl, rfl, Below.refl _ _⟩
    case round =>
      obtain ⟨k, hk, rfl, rfl, hb⟩ := hrel
      have hsz := hb.size
      have HB2 := Lib.hid hb
      clear hb
      by_cases hlt : k < ks.length
      · obtain ⟨b2, off, c2, z, hv2, hz, hc⟩ := HL.out.at (k := k) (by rw [labL_length]; exact hlt)
        rw [labL_length] at hv2
        simp only [Value.slice.injEq] at hv2
        obtain ⟨rfl, -, rfl⟩ := hv2
        obtain ⟨t, ht, rfl⟩ := labL_get hz
        have hcell := hc wr HB2.out
        have hst := szs_take_succ ht
        have hle := szs_take_le ks (k + 1)
        rw [hst] at hle
        have HST := Lib.hid hst
        have HT := Lib.hid (IH.out t (List.mem_of_getElem? ht) wr ((HV.out.below HB1.out).below HB2.out))
        clear hc hz ht hst
        go_wp2_with fail
        refine HT.out.mono ?_
        rintro e w2 ⟨rfl, hb2⟩
        have HB3 := Lib.hid (HB2.out.trans (hb2.mono hsz))
        clear hb2 HT
        go_wp2_with fail
        go_roundw
        case rel => exact ⟨k + 1, by omega, by go_num, by rw [HST.out]; go_num, HB3.out⟩
        case measure => simp [intOf]; omega
      · have hkn : k = ks.length := by omega
        subst hkn
        rw [List.take_length]
        go_wp2_with fail
        go_ret
        exact ⟨by go_num, HB1.out.trans (HB2.out.mono hs1)⟩
end Go.Proofs.YtoiefehkfhkhbaaGreatDoor
