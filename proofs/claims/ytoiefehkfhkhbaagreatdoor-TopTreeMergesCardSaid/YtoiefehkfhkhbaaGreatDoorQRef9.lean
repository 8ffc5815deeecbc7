/-
  Walks of the reference of frames: Heavy, Light, Way, Shared; the split of a list of weights.
  Walks of the reference of clusters: shared, ends; the row of clusters.
-/
import Derived.Test.YtoiefehkfhkhbaaGreatDoorQRef6
import Derived.Test.YtoiefehkfhkhbaaGreatDoorQIter
import Derived.Test.YtoiefehkfhkhbaaGreatDoorQFr1
namespace Go.Pal
open Go Go.RowKit
def headL : List Tr → Int
  | [] => -1
  | t :: _ => t.lab
theorem hLab_neg {o : Option Tr} : Tr.hLab o < 0 ↔ o = none := by
  cases o with
  | none => simp [Tr.hLab]
  | some h => simp [Tr.hLab]
theorem hLab_none : Tr.hLab none = -1 := rfl
theorem hLab_some (x : Tr) : Tr.hLab (some x) = (x.lab : Int) := rfl
theorem headL_nil : headL [] = -1 := rfl
theorem headL_cons (x : Tr) (l : List Tr) : headL (x :: l) = (x.lab : Int) := rfl
theorem hvL_take_mem {ks : List Tr} {k : Nat} {h : Tr} (hh : Tr.hvL (ks.take k) = some h) : h ∈ ks := List.mem_of_mem_take (Tr.hvL_mem hh)
end Go.Pal
namespace Go.Proofs.YtoiefehkfhkhbaaGreatDoor
open Go Go.RowKit Go.Pal

set_option maxRecDepth 10000 in
set_option maxHeartbeats 2000000 in
theorem rheavy_any (T : List Bg) (hlen : T.length ≤ 65536) (u : Tr) (hF : Fits T.length (kidsTo T T.length) u) (hsz : u.sz ≤ 65536) (v : Value) (w : World) (hv : RefT w v T) :
    Calls Tryz.prog 61 #[v, .int .i64 (u.lab : Int)] w fun e w' => e = .returned (.int .i64 (Tr.hLab (Tr.hvL u.ks))) ∧ Below w.heap.size w w' := by
  have HV := Lib.hid hv
  obtain ⟨b, ks⟩ := u
  have hK := rkids_any T v w hv hlen b
  obtain ⟨hk1, hk2⟩ := hF.labL
  simp only [Tr.lab, Tr.ks] at hk1 hk2 ⊢
  rw [hk1] at hK
  have HK := Lib.hid hK
  have hlab : ∀ t ∈ ks, t.lab < T.length := fun t ht => (hk2 t ht).lab
  have HLAB := Lib.hid hlab
  have hle : ∀ t ∈ ks, t.sz ≤ 65536 := fun t ht => by have := Tr.szs_le ht; simp only [Tr.sz] at hsz; omega
  have HLE := Lib.hid hle
  have IH : Hid (∀ t ∈ ks, ∀ w, RefT w v T → Calls Tryz.prog 60 #[v, .int .i64 (t.lab : Int)] w fun e w' => e = .returned (.int .i64 (t.sz : Int)) ∧ Below w.heap.size w w') := Lib.hid fun t ht w hw =>
    rsize_any T hlen t (hk2 t ht) (hle t ht) v w hw
  obtain ⟨a, c, rfl, -⟩ := hv
  have hkl : ks.length ≤ 65536 := by have := Tr.length_le_szs ks; simp only [Tr.sz] at hsz; omega
  clear hF hsz hK hk1 hk2 hlab hle
  go_enter Tryz.func61, Tryz.ntmps61
  go_wp2_with fail
  refine HK.out.mono ?_
  rintro e w1 ⟨v1, rfl, hO1, hb1⟩
  have HL := Lib.hid hO1.rdl
  obtain ⟨q1, c1, rfl⟩ := hO1.sl
  rw [labL_length] at HL ⊢
  have HB1 := Lib.hid hb1
  have hs1 := hb1.size
  clear hO1 hb1 HK
  go_wp2_with fail
  go_loopw [6, 7] (fun n i wr => ∃ k : Nat, k ≤ ks.length ∧ i = .int .i64 (k : Int) ∧ n = .int .i64 (Tr.hLab (Tr.hvL (ks.take k))) ∧ Below w1.heap.size w1 wr) (fun _ i _ => ks.length - (intOf i).toNat)
  case atStart => exact ⟨0, by omega, rfl, rfl, Below.refl _ _⟩
  case round =>
    obtain ⟨k, hk, rfl, rfl, hb⟩ := hrel
    have hsz := hb.size
    have HB2 := Lib.hid hb
    clear hb
    by_cases hlt : k < ks.length
    · obtain ⟨b2, off, c2, z, hv2, hz, hc⟩ := HL.out.at (k := k) (by rw [labL_length]; exact hlt)
      rw [labL_length] at hv2
      simp only [Value.slice.injEq] at hv2
      obtain ⟨rfl, -, rfl⟩ := hv2
      obtain ⟨t, ht, rfl⟩ := labL_get hz
      have HC := Lib.hid hc
      have hcell := hc wr HB2.out
      have hst := hvL_take_succ ht
      have htm := List.mem_of_getElem? ht
      have HST := Lib.hid hst
      have htl := HLE.out t htm
      have htb := HLAB.out t htm
      cases hh : Tr.hvL (ks.take k) with
      | none =>
        rw [hh] at HST
        have HST2 : Hid (Tr.hLab (Tr.hvL (ks.take (k + 1))) = (t.lab : Int)) := Lib.hid (by rw [HST.out]; rfl)
        simp only [hLab_none]
        clear hc hz ht hst htm hh HST
        go_wp2_with fail
        go_roundw
        case rel => exact ⟨k + 1, by omega, by go_num, by rw [HST2.out], HB2.out⟩
        case measure => simp [intOf]; omega
      | some x =>
        rw [hh] at HST
        have hxm := hvL_take_mem hh
        have hxl := HLE.out x hxm
        have hxb := HLAB.out x hxm
        have HT := Lib.hid (IH.out t htm wr ((HV.out.below HB1.out).below HB2.out))
        simp only [hLab_some]
        have hxn : decide ((x.lab : Int) < 0) = false := by simp
        clear hc hz ht hst htm hh
        go_wp2_with fail
        refine HT.out.mono ?_
        rintro e w2 ⟨rfl, hb2⟩
        have HX := Lib.hid (IH.out x hxm w2 (((HV.out.below HB1.out).below HB2.out).below hb2))
        have HB3 := Lib.hid (HB2.out.trans (hb2.mono hsz))
        have hs2 := HB3.out.size
        clear hb2 HT
        go_wp2_with fail
        refine HX.out.mono ?_
        rintro e w3 ⟨rfl, hb3⟩
        have HB4 := Lib.hid (HB3.out.trans (hb3.mono hs2))
        have hcell3 := HC.out w3 HB4.out
        clear hb3 HX hcell
        by_cases hgt : x.sz < t.sz
        · have HST2 : Hid (Tr.hLab (Tr.hvL (ks.take (k + 1))) = (t.lab : Int)) := Lib.hid (by rw [HST.out]; simp [Tr.hS, hgt, Tr.hLab])
          have hg2 : (x.sz : Int) < (t.sz : Int) := by omega
          clear HST
          go_wp2_with fail
          go_roundw
          case rel => exact ⟨k + 1, by omega, by go_num, by rw [HST2.out], HB4.out⟩
          case measure => simp [intOf]; omega
        · have HST2 : Hid (Tr.hLab (Tr.hvL (ks.take (k + 1))) = (x.lab : Int)) := Lib.hid (by rw [HST.out]; simp [Tr.hS, hgt, Tr.hLab])
          have hg2 : ¬ (x.sz : Int) < (t.sz : Int) := by omega
          clear HST
          go_wp2_with fail
          go_roundw
          case rel => exact ⟨k + 1, by omega, by go_num, by rw [HST2.out], HB4.out⟩
          case measure => simp [intOf]; omega
    · have hkn : k = ks.length := by omega
      subst hkn
      rw [List.take_length]
      obtain ⟨z, hz⟩ : ∃ z, z = Tr.hLab (Tr.hvL ks) := ⟨_, rfl⟩
      have HZ := Lib.hid hz
      clear hz
      rw [← HZ.out]
      go_wp2_with fail
      go_ret
      exact ⟨by rw [← HZ.out]; rfl, HB1.out.trans (HB2.out.mono hs1)⟩

set_option maxRecDepth 10000 in
set_option maxHeartbeats 2000000 in
theorem rlight_any (T : List Bg) (hlen : T.length ≤ 65536) (u : Tr) (hF : Fits T.length (kidsTo T T.length) u) (hsz : u.sz ≤ 65536) (v : Value) (w : World) (hv : RefT w v T) :
    Calls Tryz.prog 98 #[v, .int .i64 (u.lab : Int)] w fun e w' => ∃ v', e = .returned v' ∧ OwnI w.heap.size w' v' (labL u.lights) ∧ Below w.heap.size w w' := by
  have HV := Lib.hid hv
  have hK := rkids_any T v w hv hlen u.lab
  rw [hF.labL.1] at hK
  have HK := Lib.hid hK
  have HH : Hid (∀ w, RefT w v T → Calls Tryz.prog 61 #[v, .int .i64 (u.lab : Int)] w fun e w' => e = .returned (.int .i64 (Tr.hLab (Tr.hvL u.ks))) ∧ Below w.heap.size w w') := Lib.hid fun w hw => rheavy_any T hlen u hF hsz v w hw
  obtain ⟨a, c, rfl, -⟩ := hv
  have hkl : u.ks.length ≤ 65536 := by have := Tr.length_le_szs u.ks; cases u; simp only [Tr.sz, Tr.ks] at hsz this ⊢; omega
  obtain ⟨H, hH⟩ : ∃ H, H = Tr.hLab (Tr.hvL u.ks) := ⟨_, rfl⟩
  rw [← hH] at HH
  have hLi : u.lights = u.ks.filter fun k => !((k.lab : Int) == H) := by rw [hH]; rfl
  rw [hLi]
  obtain ⟨ks, hks⟩ : ∃ ks, ks = u.ks := ⟨_, rfl⟩
  rw [← hks] at hkl HK ⊢
  clear hF hsz hK hH hLi hks
  go_enter Tryz.func98, Tryz.ntmps98
  go_wp2_with fail
  refine HK.out.mono ?_
  rintro e w1 ⟨v1, rfl, hO1, hb1⟩
  have HL := Lib.hid hO1.rdl
  obtain ⟨q1, c1, rfl⟩ := hO1.sl
  rw [labL_length] at HL ⊢
  have HB1 := Lib.hid hb1
  have hs1 := hb1.size
  clear hO1 hb1 HK
  go_wp2_with fail
  refine (HH.out w1 (HV.out.below HB1.out)).mono ?_
  rintro e w2 ⟨rfl, hb2⟩
  have HL2 := Lib.hid (HL.out.below hb2)
  have HB2 := Lib.hid (HB1.out.trans (hb2.mono hs1))
  have hs2 := HB2.out.size
  clear hb2 HL HH
  go_wp2_with fail
  go_loopw [7, 8] (fun v i wr => ∃ k : Nat, k ≤ ks.length ∧ i = .int .i64 (k : Int) ∧ OwnI w2.heap.size wr v (labL ((ks.take k).filter fun k => !((k.lab : Int) == H))) ∧ Below w2.heap.size w2 wr) (fun _ i _ => ks.length - (intOf i).toNat)
  case atStart => exact ⟨0, by omega, rfl, World.ownsRow_nil _ _ _ _, Below.refl _ _⟩
  case round =>
    obtain ⟨k, hk, rfl, hO, hb⟩ := hrel
    have hsz := hb.size
    have HO := Lib.hid hO
    have HB3 := Lib.hid hb
    clear hO hb
    by_cases hlt : k < ks.length
    · obtain ⟨b2, off, c2, z, hv2, hz, hc⟩ := HL2.out.at (k := k) (by rw [labL_length]; exact hlt)
      rw [labL_length] at hv2
      simp only [Value.slice.injEq] at hv2
      obtain ⟨rfl, -, rfl⟩ := hv2
      obtain ⟨t, ht, rfl⟩ := labL_get hz
      have HC := Lib.hid hc
      have hcell := hc wr HB3.out
      have hst : labL ((ks.take (k + 1)).filter fun k => !((k.lab : Int) == H)) = labL ((ks.take k).filter fun k => !((k.lab : Int) == H)) ++ if (t.lab : Int) = H then [] else [(t.lab : Int)] := by
        rw [List.take_add_one, ht, List.filter_append]
        unfold labL
        rw [List.map_append]
        congr 1
        by_cases h : (t.lab : Int) = H <;> simp [h]
      have hfl : (labL ((ks.take k).filter fun k => !((k.lab : Int) == H))).length ≤ k := by
        rw [labL_length]
        exact Nat.le_trans (List.length_filter_le _ _) (List.length_take_le _ _)
      have HST := Lib.hid hst
      obtain ⟨acc, hacc⟩ : ∃ acc, acc = labL ((ks.take k).filter fun k => !((k.lab : Int) == H)) := ⟨_, rfl⟩
      rw [← hacc] at HST HO hfl
      obtain ⟨B, hB⟩ : ∃ B : Nat, B = t.lab := ⟨_, rfl⟩
      rw [← hB] at HC hcell HST
      clear hc hz ht hst hacc hB
      by_cases hm : (B : Int) = H
      · rw [if_pos hm, List.append_nil] at HST
        have hm2 : ((B : Int) == H) = true := by simpa using hm
        have hm3 : ((B : Int) != H) = false := by simpa using hm
        clear hm
        go_wp2_with fail
        go_roundw
        case rel => exact ⟨k + 1, by omega, by go_num, by rw [HST.out]; exact HO.out, HB3.out⟩
        case measure => simp [intOf]; omega
      · rw [if_neg hm] at HST
        have hm2 : ((B : Int) == H) = false := by simpa using hm
        have hm3 : ((B : Int) != H) = true := by simpa using hm
        clear hm
        go_wp2_with (at_builtin; refine wpList_appT rfl 34 undI _ _ rfl (w2.heap.size) _ (acc) rfl (HO.out.alloc _) _ ((B : Int)) _ rfl (by simp [go_sem]) (by first | omega | (simp; omega)) (by simp; omega) ?_)
        intro v' w4 hO2 hb2
        obtain ⟨q2, cap2, rfl⟩ := hO2.sl
        have HO2 := Lib.hid hO2
        have HB4 := Lib.hid ((HB3.out.alloc hsz _).trans hb2)
        clear hO2 hb2
        go_wp2_with fail
        go_roundw
        case rel => exact ⟨k + 1, by omega, by go_num, by rw [HST.out]; exact HO2.out, HB4.out⟩
        case measure => simp [intOf]; omega
    · have hkn : k = ks.length := by omega
      subst hkn
      rw [List.take_length] at HO
      go_wp2_with fail
      go_ret
      exact ⟨_, rfl, HO.out.lower hs2, HB2.out.trans (HB3.out.mono hs2)⟩

set_option maxRecDepth 10000 in
set_option maxHeartbeats 2000000 in
theorem rway_any (T : List Bg) (hlen : T.length ≤ 65536) (u : Tr) (hF : Fits T.length (kidsTo T T.length) u) (hsz : u.sz ≤ 65536) (v : Value) (w : World) (hv : RefT w v T) (l : List Tr) (hl : HPath u l) :
    Calls Tryz.prog 23 #[v, .int .i64 (u.lab : Int)] w fun e w' => ∃ v', e = .returned v' ∧ OwnI w.heap.size w' v' (labL l) ∧ Below w.heap.size w w' := by
  have HV := Lib.hid hv
  have HF := Lib.hid hF
  have HL := Lib.hid hl
  have hll := Nat.le_trans hl.length_le hsz
  have HSZ := Lib.hid hsz
  obtain ⟨a, c, rfl, -⟩ := hv
  clear hF hl hsz
  go_enter Tryz.func23, Tryz.ntmps23
  go_wp2_with fail
  go_loopw [1, 5] (fun b v wr => ∃ done rest : List Tr, l = done ++ rest ∧ b = .int .i64 (headL rest) ∧ (rest = [] ∨ ∃ x, HPath x rest ∧ Fits T.length (kidsTo T T.length) x ∧ x.sz ≤ 65536) ∧ OwnI w.heap.size wr v (labL done) ∧ Below w.heap.size w wr) (fun _ v _ => l.length + 1 - vLen v)
  case atStart => exact ⟨[], l, rfl, by cases HL.out <;> rfl, .inr ⟨u, HL.out, HF.out, HSZ.out⟩, World.ownsRow_nil _ _ _ _, Below.refl _ _⟩
  case round =>
    obtain ⟨done, rest, hd, rfl, hrest, hO, hb⟩ := hrel
    have HO := Lib.hid hO
    have HB := Lib.hid hb
    have HD := Lib.hid hd
    have hsz := hb.size
    obtain ⟨q1, c1, rfl⟩ := hO.sl
    rw [labL_length] at HO ⊢
    clear hO hb hd
    cases rest with
    | nil =>
      simp only [headL_nil]
      go_wp2_with fail
      go_ret
      refine ⟨_, rfl, ?_, HB.out⟩
      rw [HD.out, List.append_nil]
      exact HO.out
    | cons y rest =>
      obtain ⟨x, hp, hfx, hszx⟩ := hrest.resolve_left (by simp)
      have hxy : x = y := by cases hp <;> rfl
      subst hxy
      have hxn := hfx.lab
      have hnext : Tr.hLab (Tr.hvL x.ks) = headL rest ∧ (rest = [] ∨ ∃ x, HPath x rest ∧ Fits T.length (kidsTo T T.length) x ∧ x.sz ≤ 65536) := by
        cases hp with
        | last h => exact ⟨by rw [h]; rfl, .inl rfl⟩
        | @cons _ h' _ h hp =>
          have hm := Tr.hvL_mem h
          have hs := Tr.szs_le hm
          refine ⟨by rw [h]; cases hp <;> rfl, .inr ⟨h', hp, hfx.labL.2 h' hm, ?_⟩⟩
          cases x
          simp only [Tr.sz, Tr.ks] at hszx hs
          omega
      have HN2 := Lib.hid hnext.2
      have HN1 := Lib.hid hnext.1
      have hdl : done.length < l.length := by rw [HD.out]; simp
      have HH : Hid (∀ w', RefT w' (.slice a T.length c) T → Calls Tryz.prog 61 #[.slice a T.length c, .int .i64 (x.lab : Int)] w' fun e w'' => e = .returned (.int .i64 (Tr.hLab (Tr.hvL x.ks))) ∧ Below w'.heap.size w' w'') := Lib.hid fun w' hw => rheavy_any T hlen x hfx hszx _ w' hw
      simp only [headL_cons]
      have hnn : (0 : Int) ≤ (x.lab : Int) := by omega
      rw [HN1.out] at HH
      have hle : (labL done).length ≤ 65536 := by rw [labL_length]; omega
      have e1 : (labL done).length = done.length := labL_length _
      have E1 := Lib.hid e1
      clear hp hrest hfx hszx hnext hnn e1
      go_wp2_with (at_builtin; refine wpList_appT rfl 34 undI _ _ rfl (w.heap.size) _ ((labL done)) rfl (HO.out.alloc _) _ ((x.lab : Int)) _ rfl (by simp [go_sem]) (by first | omega | (simp; omega)) (by simp; omega) ?_)
      intro v' w2 hO2 hb2
      have hO2' : OwnI w.heap.size w2 v' (labL (done ++ [x])) := by unfold labL at hO2 ⊢; rw [List.map_append]; exact hO2
      obtain ⟨q2, cap2, rfl⟩ := hO2'.sl
      rw [labL_length, show (done ++ [x]).length = done.length + 1 by simp] at hO2' ⊢
      have HO2 := Lib.hid hO2'
      have HB2 := Lib.hid ((HB.out.alloc hsz _).trans hb2)
      have hs2 := HB2.out.size
      clear hO2 hb2 hO2'
      go_wp2_with fail
      refine (HH.out w2 (HV.out.below HB2.out)).mono ?_
      rintro e w3 ⟨rfl, hb3⟩
      have HO3 := Lib.hid (HO2.out.below hb3 (Nat.le_refl _))
      have HB3 := Lib.hid (HB2.out.trans (hb3.mono hs2))
      clear hb3 HH HO2
      go_wp2_with fail
      go_roundw
      case rel => exact ⟨done ++ [x], rest, by rw [HD.out]; simp, rfl, HN2.out, HO3.out, HB3.out⟩
      case measure => simp [vLen]; omega

set_option maxRecDepth 10000 in
set_option maxHeartbeats 2000000 in
theorem rshared_any (T : List Bg) (hP : ParIn T) (i : Nat) (hi : i < T.length) (v : Value) (w : World) (hv : RefT w v T) :
    Calls Tryz.prog 101 #[v, .int .i64 (i : Int)] w fun e w' => ∃ v', e = .returned v' ∧ RdA (fun k => w.heap.size ≤ k) w' v' (elemsI (adhS T i)) ∧ Below w.heap.size w w' := by
  have HV := Lib.hid hv
  obtain ⟨b, off, c, p, S, q, cap, rfl, hx, hS, hc⟩ := hv.at hi
  obtain ⟨hp0, hp1⟩ := hP i _ hx
  simp only at hp0 hp1
  have HX := Lib.hid hx
  by_cases hr : p = -1
  · subst hr
    obtain ⟨k1, -, -⟩ := hc w (Below.refl _ _)
    have HE : Hid (adhS T i = 0) := Lib.hid (adhS_root hx rfl)
    clear hx hc hv hP
    go_enter Tryz.func101, Tryz.ntmps101
    go_wp2_with fail
    go_ret
    refine ⟨_, rfl, ?_, (Below.refl _ _).alloc (Nat.le_refl _) _⟩
    rw [HE.out]
    rw [elemsI_zero]
    exact (OwnI.empty (B := w.heap.size) (Nat.le_refl _)).rda
  · obtain ⟨j, rfl⟩ : ∃ j : Nat, p = (j : Int) := ⟨p.toNat, by omega⟩
    have hj : j < T.length := by omega
    obtain ⟨b2, off2, c2, p2, S2, q2, cap2, hv2, hx2, hS2, hc2⟩ := hv.at hj
    simp only [Value.slice.injEq, Option.some.injEq, Addr.mk.injEq] at hv2
    obtain ⟨⟨rfl, rfl, -⟩, -, rfl⟩ := hv2
    have HE : Hid (adhS T i = S &&& S2) := Lib.hid (adhS_other hx rfl hx2)
    obtain ⟨k1, -, -⟩ := hc w (Below.refl _ _)
    obtain ⟨k2, k3, k4⟩ := hc w.drew (Below.refl _ _).drew
    obtain ⟨-, k5, k6⟩ := hc2 w.drew (Below.refl _ _).drew
    simp only [World.cell?_drew] at k2 k3 k5
    have H4 := Lib.hid k4
    have H6 := Lib.hid k6
    clear hx hc hv hP hr hx2 hc2 k4 k6
    go_enter Tryz.func101, Tryz.ntmps101
    go_wp2_with fail
    refine wp_region_free_tail (fun w' => w' = w.drew) 14 (by kernel_rfl) (by kernel_rfl) rfl ?_
    simp only [List.take_succ_cons, List.take_zero, List.drop_succ_cons, List.drop_zero]
    repeat (apply wpFree_still; (intro w hw; subst hw; go_simp; (try go_ints); (first | with_reducible rfl | (go_simp; with_reducible rfl))); with_reducible rfl; (intro K hK; go_simp; (try go_ints); refine hK _ ?_; clear hK K))
    with_reducible refine wpFree_nil ?_
    rintro w' rfl
    go_wp2_with fail
    refine (rand_any S S2 _ _ _ H4.out H6.out).mono ?_
    rintro e w2 ⟨v2, rfl, hv2, hb2⟩
    have HV2 := Lib.hid hv2
    have HB2 := Lib.hid ((Below.refl w.heap.size w).drew.trans hb2)
    clear hv2 hb2 k1 k2 k3 k5
    go_wp2_with fail
    go_ret
    exact ⟨_, rfl, by rw [HE.out]; exact HV2.out, HB2.out⟩

set_option maxRecDepth 10000 in
set_option maxHeartbeats 2000000 in
theorem r46split_any (ws : List Nat) (v : Value) (w : World) (hv : RdL w v (ws.map fun i : Nat => (i : Int))) (h2 : 2 ≤ ws.length) (hlen : ws.length ≤ 65536) (hsum : ws.sum ≤ 1000000000000) :
    Calls Tryz.prog 62 #[v] w fun e w' => e = .returned (.int .i64 (splitAtW ws : Int)) ∧ w' = w := by
  have HV := Lib.hid hv
  obtain ⟨a, c, rfl, -⟩ := hv
  rw [List.length_map] at HV ⊢
  obtain ⟨R, hR⟩ : ∃ R, R = splitAtW ws := ⟨_, rfl⟩
  have HRR := Lib.hid hR
  rw [← hR]
  clear hR
  go_enter Tryz.func62, Tryz.ntmps62
  go_wp2_with fail
  go_loop [3, 4] (fun s i => ∃ k : Nat, k ≤ ws.length ∧ i = .int .i64 (k : Int) ∧ s = .int .i64 ((ws.take k).sum : Int)) (fun _ i => ws.length - (intOf i).toNat)
  case atStart => exact ⟨0, by omega, rfl, rfl⟩
  case round =>
    obtain ⟨k, hk, rfl, rfl⟩ := hrel
    by_cases hlt : k < ws.length
    · obtain ⟨b2, off, c2, z, hv2, hz, hc⟩ := HV.out.at (k := k) (by rw [List.length_map]; exact hlt)
      rw [List.length_map] at hv2
      simp only [Value.slice.injEq] at hv2
      obtain ⟨rfl, -, rfl⟩ := hv2
      have hcell := hc w (Below.refl _ _)
      rw [List.getElem?_map] at hz
      obtain ⟨x, hx, rfl⟩ := Option.map_eq_some_iff.1 hz
      have hst : (ws.take (k + 1)).sum = (ws.take k).sum + x := by rw [List.take_add_one, hx, List.sum_append]; simp
      have hle := sum_take_le ws (k + 1)
      rw [hst] at hle
      have HST := Lib.hid hst
      clear hc hz hx hst
      go_wp2_with fail
      go_round
      case rel => exact ⟨k + 1, by omega, by go_num, by rw [HST.out]; go_num⟩
      case measure => simp [intOf]; omega
    · have hkn : k = ws.length := by omega
      subst hkn
      rw [List.take_length]
      obtain ⟨total, htot⟩ : ∃ t, t = ws.sum := ⟨_, rfl⟩
      rw [← htot] at hsum ⊢
      have HTOT := Lib.hid htot
      have hge : ∀ k, (ws.take k).sum ≤ total := fun k => by rw [htot]; exact sum_take_le ws k
      have HGE := Lib.hid hge
      clear htot hlt hk hge
      go_wp2_with fail
      go_loop [5, 6] (fun s i => ∃ k : Nat, k + 1 ≤ ws.length ∧ i = .int .i64 (k : Int) ∧ s = .int .i64 ((ws.take k).sum : Int) ∧ splitFrom total 0 ws = k + splitFrom total (ws.take k).sum (ws.drop k)) (fun _ i => ws.length - (intOf i).toNat)
      case atStart => exact ⟨0, by omega, rfl, rfl, by simp⟩
      case round =>
        obtain ⟨k, hk, rfl, rfl, hsp⟩ := hrel
        by_cases hlt : k + 1 < ws.length
        · obtain ⟨b2, off, c2, z, hv2, hz, hc⟩ := HV.out.at (k := k) (by rw [List.length_map]; omega)
          rw [List.length_map] at hv2
          simp only [Value.slice.injEq] at hv2
          obtain ⟨rfl, -, rfl⟩ := hv2
          have hcell := hc w (Below.refl _ _)
          rw [List.getElem?_map] at hz
          obtain ⟨x, hx, rfl⟩ := Option.map_eq_some_iff.1 hz
          have hst : (ws.take (k + 1)).sum = (ws.take k).sum + x := by rw [List.take_add_one, hx, List.sum_append]; simp
          have hle := HGE.out (k + 1)
          have hdr : ws.drop k = x :: ws.drop (k + 1) := by
            obtain ⟨hlt', rfl⟩ := List.getElem?_eq_some_iff.1 hx
            exact List.drop_eq_getElem_cons hlt'
          rw [hst] at hle
          rw [hdr, splitFrom_cons] at hsp
          have HST := Lib.hid hst
          obtain ⟨s, hs⟩ : ∃ s, s = (ws.take k).sum := ⟨_, rfl⟩
          rw [← hs] at hle hsp HST ⊢
          have hlt2 : (k : Int) < (ws.length : Int) - 1 := by omega
          clear hc hz hx hst hdr hs
          by_cases hgo : total ≤ 2 * (s + x)
          · rw [if_pos hgo, Nat.add_zero] at hsp
            have HE : Hid (R = k + 1) := Lib.hid (by rw [HRR.out]; unfold splitAtW; rw [← HTOT.out, hsp]; omega)
            have hg2 : (total : Int) ≤ 2 * ((s : Int) + (x : Int)) := by omega
            clear hsp hgo
            go_wp2_with fail
            go_ret
            exact ⟨by rw [HE.out]; go_num, rfl⟩
          · rw [if_neg hgo] at hsp
            have HSP := Lib.hid hsp
            have hg2 : ¬ (total : Int) ≤ 2 * ((s : Int) + (x : Int)) := by omega
            clear hsp hgo
            go_wp2_with fail
            go_round
            case rel => exact ⟨k + 1, by omega, by go_num, by rw [HST.out]; go_num, by rw [HSP.out, HST.out]; omega⟩
            case measure => simp [intOf]; omega
        · have hk1 : k = ws.length - 1 := by omega
          have HE : Hid (R = ws.length - 1) := Lib.hid (by rw [HRR.out]; unfold splitAtW; rw [← HTOT.out, hsp]; omega)
          have hlt2 : ¬ (k : Int) < (ws.length : Int) - 1 := by omega
          have h3 : (((ws.length - 1 : Nat)) : Int) = (ws.length : Int) - 1 := by omega
          clear hsp hk1
          go_wp2_with fail
          go_ret
          exact ⟨by rw [HE.out, h3]; rfl, rfl⟩
end Go.Proofs.YtoiefehkfhkhbaaGreatDoor
namespace Go.Pal
open Go Go.RowKit
theorem hasS_take_succ {T : List Bg} {l : List Tr} {k : Nat} {t : Tr} (h : l[k]? = some t) : hasS T (l.take (k + 1)) = hasS T (l.take k) ||| adhS T t.lab := by
  unfold hasS
  rw [List.take_add_one, h, List.foldl_append]
  rfl
/-- A cluster of the reference: what it is, and the values of its two lists. -/
structure RNd where
  nd : TNd
  pv : Value
  hv : Value
def RNd.cells (x : RNd) : List Value := [.int .i64 (x.nd.kind : Int), .int .i64 (x.nd.bag : Int), x.pv, x.hv]
def RNd.ok (A : Nat → Prop) (w : World) (x : RNd) : Prop := RdA A w x.pv (x.nd.kids.map fun i : Nat => (i : Int)) ∧ RdA A w x.hv (elemsI x.nd.bnd) ∧ IsSet x.nd.bnd
theorem RNd.ok.keep {A A' : Nat → Prop} {w w' : World} {x : RNd} (h : x.ok A w) (hs : w.heap.size ≤ w'.heap.size) (hk : ∀ k, k < w.heap.size → A k → w'.heap[k]? = w.heap[k]? ∧ A' k) : x.ok A' w' :=
  ⟨h.1.keep hs hk, h.2.1.keep hs hk, h.2.2⟩
def rnC (L : List RNd) : List Value := L.flatMap RNd.cells
theorem rnC_length (L : List RNd) : (rnC L).length = L.length * 4 := by
  induction L with
  | nil => rfl
  | cons x N ih =>
    simp only [rnC, List.flatMap_cons, List.length_append, List.length_cons, RNd.cells, List.length_nil] at ih ⊢
    omega
theorem rnC_append (N M : List RNd) : rnC (N ++ M) = rnC N ++ rnC M := by simp [rnC]
theorem rnC_get {L : List RNd} {k : Nat} {x : RNd} (hx : L[k]? = some x) : (rnC L)[k * 4]? = some (.int .i64 (x.nd.kind : Int)) ∧ (rnC L)[k * 4 + 1]? = some (.int .i64 (x.nd.bag : Int)) ∧ (rnC L)[k * 4 + 2]? = some x.pv ∧ (rnC L)[k * 4 + 3]? = some x.hv := by
  induction L generalizing k with
  | nil => simp at hx
  | cons y N ih =>
    rw [show rnC (y :: N) = y.cells ++ rnC N from rfl]
    have hl : y.cells.length = 4 := rfl
    cases k with
    | zero =>
      simp at hx
      subst hx
      exact ⟨rfl, rfl, rfl, rfl⟩
    | succ k =>
      have h := ih (k := k) (by simpa using hx)
      rw [List.getElem?_append_right (by omega), List.getElem?_append_right (by omega), List.getElem?_append_right (by omega), List.getElem?_append_right (by omega), hl]
      rw [show (k + 1) * 4 - 4 = k * 4 by omega, show (k + 1) * 4 + 1 - 4 = k * 4 + 1 by omega, show (k + 1) * 4 + 2 - 4 = k * 4 + 2 by omega, show (k + 1) * 4 + 3 - 4 = k * 4 + 3 by omega]
      exact h
end Go.Pal
namespace Go.Proofs.YtoiefehkfhkhbaaGreatDoor
open Go Go.RowKit Go.Pal

theorem isSet_adhS {T : List Bg} (h : ∀ x ∈ T, IsSet x.2) (i : Nat) : IsSet (adhS T i) := by
  unfold adhS
  split
  · exact isSet_zero
  · rename_i x hx
    split
    · exact isSet_zero
    · split
      · exact isSet_zero
      · exact isSet_and (h x (List.mem_of_getElem? hx))
theorem isSet_hasS {T : List Bg} (h : ∀ x ∈ T, IsSet x.2) (l : List Tr) : IsSet (hasS T l) := by
  unfold hasS
  have key : ∀ (l : List Tr) (S : Nat), IsSet S → IsSet (l.foldl (fun s t => s ||| adhS T t.lab) S) := by
    intro l
    induction l with
    | nil => intro S hS; exact hS
    | cons t l ih => intro S hS; exact ih _ (isSet_or hS (isSet_adhS h _))
  exact key l 0 isSet_zero
theorem isSet_belS {T : List Bg} (h : ∀ x ∈ T, IsSet x.2) (t : Tr) : IsSet (belS T t) := by
  unfold belS
  split
  · exact isSet_zero
  · exact isSet_adhS h _

set_option maxRecDepth 10000 in
set_option maxHeartbeats 2000000 in
theorem r46shared_any (T : List Bg) (hP : ParIn T) (hSets : ∀ x ∈ T, IsSet x.2) (l : List Tr) (hl : ∀ t ∈ l, t.lab < T.length) (hll : l.length ≤ 65536) (v lv : Value) (w : World) (hv : RefT w v T) (hlv : RdL w lv (labL l)) :
    Calls Tryz.prog 117 #[v, lv] w fun e w' => ∃ v', e = .returned v' ∧ RdA (fun k => w.heap.size ≤ k) w' v' (elemsI (hasS T l)) ∧ Below w.heap.size w w' := by
  have HV := Lib.hid hv
  have HLV := Lib.hid hlv
  have HL := Lib.hid hl
  have HP := Lib.hid hP
  have HSets := Lib.hid hSets
  obtain ⟨a, c, rfl, -⟩ := hv
  obtain ⟨a2, c2, rfl, -⟩ := hlv
  rw [labL_length] at HLV ⊢
  clear hl hP hSets
  go_enter Tryz.func117, Tryz.ntmps117
  go_wp2_with fail
  go_loopw [5, 6] (fun v i wr => ∃ k : Nat, k ≤ l.length ∧ i = .int .i64 (k : Int) ∧ RdA (fun k => w.heap.size ≤ k) wr v (elemsI (hasS T (l.take k))) ∧ Below w.heap.size w wr) (fun _ i _ => l.length - (intOf i).toNat)
  case atStart => exact ⟨0, by omega, rfl, by rw [show hasS T (l.take 0) = 0 from rfl, elemsI_zero]; exact (OwnI.empty (B := w.heap.size) (Nat.le_refl _)).rda, (Below.refl _ _).alloc (Nat.le_refl _) _⟩
  case round =>
    obtain ⟨k, hk, rfl, hO, hb⟩ := hrel
    have hsz := hb.size
    have HO := Lib.hid hO
    have HB1 := Lib.hid hb
    obtain ⟨a3, c3, rfl, -⟩ := hO
    clear hb
    by_cases hlt : k < l.length
    · obtain ⟨b2, off, c4, z, hv2, hz, hc⟩ := HLV.out.at (k := k) (by rw [labL_length]; exact hlt)
      rw [labL_length] at hv2
      simp only [Value.slice.injEq] at hv2
      obtain ⟨rfl, -, rfl⟩ := hv2
      obtain ⟨t, ht, rfl⟩ := labL_get hz
      have hcell := hc wr HB1.out
      have HST := Lib.hid (hasS_take_succ (T := T) ht)
      have hsh := rshared_any T HP.out t.lab (HL.out t (List.mem_of_getElem? ht)) _ wr (HV.out.below HB1.out)
      have HSH := Lib.hid hsh
      clear hc hz ht hsh
      go_wp2_with fail
      refine HSH.out.mono ?_
      rintro e w2 ⟨v2, rfl, hv2, hb2⟩
      have hs2 := hb2.size
      have HOr := Lib.hid (ror_any (fun k => w.heap.size ≤ k) _ _ _ v2 w2 (fun k hk => by omega) (HO.out.below hb2) (isSet_hasS HSets.out (l.take k)) ⟨hv2.rdl, isSet_adhS HSets.out t.lab⟩)
      obtain ⟨a5, c5, rfl, -⟩ := hv2
      have HB2 := Lib.hid (HB1.out.trans (hb2.mono hsz))
      clear hb2 HSH
      go_wp2_with fail
      refine HOr.out.mono ?_
      rintro e w3 ⟨v3, rfl, hv3, hb3⟩
      have HV3 := Lib.hid hv3
      have HB3 := Lib.hid (HB2.out.trans (hb3.mono (by omega)))
      clear hb3 hv3 HOr
      go_wp2_with fail
      go_roundw
      case rel => exact ⟨k + 1, by omega, by go_num, by rw [HST.out]; exact HV3.out, HB3.out⟩
      case measure => simp [intOf]; omega
    · have hkn : k = l.length := by omega
      subst hkn
      rw [List.take_length] at HO ⊢
      go_wp2_with fail
      go_ret
      exact ⟨_, rfl, HO.out, HB1.out⟩

set_option maxRecDepth 10000 in
set_option maxHeartbeats 2000000 in
theorem r46ends_any (T : List Bg) (hP : ParIn T) (hSets : ∀ x ∈ T, IsSet x.2) (hlen : T.length ≤ 65536) (l : List Tr) (x y : Tr) (hx : l.head? = some x) (hy : l.getLast? = some y) (hfx : Fits T.length (kidsTo T T.length) x) (hfy : Fits T.length (kidsTo T T.length) y) (hsy : y.sz ≤ 65536) (hll : l.length ≤ 65536) (v lv : Value) (w : World) (hv : RefT w v T) (hlv : RdL w lv (labL l)) :
    Calls Tryz.prog 63 #[v, lv] w fun e w' => ∃ v', e = .returned v' ∧ RdA (fun k => w.heap.size ≤ k) w' v' (elemsI (adhS T x.lab ||| belS T y)) ∧ Below w.heap.size w w' := by
  have hpos : 0 < l.length := by cases l with
    | nil => cases hx
    | cons _ _ => simp
  have hx0 : l[0]? = some x := by rw [← List.head?_eq_getElem?]; exact hx
  have hy0 : l[l.length - 1]? = some y := by rw [← List.getLast?_eq_getElem?]; exact hy
  have HV := Lib.hid hv
  have HLV := Lib.hid hlv
  have HP := Lib.hid hP
  have HSets := Lib.hid hSets
  obtain ⟨b2, off, c4, z, hv2, hz, hc⟩ := hlv.at (k := 0) (by rw [labL_length]; exact hpos)
  subst hv2
  obtain ⟨x', hx', rfl⟩ := labL_get hz
  rw [hx0] at hx'
  obtain rfl := Option.some.inj hx'
  obtain ⟨b3, off3, c5, z2, hv2, hz2, hc2⟩ := hlv.at (k := l.length - 1) (by rw [labL_length]; omega)
  simp only [Value.slice.injEq, Option.some.injEq, Addr.mk.injEq] at hv2
  obtain ⟨⟨rfl, rfl, -⟩, -, rfl⟩ := hv2
  obtain ⟨y', hy', rfl⟩ := labL_get hz2
  rw [hy0] at hy'
  obtain rfl := Option.some.inj hy'
  rw [labL_length] at HLV ⊢
  obtain ⟨a, c, rfl, -⟩ := hv
  have HC := Lib.hid hc
  have HC2 := Lib.hid hc2
  have hcell := hc w (Below.refl _ _)
  rw [Nat.add_zero] at hcell
  have hxl := hfx.lab
  have HHv : Hid (∀ w', RefT w' (.slice a T.length c) T → Calls Tryz.prog 61 #[.slice a T.length c, .int .i64 (y.lab : Int)] w' fun e w'' => e = .returned (.int .i64 (Tr.hLab (Tr.hvL y.ks))) ∧ Below w'.heap.size w' w'') := Lib.hid fun w' hw => rheavy_any T hlen y hfy hsy _ w' hw
  have HFY := Lib.hid hfy
  have HSH := Lib.hid (rshared_any T hP x.lab hxl _ w HV.out)
  have e1 : ((l.length - 1 : Nat) : Int) = (l.length : Int) - 1 := by omega
  have e2 : (0 : Int) < (l.length : Int) := by omega
  have e3 : (l.length : Int) - 1 < (l.length : Int) := by omega
  have e4 : (0 : Int) ≤ (l.length : Int) - 1 := by omega
  have e5 : ((l.length : Int) - 1).toNat = l.length - 1 := by omega
  clear hx hy hx0 hy0 hz hz2 hx' hy' hc hc2 hlv hP hSets hfx hfy hsy e1
  go_enter Tryz.func63, Tryz.ntmps63
  go_wp2_with fail
  refine HSH.out.mono ?_
  rintro e w1 ⟨v1, rfl, hv1, hb1⟩
  have hs1 := hb1.size
  have HV1 := Lib.hid hv1
  obtain ⟨a6, c6, rfl, -⟩ := hv1
  have HB1 := Lib.hid hb1
  have hcell2 := HC2.out w1 HB1.out
  clear hb1 HSH hcell
  go_wp2_with fail
  refine (HHv.out w1 (HV.out.below HB1.out)).mono ?_
  rintro e w2 ⟨rfl, hb2⟩
  have HV2 := Lib.hid (HV1.out.below hb2)
  have HB2 := Lib.hid (HB1.out.trans (hb2.mono hs1))
  have hs2 := HB2.out.size
  clear hb2 HHv HV1 hcell2
  cases hh : Tr.hvL y.ks with
  | none =>
    have hbel : Hid (belS T y = 0) := Lib.hid (by unfold belS; rw [hh])
    simp only [hLab_none]
    clear hh
    go_wp2_with fail
    go_ret
    exact ⟨_, rfl, by rw [hbel.out, Nat.or_zero]; exact HV2.out, HB2.out⟩
  | some k =>
    have hbel : Hid (belS T y = adhS T k.lab) := Lib.hid (by unfold belS; rw [hh])
    have hkl := (HFY.out.labL.2 k (Tr.hvL_mem hh)).lab
    have HSH := Lib.hid (rshared_any T HP.out k.lab hkl _ w2 (HV.out.below HB2.out))
    simp only [hLab_some]
    have e0 : (0 : Int) ≤ (k.lab : Int) := by omega
    clear hh
    go_wp2_with fail
    refine HSH.out.mono ?_
    rintro e w3 ⟨v3, rfl, hv3, hb3⟩
    have hs3 := hb3.size
    have HOr := Lib.hid (ror_any (fun k => w.heap.size ≤ k) _ _ _ v3 w3 (fun k hk => by omega) (HV2.out.below hb3) (isSet_adhS HSets.out x.lab) ⟨hv3.rdl, isSet_adhS HSets.out k.lab⟩)
    obtain ⟨a5, c5, rfl, -⟩ := hv3
    have HB3 := Lib.hid (HB2.out.trans (hb3.mono hs2))
    clear hb3 HSH
    go_wp2_with fail
    refine HOr.out.mono ?_
    rintro e w4 ⟨v4, rfl, hv4, hb4⟩
    have HV4 := Lib.hid hv4
    have HB4 := Lib.hid (HB3.out.trans (hb4.mono (by omega)))
    clear hb4 hv4 HOr
    go_wp2_with fail
    go_ret
    exact ⟨_, rfl, by rw [hbel.out]; exact HV4.out, HB4.out⟩

theorem infoRN : (Tryz.prog.info? 41).map (fun i => (i.zero, i.size, i.bytes)) = some (some (.agg #[.int .i64 0, .int .i64 0, .slice none 0 0, .slice none 0 0]), 4, 64) := by kernel_rfl
@[go_sem ↓ high] theorem build_rN3 (k b : Int) (a : Option Addr) (n c : Nat) (w : World) : (Instr.build 41 #[(0, .int .i64 k), (1, .int .i64 b), (3, .slice a n c)]).run Tryz.prog w = .ok (.agg #[.int .i64 k, .int .i64 b, .slice none 0 0, .slice a n c]) w := by kernel_rfl
@[go_sem ↓ high] theorem build_rN4 (k b : Int) (a a' : Option Addr) (n c n' c' : Nat) (w : World) : (Instr.build 41 #[(0, .int .i64 k), (1, .int .i64 b), (2, .slice a' n' c'), (3, .slice a n c)]).run Tryz.prog w = .ok (.agg #[.int .i64 k, .int .i64 b, .slice a' n' c', .slice a n c]) w := by kernel_rfl
@[go_sem ↓ high] theorem buildSlice_rN (k b : Int) (a a' : Option Addr) (n c n' c' : Nat) (w : World) : (Instr.buildSlice 32 1 #[(0, .agg #[.int .i64 k, .int .i64 b, .slice a' n' c', .slice a n c])]).run Tryz.prog w = .ok (.slice (some ⟨w.heap.size, 0, none⟩) 1 1) (w.alloc (.cells #[.int .i64 k, .int .i64 b, .slice a' n' c', .slice a n c] 41)) := by kernel_rfl
/-- A row of clusters of the call's own, with their lists elsewhere. -/
def NSt (B : Nat) (w : World) (v : Value) (L : List RNd) : Prop := w.ownsRow B 41 4 v L.length (rnC L) ∧ ∀ x ∈ L, x.ok (fun k => some k ≠ v.ownBlock) w
theorem NSt.block {B : Nat} {w : World} {v : Value} {N : List RNd} (h : NSt B w v N) : ∀ k, v.ownBlock = some k → B ≤ k := fun k hk => (World.ownsRow.lt (base := B) h.1 k hk).1
theorem NSt.lt {B : Nat} {w : World} {v : Value} {N : List RNd} (h : NSt B w v N) : ∀ k, v.ownBlock = some k → k < w.heap.size := fun k hk => (World.ownsRow.lt (base := B) h.1 k hk).2
theorem NSt.sl {B : Nat} {w : World} {v : Value} {N : List RNd} (h : NSt B w v N) : ∃ a c, v = .slice a N.length c := by
  rcases h.1.2 with ⟨h1, h2⟩ | ⟨g, cap, cur, h1, _⟩
  · exact ⟨none, 0, by rw [h1, h2]⟩
  · exact ⟨_, _, h1⟩
theorem NSt.nil (B : Nat) (w : World) : NSt B w (.slice none 0 0) [] := ⟨World.ownsRow_nil _ _ _ _, fun x hx => by cases hx⟩
theorem NSt.below {B : Nat} {w w' : World} {v : Value} {N : List RNd} (h : NSt B w v N) (hb : Below w.heap.size w w') : NSt B w' v N := by
  refine ⟨?_, fun x hx => (h.2 x hx).keep hb.size fun k hk hA => ⟨hb.block k hk, hA⟩⟩
  rcases h.1.2 with ⟨h1, h2⟩ | ⟨g, cap, cur, h1, hB, hg, r⟩
  · exact ⟨h.1.1, .inl ⟨h1, h2⟩⟩
  · have hlt := (Array.getElem?_eq_some_iff.1 hg).1
    exact ⟨h.1.1, .inr ⟨g, cap, cur, h1, hB, (hb.block g hlt).trans hg, r⟩⟩
/-- What a step of the build leaves: all but the row's block stands, and the row lies where it lay or in new memory. -/
def NGo (w : World) (v : Value) (w' : World) (v' : Value) : Prop := Same (fun k => some k ≠ v.ownBlock) w w' ∧ (v'.ownBlock = v.ownBlock ∨ ∃ k, v'.ownBlock = some k ∧ w.heap.size ≤ k)
theorem NGo.of_below {w w' : World} {v : Value} (hb : Below w.heap.size w w') : NGo w v w' v := ⟨(Same.of_below hb).mono fun _ hk _ => hk, .inl rfl⟩
theorem NGo.trans {w1 w2 w3 : World} {v1 v2 v3 : Value} (h : NGo w1 v1 w2 v2) (k : NGo w2 v2 w3 v3) : NGo w1 v1 w3 v3 := by
  obtain ⟨h1, h2⟩ := h
  obtain ⟨k1, k2⟩ := k
  have hs := h1.size
  refine ⟨⟨k1.os.trans h1.os, k1.tape.trans h1.tape, k1.output.trans h1.output, Nat.le_trans h1.size k1.size, fun j hj hA => ?_⟩, ?_⟩
  · refine (k1.block j (by omega) ?_).trans (h1.block j hj hA)
    rcases h2 with e | ⟨i, e, hi⟩
    · rw [e]; exact hA
    · rw [e]; simp; omega
  · rcases k2 with e | ⟨i, e, hi⟩
    · rw [e]; exact h2
    · exact .inr ⟨i, e, by omega⟩
theorem NGo.keep {w w' : World} {v v' : Value} (h : NGo w v w' v') : ∀ k, k < w.heap.size → some k ≠ v.ownBlock → w'.heap[k]? = w.heap[k]? ∧ some k ≠ v'.ownBlock := fun k hk hA => by
  refine ⟨h.1.block k hk hA, ?_⟩
  rcases h.2 with e | ⟨i, e, hi⟩
  · rw [e]; exact hA
  · rw [e]; simp; omega
theorem NGo.below {B : Nat} {w0 w w' : World} {v v' : Value} (h : NGo w v w' v') (hb : Below B w0 w) (hB : ∀ k, v.ownBlock = some k → B ≤ k) (hBw : B ≤ w.heap.size) : Below B w0 w' :=
  hb.trans (h.1.below hBw fun k hk e => by have := hB k e.symm; omega)
theorem wp_appRN {o : Oper} {a : Act} {K : Act → World → Prop} {Q : Exit → Act → World → Prop} {w : World} (s x : Operand)
    (ho : o.op = .call { callee := .builtin .append, args := #[s, x], argTypes := #[32, 32] }) (B : Nat) (v : Value) (L : List RNd) (hs : a.eval s = v) (hown : NSt B w v L)
    (g : Nat) (y : TNd) (q q' : Option Addr) (n n' cap cap' c : Nat) (hx : a.eval x = .slice (some ⟨g, 0, none⟩) 1 c) (hg : row? w g = some #[.int .i64 (y.kind : Int), .int .i64 (y.bag : Int), .slice q' n' cap', .slice q n cap])
    (hp : RdA (fun k => some k ≠ v.ownBlock) w (.slice q' n' cap') (y.kids.map fun i : Nat => (i : Int))) (hh : RdA (fun k => some k ≠ v.ownBlock) w (.slice q n cap) (elemsI y.bnd)) (hS : IsSet y.bnd) (hlen : L.length < 1000000) (hB : B ≤ w.heap.size)
    (h : ∀ v' w', NSt B w' v' (L ++ [⟨y, .slice q' n' cap', .slice q n cap⟩]) → NGo w v w' v' → K (a.put o.dst v') w') : o.wp Tryz.prog a w K Q := by
  obtain ⟨i0, hi, hz0, hz1, hz2⟩ := info_parts infoRN
  obtain ⟨v', w', hr, h2, h3, h4⟩ := run_append_own2 (P := Tryz.prog) w B 32 o.type 41 i0 _ 4 64 Tryz.underlying32 hi hz0 hz1 hz2 rfl (by decide) v L.length (rnC L) hown.1 ⟨g, 0, none⟩ 1 c (by decide) [.int .i64 (y.kind : Int), .int .i64 (y.bag : Int), .slice q' n' cap', .slice q n cap] rfl
    (fun j u hj => by
      have : (⟨g, 0, none⟩ : Addr).add j = ⟨g, j, none⟩ := by unfold Addr.add; split <;> simp_all
      rw [this, cell?_row hg]
      simpa using hj) (fun u hu => by simp at hu; rcases hu with rfl | rfl | rfl | rfl <;> rfl) (by unfold maxLen; omega) (by omega) hB
  have hgo : NGo w v w' v' := ⟨Same.of_grown h3, h4.imp id fun e => ⟨_, e, Nat.le_refl _⟩⟩
  unfold Oper.wp execOp
  simp only [ho, resolve, invoke, builtin, Sem.run_bind, Sem.run_pure, Result.andThen_ok, List.map_toArray, List.map_cons, List.map_nil, hs, hx, hr]
  refine h v' w' ⟨?_, fun z hz => ?_⟩ hgo
  · rw [List.length_append, rnC_append]
    simpa [rnC, RNd.cells] using h2
  · rcases List.mem_append.1 hz with hz | hz
    · exact (hown.2 z hz).keep hgo.1.size hgo.keep
    · obtain rfl := List.mem_singleton.1 hz
      exact ⟨hp.keep hgo.1.size hgo.keep, hh.keep hgo.1.size hgo.keep, hS⟩
theorem wpList_appRN {ops : Array Oper} {rest : List Oper} {o : Oper} {a : Act} {Q : Exit → Act → World → Prop} {w : World} (hgd : o.guard = none) (s x : Operand)
    (ho : o.op = .call { callee := .builtin .append, args := #[s, x], argTypes := #[32, 32] }) (B : Nat) (v : Value) (L : List RNd) (hs : a.eval s = v) (hown : NSt B w v L)
    (g : Nat) (y : TNd) (q q' : Option Addr) (n n' cap cap' c : Nat) (hx : a.eval x = .slice (some ⟨g, 0, none⟩) 1 c) (hg : row? w g = some #[.int .i64 (y.kind : Int), .int .i64 (y.bag : Int), .slice q' n' cap', .slice q n cap])
    (hp : RdA (fun k => some k ≠ v.ownBlock) w (.slice q' n' cap') (y.kids.map fun i : Nat => (i : Int))) (hh : RdA (fun k => some k ≠ v.ownBlock) w (.slice q n cap) (elemsI y.bnd)) (hS : IsSet y.bnd) (hlen : L.length < 1000000) (hB : B ≤ w.heap.size)
    (h : ∀ v' w', NSt B w' v' (L ++ [⟨y, .slice q' n' cap', .slice q n cap⟩]) → NGo w v w' v' → wpList Tryz.prog ops Q rest (a.put o.dst v') w') : wpList Tryz.prog ops Q (o :: rest) a w :=
  wpList_plain hgd fun _ hK => wp_appRN s x ho B v L hs hown g y q q' n n' cap cap' c hx hg hp hh hS hlen hB fun v' w' h1 h2 => hK _ _ (h v' w' h1 h2)
end Go.Proofs.YtoiefehkfhkhbaaGreatDoor
