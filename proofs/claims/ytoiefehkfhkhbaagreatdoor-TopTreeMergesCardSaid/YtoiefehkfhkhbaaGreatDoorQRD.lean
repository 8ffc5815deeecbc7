/-
  Walks of the reference of clusters: chain.
-/
import Derived.Test.YtoiefehkfhkhbaaGreatDoorQRefB
import Derived.Test.YtoiefehkfhkhbaaGreatDoorQRoR
namespace Go.Pal
open Go Go.RowKit
theorem hv_sz_le {t h : Tr} (hh : Tr.hvL t.ks = some h) : h.sz ≤ t.sz := by
  have h1 := Tr.szs_le (Tr.hvL_mem hh)
  cases t
  simp only [Tr.ks, Tr.sz] at *
  omega
theorem sum_wt_le {l : List Tr} {n : Nat} (h : ∀ t ∈ l, t.sz ≤ n) : (l.map Tr.wt).sum ≤ l.length * n := by
  induction l with
  | nil => simp
  | cons x xs ih =>
    have h1 := h x (by simp)
    have h2 := ih fun t ht => h t (by simp [ht])
    have h3 : x.wt ≤ x.sz := Nat.sub_le _ _
    simp only [List.map_cons, List.sum_cons, List.length_cons]
    rw [Nat.add_mul]
    omega
/-- What the operations of chain's last region yield. -/
def ChΦ (out lv tv : Value) (ad : Addr) (bt : Nat) (f n m : Int) (S B : Nat) (kids : List Int) (k : Nat) (v : Value) (W : World) : Prop :=
  match k with
  | 0 | 5 => v = out
  | 1 | 10 => v = lv
  | 2 => v = .pointer (some ad)
  | 3 => v = .int .i64 (bt : Int)
  | 4 => v = .int .i64 f
  | 6 => v = .int .i64 n
  | 7 => v = .int .i64 m
  | 8 => RdA (fun k => B ≤ k) W v kids
  | 9 => v = tv
  | 11 => RdA (fun k => B ≤ k) W v (elemsI S)
  | 12 => ∃ p h, v = .agg #[.int .i64 3, .int .i64 (bt : Int), p, h] ∧ RdA (fun k => B ≤ k) W p kids ∧ RdA (fun k => B ≤ k) W h (elemsI S)
  | 13 => ∃ g p h, v = .slice (some ⟨g, 0, none⟩) 1 1 ∧ row? W g = some #[.int .i64 3, .int .i64 (bt : Int), p, h] ∧ RdA (fun k => B ≤ k) W p kids ∧ RdA (fun k => B ≤ k) W h (elemsI S)
  | _ => True
theorem chΦ_on (out lv tv : Value) (ad : Addr) (bt : Nat) (f n m : Int) (S B : Nat) (kids : List Int) (k : Nat) (v : Value) (w w' : World) (h : ChΦ out lv tv ad bt f n m S B kids k v w) (hb : Below w.heap.size w w') : ChΦ out lv tv ad bt f n m S B kids k v w' := by
  unfold ChΦ at h ⊢
  split at h
  · exact h
  · exact h
  · exact h
  · exact h
  · exact h
  · exact h
  · exact h
  · exact h
  · exact h
  · exact h.below hb
  · exact h
  · exact h.below hb
  · obtain ⟨p, q, h1, h2, h3⟩ := h; exact ⟨p, q, h1, h2.below hb, h3.below hb⟩
  · obtain ⟨g, p, q, h1, h2, h3, h4⟩ := h; exact ⟨g, p, q, h1, (row?_below hb (row?_lt h2)).trans h2, h3.below hb, h4.below hb⟩
  · trivial
end Go.Pal
namespace Go.Proofs.YtoiefehkfhkhbaaGreatDoor
open Go Go.RowKit Go.Pal

set_option maxRecDepth 10000 in
set_option maxHeartbeats 1000000 in
theorem rchain2_any (T : List Bg) (hP : ParIn T) (hSets : ∀ x ∈ T, IsSet x.2) (hlen : T.length ≤ 65536) (w0 : World) (tv : Value) (hv0 : RefT w0 tv T) (b : Nat) (x y : Tr) (l : List Tr) (hx : l.head? = some x) (hy : l.getLast? = some y) (hbx : b = x.lab) (hl2 : 2 ≤ l.length) (hll : l.length ≤ 65536) (hl : TrsOk T l) (c d : Ct) (K : Nat) (hK : splitAtW (l.map Tr.wt) = K) (hc : ChOk w0 tv (l.take K) c) (hd : ChOk w0 tv (l.drop K) d) :
    ChOk w0 tv l (.node 3 b (adhS T b ||| belS T y) [c, d]) := by
  intro w v lv L hb0 hN hlv hcap hLc
  have hspl := splitAtW_pos (ws := l.map Tr.wt) (by simpa using hl2)
  rw [hK, List.length_map] at hspl
  have hcsz : (Ct.node 3 b (adhS T b ||| belS T y) [c, d]).sz = c.sz + d.sz + 1 := by simp [Ct.sz, Ct.szs]
  have hflat : (Ct.node 3 b (adhS T b ||| belS T y) [c, d]).flat L.length = c.flat L.length ++ (d.flat (L.length + c.sz) ++ [⟨3, b, [L.length + c.sz - 1, L.length + c.sz + d.sz - 1], adhS T b ||| belS T y⟩]) := by simp [Ct.flat, Ct.flats, Ct.tops]
  rw [hflat]
  rw [hcsz] at hLc
  have hcp := c.sz_pos
  have hdp := d.sz_pos
  have hsums : (l.map Tr.wt).sum ≤ 1000000000000 := by
    have h1 := sum_wt_le (n := 65536) fun t ht => (hl t ht).2
    have h2 : l.length * 65536 ≤ 65536 * 65536 := Nat.mul_le_mul hll (Nat.le_refl _)
    omega
  have hlv2 := hlv
  obtain ⟨b1, off, cl, rfl, hbb⟩ : ∃ b1 off cl, lv = .slice (some ⟨b1, off, none⟩) l.length cl ∧ l.length ≤ cl := by
    obtain ⟨a, cl, h1, h2⟩ := hlv2
    rw [labL_length] at h1
    subst h1
    rcases h2 with h2 | ⟨b1, off, rfl, _⟩
    · have := congrArg List.length h2
      rw [labL_length] at this
      simp at this
      subst this
      simp at hl2
    · exact ⟨b1, off, cl, rfl, hcap⟩
  have HV0 := Lib.hid hv0
  have HLV := Lib.hid hlv
  have HB0 := Lib.hid hb0
  have HLRD := Lib.hid hlv.rdl
  have HC := Lib.hid hc
  have HD := Lib.hid hd
  have HKK := Lib.hid hK
  obtain ⟨va, vc, rfl⟩ := hN.sl
  have HN := Lib.hid hN
  have hsz0 := hb0.size
  have HSize := Lib.hid fun (t : Tr) (ht : t ∈ l) w' (hw : RefT w' tv T) => rsize_any T hlen t (hl t ht).1 (hl t ht).2 tv w' hw
  have hmx : x ∈ l := List.mem_of_mem_head? hx
  have hmy : y ∈ l := List.mem_of_getLast? hy
  have HShared := Lib.hid fun w' lv (hw : RefT w' tv T) (hlv : RdL w' lv (labL l)) => r46ends_any T hP hSets hlen l x y hx hy (hl x hmx).1 (hl y hmy).1 (hl y hmy).2 hll tv lv w' hw hlv
  have HSet := Lib.hid (isSet_or (isSet_adhS hSets b) (isSet_belS hSets y))
  rw [← hbx] at HShared
  have HHeavy := Lib.hid fun (t : Tr) (ht : t ∈ l) w' (hw : RefT w' tv T) => rheavy_any T hlen t (hl t ht).1 (hl t ht).2 tv w' hw
  have HSizeH := Lib.hid fun (t : Tr) (ht : t ∈ l) (h : Tr) (hh : Tr.hvL t.ks = some h) w' (hw : RefT w' tv T) => rsize_any T hlen h ((hl t ht).1.labL.2 h (Tr.hvL_mem hh)) (Nat.le_trans (hv_sz_le hh) (hl t ht).2) tv w' hw
  have hbx0 : (labL l)[0]? = some (b : Int) := by
    rw [hbx]
    unfold labL
    rw [List.getElem?_map, ← List.head?_eq_getElem?, hx]
    rfl
  have HBX0 := Lib.hid hbx0
  have hszs : ∀ t ∈ l, t.sz ≤ 65536 := fun t ht => (hl t ht).2
  have HSZS := Lib.hid hszs
  obtain ⟨ta, tc, rfl⟩ : ∃ a c, tv = .slice a T.length c := by obtain ⟨a, c, h, -⟩ := hv0; exact ⟨a, c, h⟩
  have hne : ((l.length : Int) == 1) = false := by simp; omega
  clear hbx0 hx hy hbx hmx hmy hP hSets hv0 hl hK hc hd hb0 hN hlv hlv2 hcsz hflat hszs hcap
  go_enter Tryz.func22, Tryz.ntmps22
  go_wp2_with fail
  go_loopw [7, 8, 9, 10] (fun v i _ _ wr => ∃ k : Nat, k ≤ l.length ∧ i = .int .i64 (k : Int) ∧ OwnI w.heap.size wr v (natsL ((l.take k).map Tr.wt)) ∧ Below w.heap.size w wr) (fun _ i _ _ _ => l.length - (intOf i).toNat)
  case atStart => exact ⟨0, by omega, rfl, World.ownsRow_nil _ _ _ _, Below.refl _ _⟩
  case round =>
    obtain ⟨k, hk, rfl, hO, hb⟩ := hrel
    have hsz := hb.size
    have HO := Lib.hid hO
    have HB1 := Lib.hid hb
    clear hO hb
    by_cases hlt : k < l.length
    · obtain ⟨b2, off2, c2, z, hv2, hz, hcc⟩ := HLRD.out.at (k := k) (by rw [labL_length]; exact hlt)
      rw [labL_length] at hv2
      simp only [Value.slice.injEq, Option.some.injEq, Addr.mk.injEq] at hv2
      obtain ⟨⟨rfl, rfl, -⟩, -, rfl⟩ := hv2
      obtain ⟨t, ht, rfl⟩ := labL_get hz
      have HCC := Lib.hid hcc
      have hcell := hcc wr HB1.out
      have htm := List.mem_of_getElem? ht
      have hst : natsL ((l.take (k + 1)).map Tr.wt) = natsL ((l.take k).map Tr.wt) ++ [(t.wt : Int)] := by rw [List.take_add_one, ht]; simp [natsL]
      have HST := Lib.hid hst
      have hfl : (natsL ((l.take k).map Tr.wt)).length ≤ k := by simp [natsL]; omega
      have hts := HSZS.out t htm
      have HT := Lib.hid (HSize.out t htm wr ((HV0.out.below HB0.out).below HB1.out))
      obtain ⟨acc, hacc⟩ : ∃ acc, acc = natsL ((l.take k).map Tr.wt) := ⟨_, rfl⟩
      rw [← hacc] at HST HO hfl
      clear hcc hz ht hst hacc
      go_wp2_with fail
      refine HT.out.mono ?_
      rintro e w2 ⟨rfl, hb2⟩
      have HO2 := Lib.hid (HO.out.below hb2 (Nat.le_refl _))
      have HB2 := Lib.hid (HB1.out.trans (hb2.mono hsz))
      have hs2 := HB2.out.size
      have hcell2 := HCC.out w2 HB2.out
      have HT2 := Lib.hid (HHeavy.out t htm w2 ((HV0.out.below HB0.out).below HB2.out))
      clear hb2 HT HO hcell
      go_wp2_with fail
      refine HT2.out.mono ?_
      rintro e w3 ⟨rfl, hb3⟩
      have HO3 := Lib.hid (HO2.out.below hb3 (Nat.le_refl _))
      have HB3 := Lib.hid (HB2.out.trans (hb3.mono hs2))
      have hs3 := HB3.out.size
      clear hb3 HT2 HO2 hcell2
      cases hh : Tr.hvL t.ks with
      | none =>
        have hw : t.wt = t.sz := by unfold Tr.wt; rw [hh]; rfl
        rw [hw] at HST
        simp only [hLab_none]
        obtain ⟨s, hs⟩ : ∃ s : Nat, s = t.sz := ⟨_, rfl⟩
        rw [← hs] at HST hts ⊢
        clear hh hw hs
        go_wp2_with (at_builtin; refine wpList_appT rfl 34 undI _ _ rfl (w.heap.size) _ (acc) rfl (HO3.out.alloc _) _ ((s : Int)) _ rfl (by simp [go_sem]) (by first | omega | (simp; omega)) (by simp; omega) ?_)
        intro v' w4 hO4 hb4
        obtain ⟨q4, cap4, rfl⟩ := hO4.sl
        have HO4 := Lib.hid hO4
        have HB4 := Lib.hid ((HB3.out.alloc hs3 _).trans hb4)
        clear hO4 hb4
        go_wp2_with fail
        go_roundw
        case rel => exact ⟨k + 1, by omega, by go_num, by rw [HST.out]; exact HO4.out, HB4.out⟩
        case measure => simp [intOf]; omega
      | some h =>
        have hw : t.wt = t.sz - h.sz := by unfold Tr.wt; rw [hh]
        have hle := hv_sz_le hh
        rw [hw] at HST
        have HT3 := Lib.hid (HSizeH.out t htm h hh w3 ((HV0.out.below HB0.out).below HB3.out))
        simp only [hLab_some]
        have hh0 : (0 : Int) ≤ (h.lab : Int) := by omega
        clear hh hw
        go_wp2_with fail
        refine HT3.out.mono ?_
        rintro e w4 ⟨rfl, hb4⟩
        have HO4 := Lib.hid (HO3.out.below hb4 (Nat.le_refl _))
        have HB4 := Lib.hid (HB3.out.trans (hb4.mono hs3))
        have hs4 := HB4.out.size
        clear hb4 HT3 HO3
        obtain ⟨s, hs⟩ : ∃ s : Nat, s = t.sz := ⟨_, rfl⟩
        obtain ⟨r, hr⟩ : ∃ r : Nat, r = h.sz := ⟨_, rfl⟩
        rw [← hs, ← hr] at HST hle ⊢
        rw [← hs] at hts
        have hsr : ((s - r : Nat) : Int) = (s : Int) - (r : Int) := by omega
        rw [hsr] at HST
        clear hs hr hsr
        go_wp2_with (at_builtin; refine wpList_appT rfl 34 undI _ _ rfl (w.heap.size) _ (acc) rfl (HO4.out.alloc _) _ (((s : Int) - (r : Int))) _ rfl (by simp [go_sem]) (by first | omega | (simp; omega)) (by simp; omega) ?_)
        intro v' w5 hO5 hb5
        obtain ⟨q5, cap5, rfl⟩ := hO5.sl
        have HO5 := Lib.hid hO5
        have HB5 := Lib.hid ((HB4.out.alloc hs4 _).trans hb5)
        clear hO5 hb5
        go_wp2_with fail
        go_roundw
        case rel => exact ⟨k + 1, by omega, by go_num, by rw [HST.out]; exact HO5.out, HB5.out⟩
        case measure => simp [intOf]; omega
    · have hkn : k = l.length := by omega
      subst hkn
      rw [List.take_length] at HO
      have hsp := r46split_any (l.map Tr.wt) _ wr HO.out.rdl (by simpa using hl2) (by simpa using hll) hsums
      rw [HKK.out] at hsp
      have HSP := Lib.hid hsp
      obtain ⟨q1, c1, rfl⟩ := HO.out.sl
      clear hsp hlt hk
      go_wp2_with fail
      refine HSP.out.mono ?_
      rintro e w1 ⟨rfl, rfl⟩
      clear HSP
      go_wp2_with fail
      have hB01 : Below w0.heap.size w0 w1 := HB0.out.trans (HB1.out.mono hsz0)
      have hlvw : RdA (fun k => some k ≠ (Value.slice va L.length vc).ownBlock) w1 (.slice (some ⟨b1, off, none⟩) (labL l).length cl) (labL l) := by rw [labL_length]; exact HLV.out.below HB1.out
      have hN1 := HN.out.below HB1.out
      refine (HC.out w1 (.slice va L.length vc) (.slice (some ⟨b1, off, none⟩) K cl) L hB01 hN1 (by rw [labL_take]; exact hlvw.take (k := K) (by rw [labL_length]; omega)) (show K ≤ cl by omega) (by omega)).mono ?_
      rintro e w2 ⟨v2, M, rfl, hN2, hM, hgo2⟩
      have hMl : M.length = c.sz := by
        have := congrArg List.length hM
        rwa [List.length_map, Ct.flat_length] at this
      obtain ⟨va2, vc2, rfl⟩ := hN2.sl
      have hlv2 := hlvw.keep hgo2.1.size hgo2.keep
      have hB02 : Below w0.heap.size w0 w2 := hgo2.below hB01 hN1.block (by omega)
      have hs02 := hB02.size
      rw [show (L ++ M).length = L.length + c.sz by simp [hMl]] at hN2 hgo2 hlv2 ⊢
      have HN2 := Lib.hid hN2
      have HGO2 := Lib.hid ((NGo.of_below HB1.out).trans hgo2)
      have HM := Lib.hid hM
      have HB02 := Lib.hid hB02
      have HLV2 := Lib.hid hlv2
      have hMle : M.length ≤ c.sz := by omega
      have HML := Lib.hid hMl
      clear hN2 hgo2 hM hB02 hlv2 hB01 hlvw hN1 hMl HC HO HLV HLRD
      go_wp2_with fail
      have hlN : (L ++ M).length = L.length + c.sz := by rw [List.length_append, HML.out]
      refine (HD.out w2 (.slice va2 (L.length + c.sz) vc2) (.slice (some ⟨b1, off + K, none⟩) (l.length - K) (cl - K)) (L ++ M) HB02.out HN2.out (by have := HLV2.out.drop (k := K) (c' := cl - K) (by rw [labL_length]; omega); rw [labL_length] at this; rw [labL_drop]; exact this) (show l.length - K ≤ cl - K by omega) (by rw [hlN]; omega)).mono ?_
      rintro e w3 ⟨v3, M2, rfl, hN3, hM2, hgo3⟩
      rw [hlN] at hM2
      have hMl : M2.length = d.sz := by
        have := congrArg List.length hM2
        rwa [List.length_map, Ct.flat_length] at this
      obtain ⟨va3, vc3, rfl⟩ := hN3.sl
      have hlv3 := HLV2.out.keep hgo3.1.size hgo3.keep
      have hB03 : Below w0.heap.size w0 w3 := hgo3.below HB02.out HN2.out.block (by omega)
      have hs03 := hB03.size
      rw [show (L ++ M ++ M2).length = L.length + c.sz + d.sz by simp [hMl, HML.out]; omega] at hN3 hgo3 hlv3 ⊢
      have HN3 := Lib.hid hN3
      have HGO3 := Lib.hid (HGO2.out.trans hgo3)
      have HM2 := Lib.hid hM2
      have HB03 := Lib.hid hB03
      have HLV3 := Lib.hid hlv3
      have hMle2 : M2.length ≤ d.sz := by omega
      clear hN3 hgo3 hM2 hB03 hlv3 hlN hMl HML HD HLV2 HN2 HGO2 HB02
      go_wp2_with fail
      have hc0 : ∀ W, Below w3.heap.size w3 W → W.cell? ⟨b1, off, none⟩ = some (.int .i64 (b : Int)) := fun W hW => by
        obtain ⟨b2, off2, c2, z, hv2, hz, hcc⟩ := HLV3.out.rdl.at (k := 0) (by rw [labL_length]; omega)
        simp only [Value.slice.injEq, Option.some.injEq, Addr.mk.injEq] at hv2
        obtain ⟨⟨rfl, rfl, -⟩, -, rfl⟩ := hv2
        rw [HBX0.out] at hz
        cases hz
        have := hcc W hW
        rwa [Nat.add_zero] at this
      have HC0 := Lib.hid hc0
      clear hc0
      have HS0 := HShared
      refine wp_region_res 14 (fun W => Below w3.heap.size w3 W) (ChΦ (.slice va3 (L.length + c.sz + d.sz) vc3) (.slice (some ⟨b1, off, none⟩) l.length cl) (.slice ta T.length tc) ⟨b1, off, none⟩ b ((L.length : Int) + (c.sz : Int) - 1) ((L.length : Int) + (c.sz : Int) + (d.sz : Int)) ((L.length : Int) + (c.sz : Int) + (d.sz : Int) - 1) (adhS T b ||| belS T y) w3.heap.size (([L.length + c.sz - 1, L.length + c.sz + d.sz - 1] : List Nat).map fun i : Nat => (i : Int))) (by kernel_rfl) (by kernel_rfl) (by kernel_rfl) (by kernel_rfl) (by kernel_rfl) (by kernel_rfl) (chΦ_on _ _ _ _ _ _ _ _ _ _ _) (Below.refl _ _).drew ?_ ?_
      · intro k hk
        rcases k with _ | _ | _ | _ | _ | _ | _ | _ | _ | _ | _ | _ | _ | _ | k
        · refine resStep_of rfl fun a' W hS hold hdep K hK => ?_
          have h1 := hold 2 _ (by kernel_rfl) rfl
          unfold Oper.wp
          go_simp
          exact hK _ W rfl hS (Below.refl _ _)
        · refine resStep_of rfl fun a' W hS hold hdep K hK => ?_
          have h1 := hold 1 _ (by kernel_rfl) rfl
          unfold Oper.wp
          go_simp
          exact hK _ W rfl hS (Below.refl _ _)
        · refine resStep_of rfl fun a' W hS hold hdep K hK => ?_
          obtain ⟨v, h1, rfl⟩ := hdep 1 69 (by kernel_rfl) (by rfl)
          have e2 : (0 : Int) < (l.length : Int) := by omega
          have e3 : 0 < l.length := by omega
          unfold Oper.wp
          go_simp
          exact hK _ W rfl hS (Below.refl _ _)
        · refine resStep_of rfl fun a' W hS hold hdep K hK => ?_
          obtain ⟨v, h1, rfl⟩ := hdep 2 70 (by kernel_rfl) (by rfl)
          have k1 := HC0.out W hS
          unfold Oper.wp
          go_simp
          exact hK _ W rfl hS (Below.refl _ _)
        · refine resStep_of rfl fun a' W hS hold hdep K hK => ?_
          have h1 := hold 12 _ (by kernel_rfl) rfl
          unfold Oper.wp
          go_simp
          exact hK _ W rfl hS (Below.refl _ _)
        · refine resStep_of rfl fun a' W hS hold hdep K hK => ?_
          have h1 := hold 2 _ (by kernel_rfl) rfl
          unfold Oper.wp
          go_simp
          exact hK _ W rfl hS (Below.refl _ _)
        · refine resStep_of rfl fun a' W hS hold hdep K hK => ?_
          obtain ⟨v, h1, rfl⟩ := hdep 5 73 (by kernel_rfl) (by rfl)
          unfold Oper.wp
          go_simp
          exact hK _ W (by simp [ChΦ]) hS (Below.refl _ _)
        · refine resStep_of rfl fun a' W hS hold hdep K hK => ?_
          obtain ⟨v, h1, rfl⟩ := hdep 6 74 (by kernel_rfl) (by rfl)
          unfold Oper.wp
          go_simp
          (try go_ints)
          exact hK _ W rfl hS (Below.refl _ _)
        · refine resStep_of rfl fun a' W hS hold hdep K hK => ?_
          obtain ⟨v, h1, rfl⟩ := hdep 4 72 (by kernel_rfl) (by rfl)
          obtain ⟨v2, h2, rfl⟩ := hdep 7 75 (by kernel_rfl) (by rfl)
          have hsW := hS.size
          have hb := (Below.refl W.heap.size W).alloc (Nat.le_refl _) (.cells #[.int .i64 ((L.length : Int) + (c.sz : Int) - 1), .int .i64 ((L.length : Int) + (c.sz : Int) + (d.sz : Int) - 1)] 3)
          have hpv := (OwnI.two (B := w3.heap.size) (w := W) ((L.length : Int) + (c.sz : Int) - 1) ((L.length : Int) + (c.sz : Int) + (d.sz : Int) - 1) hsW).rda
          rw [show [(L.length : Int) + (c.sz : Int) - 1, (L.length : Int) + (c.sz : Int) + (d.sz : Int) - 1] = (([L.length + c.sz - 1, L.length + c.sz + d.sz - 1] : List Nat).map fun i : Nat => (i : Int)) by simp; omega] at hpv
          have HPV := Lib.hid hpv
          clear hpv
          unfold Oper.wp
          go_simp
          exact hK _ _ HPV.out (hS.trans (hb.mono hsW)) hb
        · refine resStep_of rfl fun a' W hS hold hdep K hK => ?_
          have h1 := hold 0 _ (by kernel_rfl) rfl
          unfold Oper.wp
          go_simp
          exact hK _ W rfl hS (Below.refl _ _)
        · refine resStep_of rfl fun a' W hS hold hdep K hK => ?_
          have h1 := hold 1 _ (by kernel_rfl) rfl
          unfold Oper.wp
          go_simp
          exact hK _ W rfl hS (Below.refl _ _)
        · refine resStep_of rfl fun a' W hS hold hdep K hK => ?_
          obtain ⟨v, h1, rfl⟩ := hdep 9 77 (by kernel_rfl) (by rfl)
          obtain ⟨v2, h2, rfl⟩ := hdep 10 78 (by kernel_rfl) (by rfl)
          have hsW := hS.size
          have hlr : RdL W (.slice (some ⟨b1, off, none⟩) l.length cl) (labL l) := by have := HLV3.out.rdl.below hS; rw [labL_length] at this; exact this
          have hrt := HV0.out.below (HB03.out.trans (hS.mono hs03))
          unfold Oper.wp
          go_simp
          refine (HShared.out W _ hrt hlr).mono ?_
          rintro e w5 ⟨v5, rfl, hv5, hb5⟩
          exact hK _ w5 (hv5.mono fun k hk => Nat.le_trans hsW hk) (hS.trans (hb5.mono hsW)) hb5
        · refine resStep_of rfl fun a' W hS hold hdep K hK => ?_
          obtain ⟨v, h1, rfl⟩ := hdep 3 71 (by kernel_rfl) (by rfl)
          obtain ⟨v2, h2, p2⟩ := hdep 8 76 (by kernel_rfl) (by rfl)
          obtain ⟨v3, h3, p3⟩ := hdep 11 79 (by kernel_rfl) (by rfl)
          simp only [ChΦ] at p2 p3
          have P2 := Lib.hid p2
          have P3 := Lib.hid p3
          obtain ⟨a2, c2, rfl⟩ := p2.sl
          obtain ⟨a3, c3, rfl⟩ := p3.sl
          clear p2 p3
          unfold Oper.wp
          go_simp
          exact hK _ W ⟨_, _, rfl, P2.out, P3.out⟩ hS (Below.refl _ _)
        · refine resStep_of rfl fun a' W hS hold hdep K hK => ?_
          obtain ⟨v, h1, p, q, rfl, p2, p3⟩ := hdep 12 80 (by kernel_rfl) (by rfl)
          have hsW := hS.size
          have P2 := Lib.hid p2
          have P3 := Lib.hid p3
          obtain ⟨a2, c2, rfl⟩ := p2.sl
          obtain ⟨a3, c3, rfl⟩ := p3.sl
          have hb := (Below.refl W.heap.size W).alloc (Nat.le_refl _) (.cells #[.int .i64 3, .int .i64 (b : Int), .slice a2 (([L.length + c.sz - 1, L.length + c.sz + d.sz - 1] : List Nat).map fun i : Nat => (i : Int)).length c2, .slice a3 (elemsI (adhS T b ||| belS T y)).length c3] 41)
          clear p2 p3
          unfold Oper.wp
          go_simp
          exact hK _ _ ⟨W.heap.size, _, _, rfl, row?_alloc_at _ _ _ _ rfl, P2.out.below hb, P3.out.below hb⟩ (hS.trans (hb.mono hsW)) hb
        · omega
      · intro vals W hS hP
        have e0 := hP 0 (by omega)
        have e1 := hP 1 (by omega)
        have e2 := hP 2 (by omega)
        have e3 := hP 3 (by omega)
        have e4 := hP 4 (by omega)
        have e5 := hP 5 (by omega)
        have e6 := hP 6 (by omega)
        have e7 := hP 7 (by omega)
        have e9 := hP 9 (by omega)
        have e10 := hP 10 (by omega)
        obtain ⟨g, p, h, e13, hrow, p2, p3⟩ := hP 13 (by omega)
        simp only [ChΦ] at e0 e1 e2 e3 e4 e5 e6 e7 e9 e10
        obtain ⟨x8, hx8⟩ : ∃ x, x = vals 8 := ⟨_, rfl⟩
        obtain ⟨x11, hx11⟩ : ∃ x, x = vals 11 := ⟨_, rfl⟩
        obtain ⟨x12, hx12⟩ : ∃ x, x = vals 12 := ⟨_, rfl⟩
        simp only [putAll, e0, e1, e2, e3, e4, e5, e6, e7, e9, e10, e13, ← hx8, ← hx11, ← hx12]
        clear e0 e1 e2 e3 e4 e5 e6 e7 e9 e10 e13 hP hx8 hx11 hx12
        have HROW := Lib.hid hrow
        have HPV := Lib.hid p2
        have HV5 := Lib.hid p3
        have HB35 := Lib.hid hS
        have hs35 := hS.size
        obtain ⟨a4, c4, rfl⟩ := p2.sl
        obtain ⟨a5, c5, rfl⟩ := p3.sl
        clear hrow p2 p3 hS
        simp only [List.drop_succ_cons, List.drop_zero]
        go_simp
        go_wp2_with (at_builtin; refine wpList_appRN rfl _ _ rfl w0.heap.size _ (L ++ M ++ M2) rfl (HN3.out.below (HB35.out)) _ ⟨3, b, [L.length + c.sz - 1, L.length + c.sz + d.sz - 1], adhS T b ||| belS T y⟩ _ _ _ _ _ _ _ rfl (HROW.out) ((HPV.out.below (Below.refl _ _)).mono fun k hk => HN3.out.fresh k hk) ((HV5.out.below (Below.refl _ _)).mono fun k hk => HN3.out.fresh k (by omega)) HSet.out (by simp; omega) (by first | omega | (simp; omega)) ?_)
        intro v6 w6 hN6 hg6
        obtain ⟨va6, vc6, rfl⟩ := hN6.sl
        have HGO6 := Lib.hid (HGO3.out.trans ((NGo.of_below (HB35.out)).trans hg6))
        have HN6 := Lib.hid hN6
        clear hN6 hg6
        go_wp2_with fail
        go_ret
        refine ⟨_, M ++ M2 ++ [⟨⟨3, b, [L.length + c.sz - 1, L.length + c.sz + d.sz - 1], adhS T b ||| belS T y⟩, .slice a4 2 c4, .slice a5 (elemsI (adhS T b ||| belS T y)).length c5⟩], rfl, ?_, ?_, HGO6.out⟩
        · have := HN6.out
          simp only [List.append_assoc] at this ⊢
          exact this
        · rw [List.map_append, List.map_append, HM.out, HM2.out]
          simp only [List.append_assoc]
          rfl
end Go.Proofs.YtoiefehkfhkhbaaGreatDoor
