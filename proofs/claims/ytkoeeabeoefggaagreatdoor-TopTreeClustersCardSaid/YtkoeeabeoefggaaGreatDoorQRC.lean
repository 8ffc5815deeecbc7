/-
  Walks of the reference of clusters: rake.
-/
import Derived.Test.YtkoeeabeoefggaaGreatDoorQRB
namespace Go.Pal
open Go Go.RowKit
theorem RdA.take {A : Nat → Prop} {w : World} {a : Option Addr} {c : Nat} {ns : List Int} (h : RdA A w (.slice a ns.length c) ns) {k : Nat} (hk : k ≤ ns.length) : RdA A w (.slice a k c) (ns.take k) := by
  obtain ⟨a', c', hv, h⟩ := h
  simp only [Value.slice.injEq] at hv
  obtain ⟨rfl, -, rfl⟩ := hv
  refine ⟨a, c, by rw [List.length_take, Nat.min_eq_left hk], ?_⟩
  rcases h with h | ⟨b, off, ha, hb, hA, hc⟩
  · exact .inl (by rw [h]; simp)
  · exact .inr ⟨b, off, ha, hb, hA, fun i z hz => hc i z (by rw [List.getElem?_take] at hz; split at hz; exact hz; cases hz)⟩
theorem RdA.drop {A : Nat → Prop} {w : World} {b off c : Nat} {ns : List Int} (h : RdA A w (.slice (some ⟨b, off, none⟩) ns.length c) ns) {k c' : Nat} (hk : k < ns.length) : RdA A w (.slice (some ⟨b, off + k, none⟩) (ns.length - k) c') (ns.drop k) := by
  obtain ⟨a', c2, hv, h⟩ := h
  simp only [Value.slice.injEq] at hv
  obtain ⟨rfl, -, rfl⟩ := hv
  refine ⟨_, c', by rw [List.length_drop], ?_⟩
  rcases h with h | ⟨b', off', ha, hb, hA, hc⟩
  · rw [h] at hk; simp at hk
  · simp only [Option.some.injEq, Addr.mk.injEq] at ha
    obtain ⟨rfl, rfl, -⟩ := ha
    refine .inr ⟨b, off + k, rfl, hb, hA, fun i z hz => ?_⟩
    rw [List.getElem?_drop] at hz
    rw [Nat.add_assoc]
    exact hc (k + i) z hz
theorem labL_take (l : List Tr) (k : Nat) : labL (l.take k) = (labL l).take k := by unfold labL; rw [List.map_take]
theorem labL_drop (l : List Tr) (k : Nat) : labL (l.drop k) = (labL l).drop k := by unfold labL; rw [List.map_drop]
theorem sum_sz_le {l : List Tr} {n : Nat} (h : ∀ t ∈ l, t.sz ≤ n) : (l.map Tr.sz).sum ≤ l.length * n := by
  induction l with
  | nil => simp
  | cons x xs ih =>
    have h1 := h x (by simp)
    have h2 := ih fun t ht => h t (by simp [ht])
    simp only [List.map_cons, List.sum_cons, List.length_cons]
    rw [Nat.add_mul]
    omega
def natsL (l : List Nat) : List Int := l.map fun i : Nat => (i : Int)
end Go.Pal
namespace Go.Proofs.YtkoeeabeoefggaaGreatDoor
open Go Go.RowKit Go.Pal

theorem OwnI.two {B : Nat} {w : World} (x y : Int) (hB : B ≤ w.heap.size) : OwnI B (w.alloc (.cells #[.int .i64 x, .int .i64 y] 3)) (.slice (some ⟨w.heap.size, 0, none⟩) 2 2) [x, y] :=
  ⟨rfl, .inr ⟨w.heap.size, 2, #[.int .i64 x, .int .i64 y], rfl, hB, heap_alloc_new _ _, Nat.le_refl _, by decide, rfl, rfl⟩⟩
/-- What is known of the subtrees in a list. -/
def TrsOk (T : List Bg) (l : List Tr) : Prop := ∀ t ∈ l, Fits T.length (kidsTo T T.length) t ∧ t.sz ≤ 65536

set_option maxRecDepth 10000 in
set_option maxHeartbeats 1000000 in
theorem rrake_any (T : List Bg) (hP : ParIn T) (hSets : ∀ x ∈ T, IsSet x.2) (hlen : T.length ≤ 65536) (w0 : World) (tv : Value) (hv0 : RefT w0 tv T) (b : Nat) (l : List Tr) (hl2 : 2 ≤ l.length) (hll : l.length ≤ 65536) (hl : TrsOk T l) (c d : Ct) (K : Nat) (hK : splitAtW (l.map Tr.sz) = K) (hc : GrOk w0 tv b (l.take K) c) (hd : GrOk w0 tv b (l.drop K) d) :
    GrOk w0 tv b l (.node 1 b (hasS T l) [c, d]) := by
  intro w v lv L hb0 hN hlv hcap hLc
  have hspl := splitAtW_pos (ws := l.map Tr.sz) (by simpa using hl2)
  rw [hK, List.length_map] at hspl
  have hcsz : (Ct.node 1 b (hasS T l) [c, d]).sz = c.sz + d.sz + 1 := by simp [Ct.sz, Ct.szs]
  have hflat : (Ct.node 1 b (hasS T l) [c, d]).flat L.length = c.flat L.length ++ (d.flat (L.length + c.sz) ++ [⟨1, b, [L.length + c.sz - 1, L.length + c.sz + d.sz - 1], hasS T l⟩]) := by simp [Ct.flat, Ct.flats, Ct.tops]
  rw [hflat]
  rw [hcsz] at hLc
  have hcp := c.sz_pos
  have hdp := d.sz_pos
  have hsums : (l.map Tr.sz).sum ≤ 1000000000000 := by
    have h1 := sum_sz_le (n := 65536) fun t ht => (hl t ht).2
    have h2 : l.length * 65536 ≤ 65536 * 65536 := Nat.mul_le_mul hll (Nat.le_refl _)
    omega
  have hlv2 := hlv
  obtain ⟨b1, off, cl, rfl, hbb⟩ : ∃ b1 off cl, lv = .slice (some ⟨b1, off, none⟩) l.length cl ∧ l.length ≤ cl := by
    obtain ⟨a, cl, h1, h2⟩ := hlv2
    rw [labL_length] at h1
    subst h1
    rcases h2 with h2 | ⟨b1, off, rfl, _⟩
    · have := congrArg List.length h2
      rw [labL_length] at this
      simp at this
      subst this
      simp at hl2
    · exact ⟨b1, off, cl, rfl, hcap⟩
  have HV0 := Lib.hid hv0
  have HLV := Lib.hid hlv
  have HB0 := Lib.hid hb0
  have HLRD := Lib.hid hlv.rdl
  have HC := Lib.hid hc
  have HD := Lib.hid hd
  have HKK := Lib.hid hK
  obtain ⟨va, vc, rfl⟩ := hN.sl
  have HN := Lib.hid hN
  have hsz0 := hb0.size
  have HSize := Lib.hid fun (t : Tr) (ht : t ∈ l) w' (hw : RefT w' tv T) => rsize_any T hlen t (hl t ht).1 (hl t ht).2 tv w' hw
  have HShared := Lib.hid fun w' lv (hw : RefT w' tv T) (hlv : RdL w' lv (labL l)) => r46shared_any T hP hSets l (fun t ht => (hl t ht).1.lab) hll tv lv w' hw hlv
  have HSet := Lib.hid (isSet_hasS hSets l)
  have hszs : ∀ t ∈ l, t.sz ≤ 65536 := fun t ht => (hl t ht).2
  have HSZS := Lib.hid hszs
  obtain ⟨ta, tc, rfl⟩ : ∃ a c, tv = .slice a T.length c := by obtain ⟨a, c, h, -⟩ := hv0; exact ⟨a, c, h⟩
  have hne : ((l.length : Int) == 1) = false := by simp; omega
  clear hP hSets hv0 hl hK hc hd hb0 hN hlv hlv2 hcsz hflat hszs hcap
  go_enter Tryz.func94, Tryz.ntmps94
  go_wp2_with fail
  go_loopw [9, 10] (fun v i wr => ∃ k : Nat, k ≤ l.length ∧ i = .int .i64 (k : Int) ∧ OwnI w.heap.size wr v (natsL ((l.take k).map Tr.sz)) ∧ Below w.heap.size w wr) (fun _ i _ => l.length - (intOf i).toNat)
  case atStart => exact ⟨0, by omega, rfl, World.ownsRow_nil _ _ _ _, Below.refl _ _⟩
  case round =>
    obtain ⟨k, hk, rfl, hO, hb⟩ := hrel
    have hsz := hb.size
    have HO := Lib.hid hO
    have HB1 := Lib.hid hb
    clear hO hb
    by_cases hlt : k < l.length
    · obtain ⟨b2, off2, c2, z, hv2, hz, hcc⟩ := HLRD.out.at (k := k) (by rw [labL_length]; exact hlt)
      rw [labL_length] at hv2
      simp only [Value.slice.injEq, Option.some.injEq, Addr.mk.injEq] at hv2
      obtain ⟨⟨rfl, rfl, -⟩, -, rfl⟩ := hv2
      obtain ⟨t, ht, rfl⟩ := labL_get hz
      have hcell := hcc wr HB1.out
      have hst : natsL ((l.take (k + 1)).map Tr.sz) = natsL ((l.take k).map Tr.sz) ++ [(t.sz : Int)] := by rw [List.take_add_one, ht]; simp [natsL]
      have HST := Lib.hid hst
      have hfl : (natsL ((l.take k).map Tr.sz)).length ≤ k := by simp [natsL]; omega
      have HT := Lib.hid (HSize.out t (List.mem_of_getElem? ht) wr ((HV0.out.below (HB0.out)).below HB1.out |> fun h => by first | exact h))
      obtain ⟨acc, hacc⟩ : ∃ acc, acc = natsL ((l.take k).map Tr.sz) := ⟨_, rfl⟩
      rw [← hacc] at HST HO hfl
      obtain ⟨s, hs⟩ : ∃ s : Nat, s = t.sz := ⟨_, rfl⟩
      rw [← hs] at HST HT
      clear hcc hz ht hst hacc hs
      go_wp2_with fail
      refine HT.out.mono ?_
      rintro e w2 ⟨rfl, hb2⟩
      have HO2 := Lib.hid (HO.out.below hb2 (Nat.le_refl _))
      have HB2 := Lib.hid (HB1.out.trans (hb2.mono hsz))
      have hs2 := HB2.out.size
      clear hb2 HT HO hcell
      go_wp2_with (at_builtin; refine wpList_appT rfl 37 undI _ _ rfl (w.heap.size) _ (acc) rfl (HO2.out.alloc _) _ ((s : Int)) _ rfl (by simp [go_sem]) (by first | omega | (simp; omega)) (by simp; omega) ?_)
      intro v' w3 hO3 hb3
      obtain ⟨q3, cap3, rfl⟩ := hO3.sl
      have HO3 := Lib.hid hO3
      have HB3 := Lib.hid ((HB2.out.alloc hs2 _).trans hb3)
      clear hO3 hb3
      go_wp2_with fail
      go_roundw
      case rel => exact ⟨k + 1, by omega, by go_num, by rw [HST.out]; exact HO3.out, HB3.out⟩
      case measure => simp [intOf]; omega
    · have hkn : k = l.length := by omega
      subst hkn
      rw [List.take_length] at HO
      have hsp := r46split_any (l.map Tr.sz) _ wr HO.out.rdl (by simpa using hl2) (by simpa using hll) hsums
      rw [HKK.out] at hsp
      have HSP := Lib.hid hsp
      obtain ⟨q1, c1, rfl⟩ := HO.out.sl
      clear hsp hlt hk
      go_wp2_with fail
      refine HSP.out.mono ?_
      rintro e w1 ⟨rfl, rfl⟩
      clear HSP
      go_wp2_with fail
      have hB01 : Below w0.heap.size w0 w1 := HB0.out.trans (HB1.out.mono hsz0)
      have hlvw : RdA (fun k => some k ≠ (Value.slice va L.length vc).ownBlock) w1 (.slice (some ⟨b1, off, none⟩) (labL l).length cl) (labL l) := by rw [labL_length]; exact HLV.out.below HB1.out
      have hN1 := HN.out.below HB1.out
      refine (HC.out w1 (.slice va L.length vc) (.slice (some ⟨b1, off, none⟩) K cl) L hB01 hN1 (by rw [labL_take]; exact hlvw.take (k := K) (by rw [labL_length]; omega)) (show K ≤ cl by omega) (by omega)).mono ?_
      rintro e w2 ⟨v2, M, rfl, hN2, hM, hgo2⟩
      have hMl : M.length = c.sz := by
        have := congrArg List.length hM
        rwa [List.length_map, Ct.flat_length] at this
      obtain ⟨va2, vc2, rfl⟩ := hN2.sl
      have hlv2 := hlvw.keep hgo2.1.size hgo2.keep
      have hB02 : Below w0.heap.size w0 w2 := hgo2.below hB01 hN1.block (by omega)
      have hs02 := hB02.size
      rw [show (L ++ M).length = L.length + c.sz by simp [hMl]] at hN2 hgo2 hlv2 ⊢
      have HN2 := Lib.hid hN2
      have HGO2 := Lib.hid ((NGo.of_below HB1.out).trans hgo2)
      have HM := Lib.hid hM
      have HB02 := Lib.hid hB02
      have HLV2 := Lib.hid hlv2
      have hMle : M.length ≤ c.sz := by omega
      have HML := Lib.hid hMl
      clear hN2 hgo2 hM hB02 hlv2 hB01 hlvw hN1 hMl HC HO HLV HLRD
      go_wp2_with fail
      have hlN : (L ++ M).length = L.length + c.sz := by rw [List.length_append, HML.out]
      refine (HD.out w2 (.slice va2 (L.length + c.sz) vc2) (.slice (some ⟨b1, off + K, none⟩) (l.length - K) (cl - K)) (L ++ M) HB02.out HN2.out (by have := HLV2.out.drop (k := K) (c' := cl - K) (by rw [labL_length]; omega); rw [labL_length] at this; rw [labL_drop]; exact this) (show l.length - K ≤ cl - K by omega) (by rw [hlN]; omega)).mono ?_
      rintro e w3 ⟨v3, M2, rfl, hN3, hM2, hgo3⟩
      rw [hlN] at hM2
      have hMl : M2.length = d.sz := by
        have := congrArg List.length hM2
        rwa [List.length_map, Ct.flat_length] at this
      obtain ⟨va3, vc3, rfl⟩ := hN3.sl
      have hlv3 := HLV2.out.keep hgo3.1.size hgo3.keep
      have hB03 : Below w0.heap.size w0 w3 := hgo3.below HB02.out HN2.out.block (by omega)
      have hs03 := hB03.size
      rw [show (L ++ M ++ M2).length = L.length + c.sz + d.sz by simp [hMl, HML.out]; omega] at hN3 hgo3 hlv3 ⊢
      have HN3 := Lib.hid hN3
      have HGO3 := Lib.hid (HGO2.out.trans hgo3)
      have HM2 := Lib.hid hM2
      have HB03 := Lib.hid hB03
      have HLV3 := Lib.hid hlv3
      have hMle2 : M2.length ≤ d.sz := by omega
      clear hN3 hgo3 hM2 hB03 hlv3 hlN hMl HML HD HLV2 HN2 HGO2 HB02
      go_wp2_with fail
      have hpv := (OwnI.two (B := w3.heap.size) (w := w3) ((L.length : Int) + (c.sz : Int) - 1) ((L.length : Int) + (c.sz : Int) + (d.sz : Int) - 1) (Nat.le_refl _)).rda
      rw [show [(L.length : Int) + (c.sz : Int) - 1, (L.length : Int) + (c.sz : Int) + (d.sz : Int) - 1] = (([L.length + c.sz - 1, L.length + c.sz + d.sz - 1] : List Nat).map fun i : Nat => (i : Int)) by simp; omega] at hpv
      obtain ⟨W4, hW4⟩ : ∃ W4, w3.alloc (.cells #[.int .i64 ((L.length : Int) + (c.sz : Int) - 1), .int .i64 ((L.length : Int) + (c.sz : Int) + (d.sz : Int) - 1)] 3) = W4 := ⟨_, rfl⟩
      have hb4 : Below w3.heap.size w3 W4 := by rw [← hW4]; exact (Below.refl _ _).alloc (Nat.le_refl _) _
      have hs4 : W4.heap.size = w3.heap.size + 1 := by rw [← hW4]; simp
      rw [hW4] at hpv ⊢
      have HB34 := Lib.hid hb4
      have HPV4 := Lib.hid hpv
      have hlr : RdL W4 (.slice (some ⟨b1, off, none⟩) l.length cl) (labL l) := by have := HLV3.out.rdl.below hb4; rw [labL_length] at this; exact this
      clear hW4 hb4 hpv
      refine (HShared.out W4 _ (HV0.out.below (HB03.out.trans (HB34.out.mono hs03))) hlr).mono ?_
      clear hlr
      rintro e w5 ⟨v5, rfl, hv5, hb5⟩
      have HPV := Lib.hid (HPV4.out.below hb5)
      have HV5 := Lib.hid hv5
      have HB35 := Lib.hid (HB34.out.trans (hb5.mono (by omega)))
      have hs35 := HB35.out.size
      obtain ⟨a5, c5, rfl⟩ := hv5.sl
      clear hb5 hv5 HB34 HPV4 HShared HLV3
      go_wp2_with (at_builtin; refine wpList_appRN rfl _ _ rfl w0.heap.size _ (L ++ M ++ M2) rfl (HN3.out.below (HB35.out.alloc (by omega) _)) _ ⟨1, b, [L.length + c.sz - 1, L.length + c.sz + d.sz - 1], hasS T l⟩ _ _ _ _ _ _ _ rfl (row?_alloc_at _ _ _ _ rfl) ((HPV.out.below ((Below.refl _ _).alloc (Nat.le_refl _) _)).mono fun k hk => HN3.out.fresh k hk) ((HV5.out.below ((Below.refl _ _).alloc (Nat.le_refl _) _)).mono fun k hk => HN3.out.fresh k (by omega)) HSet.out (by simp; omega) (by first | omega | (simp; omega)) ?_)
      intro v6 w6 hN6 hg6
      obtain ⟨va6, vc6, rfl⟩ := hN6.sl
      have HGO6 := Lib.hid (HGO3.out.trans ((NGo.of_below (HB35.out.alloc (by omega) _)).trans hg6))
      have HN6 := Lib.hid hN6
      clear hN6 hg6
      go_wp2_with fail
      go_ret
      refine ⟨_, M ++ M2 ++ [⟨⟨1, b, [L.length + c.sz - 1, L.length + c.sz + d.sz - 1], hasS T l⟩, .slice (some ⟨w3.heap.size, 0, none⟩) 2 2, .slice a5 (elemsI (hasS T l)).length c5⟩], rfl, ?_, ?_, HGO6.out⟩
      · have := HN6.out
        simp only [List.append_assoc] at this ⊢
        exact this
      · rw [List.map_append, List.map_append, HM.out, HM2.out]
        simp only [List.append_assoc]
        rfl
end Go.Proofs.YtkoeeabeoefggaaGreatDoor
