/-
  The walk of the statement TreeDecompFromOrder.
-/
import Derived.Test.YtpflnkedolmamaaGreatDoorQJG
import Derived.Test.YtpflnkedolmamaaGreatDoorQJH
import Derived.Test.YtpflnkedolmamaaGreatDoorQGU
import Derived.Test.YtpflnkedolmamaaGreatDoorQRef3
namespace Go.Pal
open Go
/-- What FromOrder answers: the tree of an order of all vertices, else none. -/
def foT (G : Gr) (ns : List Int) : List Bg := if G.ordE ns = 0 then foTree (fun x => G.near (x : Int)) (ns.map Int.toNat) else []
theorem toNat_cast (o : List Nat) : (o.map fun i : Nat => (i : Int)).map Int.toNat = o := by
  rw [List.map_map]
  conv => rhs; rw [← List.map_id o]
  apply List.map_congr_left
  intro x _
  simp
theorem foTree_len (f : Nat → Nat) (o : List Nat) : (foTree f o).length ≤ o.length + 1 := by
  unfold foTree
  split
  · simp
  · rw [foTo_length]; omega
theorem foTree_set {f : Nat → Nat} (hf : ∀ u, IsSet (f u)) {o : List Nat} (hlt : ∀ x ∈ o, x < 1024) : ∀ x ∈ foTree f o, IsSet x.2 := by
  unfold foTree
  split
  · intro x hx
    simp at hx
    subst hx
    exact isSet_zero
  · intro x hx
    unfold foTo at hx
    obtain ⟨i, hi, rfl⟩ := List.mem_map.1 hx
    rw [List.mem_range] at hi
    exact isSet_ins (isSet_gameAt hf o i _) (hlt _ (List.mem_of_getElem? (getD_of hi)))
theorem foT_len {G : Gr} {ns : List Int} : (foT G ns).length ≤ ns.length + 1 := by
  unfold foT
  split
  · have := foTree_len (fun x => G.near (x : Int)) (ns.map Int.toNat)
    simpa using this
  · simp
theorem foT_set {G : Gr} (hG : G.Ok) (ns : List Int) : ∀ x ∈ foT G ns, IsSet x.2 := by
  unfold foT
  split
  · rename_i h0
    obtain ⟨o, rfl, hlt, -⟩ := hG.order ((hG.ordE_iff ns).1 h0)
    rw [toNat_cast]
    exact foTree_set (fun u => hG.isSet_near _) hlt
  · intro x hx; simp at hx
end Go.Pal
namespace Go.Proofs.YtpflnkedolmamaaGreatDoor
open Go Go.RowKit Go.Pal
attribute [local go_sem] Oper.semAt_some

theorem fo_any (G : Gr) (hG : G.Ok) (ns : List Int) (hn : ns.length ≤ 64) (g bV bE : Nat) (w : World) (v : Value) (hv : RdL w v ns) (h : GOk w g bV bE G) (hT : Tab2 w) :
    Calls Tryz.prog 18 #[.pointer (some ⟨g, 0, none⟩), v] w fun e w' => ∃ vs, e = .returned (.tuple #[vs, .int .i64 (G.ordE ns : Int)]) ∧ Rd bagA 17 w'.heap.size w' vs (foT G ns) ∧ Below w.heap.size w w' := by
  by_cases h0 : G.ordE ns = 0
  · obtain ⟨o, ho, hlt, hnd, hcl, hl, -⟩ := hG.order ((hG.ordE_iff ns).1 h0)
    have hT' : foT G ns = foTree (fun x => G.near (x : Int)) o := by rw [foT, if_pos h0, ho, toNat_cast]
    rw [hT', h0]
    rw [ho] at hv h0
    refine (fromOrder_any o g bV bE G hG w v hv h h0 hlt hnd hcl hl hT.1 hT.2).mono ?_
    rintro e w' ⟨vs, rfl, hO, hb⟩
    exact ⟨vs, rfl, hO.rd elB, hb⟩
  · have h3 := ordE_three h0
    have hT' : foT G ns = [] := by rw [foT, if_neg h0]
    rw [hT', h3]
    obtain ⟨a, c, hvv, -⟩ := id hv
    refine (fromOrder_bad 3 (by decide) (.pointer (some ⟨g, 0, none⟩)) v ⟨⟨_, rfl⟩, _, _, _, hvv⟩ w fun W hb => ?_).mono ?_
    · have := echeck_any ns v g bV bE G hG W (hv.below hb) (h.below hb) (by omega)
      rw [h3] at this
      exact this
    · rintro e w' ⟨rfl, hb⟩
      exact ⟨_, rfl, ⟨none, 0, rfl, .inl rfl⟩, hb⟩
theorem of_both (G : Gr) (hG : G.Ok) (ns : List Int) (hn : ns.length ≤ 64) (vV vE : Value) (w : World) (v : Value) (hv : RdL w v ns) (h : RefG w vV vE G) :
    Calls Tryz.prog 19 #[.agg #[vV, vE], v] w fun e w' => ∃ vs, e = .returned (.tuple #[vs, .int .i64 (G.ordE ns : Int)]) ∧ RefT w' vs (foT G ns) ∧ Below w.heap.size w w' := by
  by_cases h0 : G.ordE ns = 0
  · obtain ⟨o, ho, hlt, hnd, hcl, hl, -⟩ := hG.order ((hG.ordE_iff ns).1 h0)
    have hT' : foT G ns = rOf G o := by rw [foT, if_pos h0, ho, toNat_cast, rOf_eq hG hnd hcl]
    rw [hT', h0]
    rw [ho] at hv h0 hn
    rw [List.length_map] at hn
    exact rof_any G hG o h0 hlt hnd hcl hn vV vE v w h.1 h.2 hv
  · have h3 := ordE_three h0
    have hT' : foT G ns = [] := by rw [foT, if_neg h0]
    rw [hT', h3]
    refine (rof_bad G hG ns h0 vV vE v w h.1 (by obtain ⟨a, c, hh⟩ := h.2.sl; exact ⟨_, _, _, hh⟩) hv (by omega)).mono ?_
    rintro e w' ⟨rfl, hb⟩
    exact ⟨_, rfl, ⟨none, 0, rfl, .inl rfl⟩, hb⟩
theorem fo_nil (v : Value) (hv : ∃ a m c, v = .slice a m c) (w : World) :
    Calls Tryz.prog 18 #[.pointer none, v] w fun e w' => e = .returned (.tuple #[.slice none 0 0, .int .i64 1]) ∧ Below w.heap.size w w' := by
  refine fromOrder_bad 1 (by decide) (.pointer none) v ⟨⟨_, rfl⟩, hv⟩ w fun W hb => (echeck_nil v W).mono ?_
  rintro e w' ⟨rfl, rfl⟩
  exact ⟨rfl, Below.refl _ _⟩

set_option maxRecDepth 10000 in
set_option maxHeartbeats 4000000 in
theorem foLaw_any (es : List Ed) (hes : ∀ e ∈ es, e.Wf) (ts : List Nat) (hts : ∀ t ∈ ts, t < 256) (ns : List Int) (vl vt vn : Value) (w : World) (hl : Rd edC 5 w.heap.size w vl es) (hc : ∃ a n c, vl = .slice a n c ∧ n ≤ c ∧ c ≤ 9223372036854775807) (ht : Rd u8C 1 w.heap.size w vt ts) (htl : ts.length ≤ 9223372036854775807) (hns : RdL w vn ns) (hnl : ns.length ≤ 9223372036854775807) (hT : Tab2 w) :
    Calls Tryz.prog 4 #[vl, vt, vn] w fun e w' => e = .returned (.bool true) ∧ Below w.heap.size w w' := by
  have HT := Lib.hid hT
  have HN := Lib.hid hns
  have HBe := Lib.hid (begun_any es hes ts hts vl vt w hl hc ht htl)
  have HK := Lib.hid fun W (h : Below w.heap.size w W) => known26_any W (hT.on h)
  have hwf : ∀ e ∈ es.take 40, e.Wf := fun e he => hes e (List.mem_of_mem_take he)
  have hGk := madeTo_ok hwf (es.take 40).length
  have hGl := madeTo_len hwf (es.take 40).length
  have h40 : (es.take 40).length ≤ 40 := List.length_take_le _ _
  obtain ⟨G, hG⟩ : ∃ G, G = madeTo (es.take 40) (es.take 40).length := ⟨_, rfl⟩
  rw [← hG] at HBe hGk hGl
  have HG := Lib.hid hGk
  obtain ⟨al, nl, cl, rfl, -, -⟩ := hc
  obtain ⟨at', ct, rfl⟩ := ht.sl
  obtain ⟨an, cn, rfl, -⟩ := hns
  obtain ⟨few, hfew⟩ : ∃ few, few = decide (es.length ≤ 40) := ⟨_, rfl⟩
  rw [← hfew] at HBe
  clear hl ht hes hts hT hwf hG hGk hfew
  go_enter Tryz.func4, Tryz.ntmps4
  go_wp2_with fail
  refine HBe.out.mono ?_
  rintro r w1 ⟨g, bV, bE, vV, vE, vo, o, rfl, hG1, hRG, ho, hp, hb1⟩
  have HG1 := Lib.hid hG1
  have HRG := Lib.hid hRG
  have HO := Lib.hid ho
  have hol : o.length ≤ 64 := by rw [hp.length_eq, Gr.ids', List.length_map]; omega
  have HB1 := Lib.hid hb1
  obtain ⟨aV, cV, hvV⟩ := hRG.1.sl
  obtain ⟨aE, cE, hvE⟩ := hRG.2.sl
  subst hvV hvE
  obtain ⟨ao, co, rfl, -⟩ := ho
  clear hG1 hRG hp hb1 HBe
  go_wp2_with fail
  have hba : Below w1.heap.size w1 (w1.alloc (.cells #[.slice aV G.V.length cV, .slice aE G.E.length cE] 44)) := (Below.refl _ w1).alloc (Nat.le_refl _) _
  have hra : row? (w1.alloc (.cells #[.slice aV G.V.length cV, .slice aE G.E.length cE] 44)) w1.heap.size = some #[.slice aV G.V.length cV, .slice aE G.E.length cE] := row?_alloc_at _ _ _ _ rfl
  refine (HK.out _ (HB1.out.trans (hba.mono HB1.out.size))).mono ?_
  rintro r w2 ⟨rfl, hb2⟩
  have hc2 := hba.trans (hb2.mono (by simp))
  have hs2 := hb2.size
  simp only [World.size_alloc] at hs2
  have HR2 := Lib.hid ((row?_below hb2 (by simp)).trans hra)
  have HC2 := Lib.hid hc2
  have HB2 := Lib.hid (HB1.out.trans (hc2.mono HB1.out.size))
  clear hba hra hb2 hc2
  obtain ⟨LV, hLV⟩ : ∃ LV, LV = G.V.length := ⟨_, rfl⟩
  obtain ⟨LE, hLE⟩ : ∃ LV, LV = G.E.length := ⟨_, rfl⟩
  rw [← hLV, ← hLE] at HR2 HRG ⊢
  clear hLV hLE
  by_cases hfn : few = true ∧ ns.length ≤ 40
  · obtain ⟨rfl, hn40⟩ := hfn
    have HFo := Lib.hid fun W (hw : Below w2.heap.size w2 W) => fo_any G HG.out o hol g bV bE W _ (HO.out.below (HC2.out.trans (hw.mono HC2.out.size))) (HG1.out.below (HC2.out.trans (hw.mono HC2.out.size))) (HT.out.on (HB2.out.trans (hw.mono HB2.out.size)))
    have HOf := Lib.hid fun W (hw : Below w2.heap.size w2 W) => of_both G HG.out o hol _ _ W _ (HO.out.below (HC2.out.trans (hw.mono HC2.out.size))) (RefG.below HRG.out (HC2.out.trans (hw.mono HC2.out.size)))
    have HFs := Lib.hid fun W (hw : Below w2.heap.size w2 W) => fo_any G HG.out ns (by omega) g bV bE W _ (HN.out.below (HB2.out.trans (hw.mono HB2.out.size))) (HG1.out.below (HC2.out.trans (hw.mono HC2.out.size))) (HT.out.on (HB2.out.trans (hw.mono HB2.out.size)))
    have HOs := Lib.hid fun W (hw : Below w2.heap.size w2 W) => of_both G HG.out ns (by omega) _ _ W _ (HN.out.below (HB2.out.trans (hw.mono HB2.out.size))) (RefG.below HRG.out (HC2.out.trans (hw.mono HC2.out.size)))
    have hS1 := foT_set HG.out o
    have hS2 := foT_set HG.out ns
    have hl1 : (foT G o).length ≤ 65 := Nat.le_trans foT_len (by omega)
    have hl2 : (foT G ns).length ≤ 65 := Nat.le_trans foT_len (by omega)
    obtain ⟨T1, hT1⟩ : ∃ T, T = foT G o := ⟨_, rfl⟩
    obtain ⟨T2, hT2⟩ : ∃ T, T = foT G ns := ⟨_, rfl⟩
    obtain ⟨E1, hE1⟩ : ∃ E, E = G.ordE o := ⟨_, rfl⟩
    obtain ⟨E2, hE2⟩ : ∃ E, E = G.ordE ns := ⟨_, rfl⟩
    rw [← hT1, ← hE1] at HFo HOf
    rw [← hT2, ← hE2] at HFs HOs
    rw [← hT1] at hS1 hl1
    rw [← hT2] at hS2 hl2
    have HS1 := Lib.hid hS1
    have HS2 := Lib.hid hS2
    clear hT1 hT2 hE1 hE2 hS1 hS2
    have hr2 := HR2.out
    go_wp2_with fail
    refine (HFo.out w2 (Below.refl _ _)).mono ?_
    rintro r w3 ⟨v1, rfl, hv1, hb3⟩
    have HV1 := Lib.hid hv1
    have HB3 := Lib.hid hb3
    obtain ⟨q1, c1, rfl⟩ := hv1.sl
    have hr3 := (row?_below hb3 (by omega)).trans HR2.out
    clear hv1 hb3 HFo hr2
    go_wp2_with fail
    refine (HOf.out w3 HB3.out).mono ?_
    rintro r w4 ⟨u1, rfl, hu1, hb4⟩
    have HU1 := Lib.hid hu1
    have HB4 := Lib.hid (HB3.out.trans (hb4.mono HB3.out.size))
    have HV1 := Lib.hid ((HV1.out.below hb4 (Nat.le_refl _)).mono hb4.size)
    obtain ⟨p1, d1, rfl, -⟩ := hu1
    clear hb4 HOf hr3
    go_wp2_with fail
    refine (HFs.out w4 HB4.out).mono ?_
    rintro r w5 ⟨v2, rfl, hv2, hb5⟩
    have HV2 := Lib.hid hv2
    have HB5 := Lib.hid (HB4.out.trans (hb5.mono HB4.out.size))
    have HV1 := Lib.hid ((HV1.out.below hb5 (Nat.le_refl _)).mono hb5.size)
    have HU1 := Lib.hid (HU1.out.below hb5)
    obtain ⟨q2, c2, rfl⟩ := hv2.sl
    have hr5 := (row?_below HB5.out (by omega)).trans HR2.out
    clear hv2 hb5 HFs
    go_wp2_with fail
    refine (HOs.out w5 HB5.out).mono ?_
    rintro r w6 ⟨u2, rfl, hu2, hb6⟩
    have HU2 := Lib.hid hu2
    have HB6 := Lib.hid (HB5.out.trans (hb6.mono HB5.out.size))
    have HV1 := Lib.hid ((HV1.out.below hb6 (Nat.le_refl _)).mono hb6.size)
    have HU1 := Lib.hid (HU1.out.below hb6)
    have HV2 := Lib.hid ((HV2.out.below hb6 (Nat.le_refl _)).mono hb6.size)
    obtain ⟨p2, d2, rfl, -⟩ := hu2
    clear hb6 HOs hr5
    go_wp2_with fail
    refine (fo_nil _ ⟨_, _, _, rfl⟩ w6).mono ?_
    rintro r w7 ⟨rfl, hb7⟩
    have HB7 := Lib.hid (HB6.out.trans (hb7.mono HB6.out.size))
    have HV1 := Lib.hid ((HV1.out.below hb7 (Nat.le_refl _)).mono hb7.size)
    have HU1 := Lib.hid (HU1.out.below hb7)
    have HV2 := Lib.hid ((HV2.out.below hb7 (Nat.le_refl _)).mono hb7.size)
    have HU2 := Lib.hid (HU2.out.below hb7)
    clear hb7
    go_wp2_with fail
    refine (l26To_any T1 _ w7 HV1.out (by omega) HS1.out).mono ?_
    rintro r w8 ⟨x1, rfl, hx1, hb8⟩
    have HX1 := Lib.hid hx1
    have HB8 := Lib.hid (HB7.out.trans (hb8.mono HB7.out.size))
    have HU1 := Lib.hid (HU1.out.below hb8)
    have HV2 := Lib.hid ((HV2.out.below hb8 (Nat.le_refl _)).mono hb8.size)
    have HU2 := Lib.hid (HU2.out.below hb8)
    obtain ⟨y1, z1, rfl, -⟩ := hx1
    clear hb8
    go_wp2_with fail
    refine (r26same_any T1 T1 _ _ w8 HX1.out HU1.out (by omega) (by omega)).mono ?_
    rw [decide_eq_true rfl]
    rintro r w9 ⟨rfl, hb9⟩
    have HB9 := Lib.hid (HB8.out.trans (hb9.mono HB8.out.size))
    have HV2 := Lib.hid ((HV2.out.below hb9 (Nat.le_refl _)).mono hb9.size)
    have HU2 := Lib.hid (HU2.out.below hb9)
    clear hb9
    go_wp2_with fail
    refine (l26To_any T2 _ w9 HV2.out (by omega) HS2.out).mono ?_
    rintro r w10 ⟨x2, rfl, hx2, hb10⟩
    have HX2 := Lib.hid hx2
    have HB10 := Lib.hid (HB9.out.trans (hb10.mono HB9.out.size))
    have HU2 := Lib.hid (HU2.out.below hb10)
    obtain ⟨y2, z2, rfl, -⟩ := hx2
    clear hb10
    go_wp2_with fail
    refine (r26same_any T2 T2 _ _ w10 HX2.out HU2.out (by omega) (by omega)).mono ?_
    rw [decide_eq_true rfl]
    rintro r w11 ⟨rfl, hb11⟩
    have HB11 := Lib.hid (HB2.out.trans ((HB10.out.trans (hb11.mono HB10.out.size)).mono HB2.out.size))
    clear hb11
    go_wp2_with fail
    go_ret
    exact ⟨rfl, HB11.out⟩
  · cases few with
    | false =>
      go_wp2_with fail
      refine (HK.out _ HB2.out).mono ?_
      rintro r w3 ⟨rfl, hb3⟩
      have HB3 := Lib.hid (HB2.out.trans (hb3.mono HB2.out.size))
      clear hb3
      go_wp2_with fail
      go_ret
      exact ⟨rfl, HB3.out⟩
    | true =>
      have hn40 : 40 < ns.length := by
        rcases Nat.lt_or_ge 40 ns.length with h | h
        · exact h
        · exact absurd ⟨rfl, h⟩ hfn
      clear hfn
      go_wp2_with fail
      refine (HK.out _ HB2.out).mono ?_
      rintro r w3 ⟨rfl, hb3⟩
      have HB3 := Lib.hid (HB2.out.trans (hb3.mono HB2.out.size))
      clear hb3
      go_wp2_with fail
      go_ret
      exact ⟨rfl, HB3.out⟩
end Go.Proofs.YtpflnkedolmamaaGreatDoor
