/-
  Walks of package frame: down.
-/
import Derived.Test.YtoboncfgogjllaaGreatDoorQFr1
namespace Go.Proofs.YtoboncfgogjllaaGreatDoor
open Go Go.RowKit Go.Pal Go.Shelf

/-- What New leaves in the nodes of a tree of bags. -/
inductive Done (B : Nat) (w : World) (N : Nat → Nd) : Tr → Nat → Prop
  | mk (b : Nat) (ks : List Tr) (d : Nat) (hs : (N b).size = 1 + (Tr.szs ks : Int)) (hh : (N b).heavy = Tr.hLab (Tr.hvL ks)) (hd : (N b).deep = d) (hk : OwnI B w (N b).kids (ks.map fun t => (t.lab : Int)))
      (hl : OwnI B w (N b).light ((ks.map fun t => (t.lab : Int)).filter fun k => !(k == Tr.hLab (Tr.hvL ks)))) (h : ∀ t ∈ ks, Done B w N t (d + 1)) : Done B w N (.node b ks) d
theorem Done.keep {B : Nat} {w w' : World} {N N' : Nat → Nd} (hw : ∀ k, B ≤ k → k < w.heap.size → w'.heap[k]? = w.heap[k]?) {t : Tr} {d : Nat} (h : Done B w N t d) (hN : ∀ c ∈ t.labs, N' c = N c) : Done B w' N' t d := by
  induction h with
  | mk b ks d hs hh hd hk hl h ih =>
    have hb : N' b = N b := hN b (by simp [Tr.labs])
    refine .mk b ks d (by rw [hb]; exact hs) (by rw [hb]; exact hh) (by rw [hb]; exact hd) (by rw [hb]; exact hk.same fun g hg => hw g (hk.block g hg) (hk.lt g hg)) (by rw [hb]; exact hl.same fun g hg => hw g (hl.block g hg) (hl.lt g hg)) fun t ht => ih t ht fun c hc => hN c ?_
    simp only [Tr.labs, List.mem_cons]
    exact .inr (Tr.mem_labss ht hc)
theorem Done.size {B : Nat} {w : World} {N : Nat → Nd} {t : Tr} {d : Nat} (h : Done B w N t d) : (N t.lab).size = t.sz := by
  cases h with
  | mk b ks d hs => rw [show (Tr.node b ks).lab = b from rfl, hs]; simp [Tr.sz]

set_option maxRecDepth 20000 in
set_option maxHeartbeats 2000000 in
theorem down_any (gf gT cT gN gM n gt gb B : Nat) (T : List Bg) (t0 : Tr) (hV : Valid T t0) (hn : n = T.length) (vT : Value) (hord : 0 < gt ∧ gt < gN ∧ gt < gM ∧ gN ≠ gf ∧ gM ≠ gf ∧ gN ≠ gM ∧ gN ≠ gb ∧ gM ≠ gb) (hordB : gN < B ∧ gM < B) :
    ∀ (u : Tr) (d : Nat) (N : Nat → Nd) (m : Nat) (w : World), B ≤ w.heap.size → u.labs.Nodup → Fits n (kidsTo T n) u → FSt gf gT cT gN gM n N m w → row? w gt = some #[vT] → row? w gb = some #[.pointer (some ⟨gf, 0, none⟩)] → Rd bagA 17 gt w vT T → TabOk w →
      (∀ c ∈ u.labs, OwnI B w (N c).kids (kidsTo T n c)) → (∀ x, T[u.lab]? = some x → (x.1 = -1 ∧ d = 0 ∧ (N u.lab).deep = 0) ∨ ∃ p d', x.1 = (p : Nat) ∧ d = d' + 1 ∧ (N p).deep = (d' : Nat)) →
      d + u.sz ≤ 60000 → m + 1024 * u.sz ≤ 90000000 →
    Calls Tryz.prog 89 #[.pointer (some ⟨gf, 0, none⟩), .int .i64 (u.lab : Int), .func (.func 91) #[] #[.pointer (some ⟨gt, 0, none⟩), .pointer (some ⟨gb, 0, none⟩)], .func (.func 92) #[] #[.pointer (some ⟨gb, 0, none⟩)]] w
      fun e w' => (∃ v, e = .returned v) ∧ ∃ N', FSt gf gT cT gN gM n N' (m + 1024 * u.sz) w' ∧ (∀ c, c ∉ u.labs → N' c = N c) ∧ Done B w' N' u d ∧ Same (fun k => k ≠ gN ∧ k ≠ gM) w w' := by
  intro u
  induction u using Tr.induct with
  | h b ks ih =>
  intro d N m w hBw hnd hfit hS ht hb hvt hTab hkids hdeep hd hm
  have hbn : b < n := hfit.lab
  obtain ⟨hk, hf⟩ : kidsTo T n b = ks.map (fun t => (t.lab : Int)) ∧ ∀ t ∈ ks, Fits n (kidsTo T n) t := by
    cases hfit with
    | mk _ _ h1 h2 h3 => exact ⟨h2, h3⟩
  obtain ⟨x, hx⟩ : ∃ x, T[b]? = some x := ⟨_, List.getElem?_eq_getElem (by omega)⟩
  simp only [Tr.labs, List.nodup_cons] at hnd
  obtain ⟨hb0, hnd⟩ := hnd
  simp only [Tr.sz] at hd hm
  have hcome : Calls Tryz.prog 91 #[.int .i64 (b : Int), .pointer (some ⟨gt, 0, none⟩), .pointer (some ⟨gb, 0, none⟩)] w
      fun e w' => (∃ v, e = .returned v) ∧ FSt gf gT cT gN gM n (upd N b { N b with deep := (d : Int) }) (m + 1024) w' ∧ Same (fun k => k ≠ gN ∧ k ≠ gM) w w' := by
    rcases hdeep x hx with ⟨h1, h2, h3⟩ | ⟨p, d', h1, h2, h3⟩
    · subst h2
      have hN : upd N b { N b with deep := ((0 : Nat) : Int) } = N := by
        funext c
        by_cases h : c = b
        · subst h
          rw [upd_same]
          have h3' : (N c).deep = 0 := h3
          cases hNc : N c
          rw [hNc] at h3'
          simp at h3'
          subst h3'
          rfl
        · rw [upd_other _ _ h]
      rw [hN]
      exact come_root gf gT cT gN gM n gt gb T t0 hV hn vT hord N m w hS ht hb hvt hTab b x hx h1 (by omega)
    · subst h2
      have := come_any gf gT cT gN gM n gt gb T t0 hV hn vT hord N m w hS ht hb hvt hTab b p x hx h1 d' h3 (by omega) (by omega)
      simpa using this
  have HIH := Lib.hid ih
  have HKids := Lib.hid hkids
  have HFit := Lib.hid hf
  have HKK := Lib.hid hk
  have HT := Lib.hid ht
  have HB := Lib.hid hb
  have HVT := Lib.hid hvt
  have HTab := Lib.hid hTab
  have HND := Lib.hid hnd
  have HB0 := Lib.hid hb0
  have hgt := row?_lt ht
  have hgb := row?_lt hb
  have hgM0 := hS.gM_lt
  have hszl := Tr.length_le_szs ks
  clear ih hkids hf hk ht hb hvt hTab hdeep hfit hnd hb0 hS
  show Calls Tryz.prog 89 #[_, .int .i64 (b : Int), _, _] w _
  go_enter Tryz.func89, Tryz.ntmps89
  go_wp2_with fail
  refine hcome.mono ?_
  rintro e w1 ⟨⟨v1, rfl⟩, hF1, hs1⟩
  obtain ⟨N1, hN1⟩ : ∃ N1, N1 = upd N b { N b with deep := (d : Int) } := ⟨_, rfl⟩
  rw [← hN1] at hF1
  have hN1b : N1 b = { N b with deep := (d : Int) } := by rw [hN1, upd_same]
  have hN1c : ∀ c, c ≠ b → N1 c = N c := fun c hc => by rw [hN1, upd_other _ _ hc]
  clear hcome hN1
  have hown : OwnI B w (N b).kids (ks.map fun t => (t.lab : Int)) := by have := HKids.out b (by simp [Tr.labs]); rwa [HKK.out] at this
  obtain ⟨q0, n0, c0, hkv⟩ := hown.slice
  have hn0 : n0 = ks.length := by rw [hkv] at hown; simpa using hown.len
  subst hn0
  have e1 : w1.cell? ⟨gf, 1, none⟩ = _ := cell?_row (i := 1) hF1.frame
  have e2 : w1.cell? ⟨gN, b * 5, none⟩ = _ := cell?_row (i := b * 5) hF1.nodes
  rw [show b * 5 = b * 5 + 0 by omega, nodeC_get _ (by omega) (by omega), hN1b] at e2
  simp [Nd.cells, hkv] at e1 e2
  rw [hkv] at hown
  have HO := Lib.hid hown
  have HF1 := Lib.hid hF1
  have Hs1 := Lib.hid hs1
  have HN1b := Lib.hid hN1b
  have HN1c := Lib.hid hN1c
  have HKV := Lib.hid hkv
  clear hown hF1 hs1 hN1b hN1c hkv
  obtain ⟨o1, o2, o3, o4, o5, o6, o7, o8⟩ := hord
  go_wp2_with fail
  go_loopw [22] (fun i wr => ∃ pre rest Np, ks = pre ++ rest ∧ i = .int .i64 (pre.length : Int) ∧ FSt gf gT cT gN gM n Np (m + 1024 + 1024 * Tr.szs pre) wr ∧ (∀ c, c ∉ Tr.labss pre → Np c = N1 c) ∧ (∀ t ∈ pre, Done B wr Np t (d + 1)) ∧ Same (fun k => k ≠ gN ∧ k ≠ gM) w wr) (fun i _ => ks.length - (intOf i).toNat)
  case atStart => exact ⟨[], ks, N1, rfl, rfl, by simpa [Tr.szs] using HF1.out, fun _ _ => rfl, fun t ht => by (cases ht), Hs1.out⟩
  case round =>
    obtain ⟨pre, rest, Np, hpre, rfl, hFr, hNp, hDr, hsr⟩ := hrel
    have HFr := Lib.hid hFr
    have HNp := Lib.hid hNp
    have HDr := Lib.hid hDr
    have Hsr := Lib.hid hsr
    have hownr : OwnI B wr (.slice q0 ks.length c0) (ks.map fun t => (t.lab : Int)) := HO.out.same fun g hg => hsr.block g (HO.out.lt g hg) (by have := HO.out.block g hg; omega)
    have HOr := Lib.hid hownr
    have Hpre := Lib.hid hpre
    cases rest with
    | nil =>
      have hpk : pre = ks := by rw [hpre]; simp
      subst hpk
      clear hFr hNp hDr hsr hownr hpre e1 e2
      go_wp2_with fail
      have hNpb : Np b = N1 b := HNp.out b HB0.out
      refine (leave_any gf gT cT gN gM n gb B ⟨o4, o6, o7, hordB.1⟩ (by have := hV.le; omega) Np _ wr (by have := Hsr.out.size; omega) HFr.out ((row?_congr (Hsr.out.block gb hgb ⟨by omega, by omega⟩)).trans HB.out) b pre hbn (by rw [hNpb, HN1b.out]; rw [HKV.out]; exact HOr.out) (fun k hk => ⟨(HFit.out k hk).lab, fun e => HB0.out (e ▸ Tr.mem_labss hk k.lab_mem), (HDr.out k hk).size⟩) (by omega)).mono ?_
      rintro e w8 ⟨⟨v8, rfl⟩, lv, hF8, hl8, hs8⟩
      have HF8 := Lib.hid hF8
      have Hl8 := Lib.hid hl8
      have Hs8 := Lib.hid hs8
      clear hF8 hl8 hs8
      go_wp2
      go_end0
      refine ⟨⟨_, rfl⟩, _, HF8.out.mono (by simp [Tr.sz]; omega), ?_, ?_, Hsr.out.trans (Hs8.out.mono fun k _ h => h.1)⟩
      · intro c hc
        simp only [Tr.labs, List.mem_cons, not_or] at hc
        rw [upd_other _ _ hc.1, HNp.out c hc.2, HN1c.out c hc.1]
      · refine .mk b pre d ?_ ?_ ?_ ?_ ?_ ?_
        · rw [upd_same]
        · rw [upd_same]
        · rw [upd_same, hNpb, HN1b.out]
        · rw [upd_same, hNpb, HN1b.out]
          show OwnI _ w8 (N b).kids _
          rw [HKV.out]
          exact HOr.out.same fun g hg => Hs8.out.block g (HOr.out.lt g hg) (by have := HOr.out.block g hg; omega)
        · rw [upd_same]
          exact Hl8.out
        · intro t ht
          exact (HDr.out t ht).keep (fun k hk hk2 => Hs8.out.block k hk2 (by omega)) fun c hc => upd_other _ _ fun e => HB0.out (e ▸ Tr.mem_labss ht hc)
    | cons t rest =>
      have hlt : pre.length < ks.length := by rw [hpre]; simp
      have htm : t ∈ ks := by rw [hpre]; simp
      have hz : (ks.map fun t => (t.lab : Int))[pre.length]? = some (t.lab : Int) := by rw [hpre]; simp
      obtain ⟨g, rfl, hg1, hg2, hc⟩ := hownr.cell hz
      have hszp : Tr.szs ks = Tr.szs pre + (t.sz + Tr.szs rest) := by rw [hpre, Tr.szs_append]; rfl
      have hnd2 := HND.out
      rw [hpre, Tr.labss_append, List.nodup_append] at hnd2
      obtain ⟨hnd3, hnd4, hnd5⟩ := hnd2
      simp only [Tr.labss, List.nodup_append] at hnd4
      have hdis : ∀ c ∈ t.labs, c ∉ Tr.labss pre := fun c hc hc2 => hnd5 c hc2 c (by simp [Tr.labss, hc]) rfl
      have hnb : ∀ c ∈ t.labs, c ≠ b := fun c hc e => HB0.out (e ▸ Tr.mem_labss htm hc)
      clear hFr hNp hDr hsr hownr hpre e1 e2
      go_wp2_with fail
      have hB : Below gt w wr := Hsr.out.below (by omega) fun k hk => ⟨by omega, by omega⟩
      have hcall := HIH.out t htm (d + 1) Np (m + 1024 + 1024 * Tr.szs pre) wr (by have := Hsr.out.size; omega) hnd4.1 (HFit.out t htm) HFr.out ((row?_congr (Hsr.out.block gt hgt ⟨by omega, by omega⟩)).trans HT.out) ((row?_congr (Hsr.out.block gb hgb ⟨by omega, by omega⟩)).trans HB.out) (HVT.out.below hB (Nat.le_refl _)) (HTab.out.same (Hsr.out.block _ (by omega) ⟨by omega, by omega⟩))
        (fun c hc => by
          rw [HNp.out c (hdis c hc), HN1c.out c (hnb c hc)]
          have h := HKids.out c (by simp only [Tr.labs, List.mem_cons]; exact .inr (Tr.mem_labss htm hc))
          exact h.same fun g hg => Hsr.out.block g (h.lt g hg) (by have := h.block g hg; omega))
        (fun y hy => by
          have hmem : (t.lab : Int) ∈ kidsTo T n b := by rw [HKK.out]; exact List.mem_map.2 ⟨t, htm, rfl⟩
          obtain ⟨c, h1, _, z, h2, h3⟩ := kidsTo_mem hmem
          have : c = t.lab := by omega
          subst this
          rw [hy] at h2
          cases h2
          exact .inr ⟨b, d, h3, rfl, by rw [HNp.out b (fun h => HB0.out (by rw [Hpre.out, Tr.labss_append]; exact List.mem_append_left _ h)), HN1b.out]⟩)
        (by omega) (by omega)
      refine hcall.mono ?_
      rintro e w7 ⟨⟨v7, rfl⟩, N7, hF7, hN7, hD7, hs7⟩
      have HF7 := Lib.hid hF7
      have HN7 := Lib.hid hN7
      have HD7 := Lib.hid hD7
      have Hs7 := Lib.hid hs7
      clear hcall hF7 hN7 hD7 hs7 hB
      go_wp2
      go_roundw
      case rel =>
        refine ⟨pre ++ [t], rest, N7, by rw [Hpre.out]; simp, by simp, ?_, ?_, ?_, Hsr.out.trans Hs7.out⟩
        · rw [Tr.szs_append]
          exact HF7.out.mono (by simp [Tr.szs]; omega)
        · intro c hc
          rw [Tr.labss_append, List.mem_append, not_or] at hc
          rw [HN7.out c (fun h => hc.2 (by simp [Tr.labss, h])), HNp.out c hc.1]
        · intro v hv
          rcases List.mem_append.1 hv with h | h
          · exact (HDr.out v h).keep (fun k hk hk2 => Hs7.out.block k hk2 ⟨by omega, by omega⟩) fun c hc => HN7.out c fun h2 => hdis c h2 (Tr.mem_labss h hc)
          · simp only [List.mem_singleton] at h
            subst h
            exact HD7.out
      case measure => simp [intOf]; omega
end Go.Proofs.YtoboncfgogjllaaGreatDoor
