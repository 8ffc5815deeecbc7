/-
  The reference's clusters are those of the plain model.
  Walks of the reference of clusters: Up, Leaf.
  Walks of the reference of clusters: Path, Deep.
-/
import Derived.Test.YtoiefehkfhkhbaaGreatDoorQRD
import Derived.Test.YtoiefehkfhkhbaaGreatDoorQTop10
import Derived.Test.YtoiefehkfhkhbaaGreatDoorQRef9
import Derived.Test.YtoiefehkfhkhbaaGreatDoorQTo13
namespace Go.Proofs.YtoiefehkfhkhbaaGreatDoor
open Go Go.RowKit Go.Pal

set_option maxRecDepth 10000 in
set_option maxHeartbeats 400000 in
theorem rchain1_any (T : List Bg) (w0 : World) (tv : Value) (hv0 : RefT w0 tv T) (t : Tr) (c : Ct)
    (hI : ∀ (w : World) (v : Value) (L : List RNd), Below w0.heap.size w0 w → NSt w0.heap.size w v L → L.length + c.sz ≤ 100000 → Calls Tryz.prog 59 #[tv, .int .i64 (t.lab : Int), v] w fun e w' => ∃ v' M, e = .returned v' ∧ NSt w0.heap.size w' v' (L ++ M) ∧ M.map RNd.nd = c.flat L.length ∧ NGo w v w' v') :
    ChOk w0 tv [t] c := by
  intro w v lv L hb0 hN hlv hcap hLc
  have HI := Lib.hid (hI w v L hb0 hN hLc)
  obtain ⟨b1, off, cl, z, rfl, hz, hc⟩ := hlv.rdl.at (k := 0) (by simp [labL])
  obtain ⟨t', ht, rfl⟩ := labL_get hz
  simp at ht
  subst ht
  have hcell := hc w (Below.refl _ _)
  rw [Nat.add_zero] at hcell
  obtain ⟨ta, tc, rfl⟩ : ∃ a c, tv = .slice a T.length c := by obtain ⟨a, c, h, -⟩ := hv0; exact ⟨a, c, h⟩
  obtain ⟨va, vc, rfl⟩ := hN.sl
  rw [show (labL [t]).length = 1 from rfl]
  clear hI hb0 hN hlv hz hc hv0 hcap
  go_enter Tryz.func22, Tryz.ntmps22
  go_wp2_with fail
  refine HI.out.mono ?_
  rintro e w1 ⟨v1, M, rfl, hN1, hM, hgo⟩
  obtain ⟨va1, vc1, rfl⟩ := hN1.sl
  rw [List.length_append] at hN1 hgo ⊢
  have HN1 := Lib.hid hN1
  have HM := Lib.hid hM
  have HGO := Lib.hid hgo
  clear HI hN1 hM hgo
  go_wp2_with fail
  go_ret
  exact ⟨_, M, rfl, HN1.out, HM.out, HGO.out⟩

set_option maxRecDepth 10000 in
set_option maxHeartbeats 400000 in
theorem rrake1_any (T : List Bg) (hlen : T.length ≤ 65536) (w0 : World) (tv : Value) (hv0 : RefT w0 tv T) (b : Nat) (t : Tr) (hF : Fits T.length (kidsTo T T.length) t) (hts : t.sz ≤ 65536) (l : List Tr) (hp : HPath t l) (c : Ct) (hC : ChOk w0 tv l c) :
    GrOk w0 tv b [t] c := by
  intro w v lv L hb0 hN hlv hcap hLc
  have HC := Lib.hid hC
  have HW := Lib.hid (rway_any T hlen t hF hts tv w (hv0.below hb0) l hp)
  obtain ⟨b1, off, cl, z, rfl, hz, hc⟩ := hlv.rdl.at (k := 0) (by simp [labL])
  obtain ⟨t', ht, rfl⟩ := labL_get hz
  simp at ht
  subst ht
  have hcell := hc w (Below.refl _ _)
  rw [Nat.add_zero] at hcell
  obtain ⟨ta, tc, rfl⟩ : ∃ a c, tv = .slice a T.length c := by obtain ⟨a, c, h, -⟩ := hv0; exact ⟨a, c, h⟩
  obtain ⟨va, vc, rfl⟩ := hN.sl
  rw [show (labL [t]).length = 1 from rfl]
  have HN := Lib.hid hN
  have HB0 := Lib.hid hb0
  have hsz0 := hb0.size
  clear hC hF hp hb0 hN hlv hz hc hv0 hcap
  go_enter Tryz.func99, Tryz.ntmps99
  go_wp2_with fail
  refine HW.out.mono ?_
  rintro e w2 ⟨v2, rfl, hO2, hb2⟩
  have hrd := hO2.rda.mono (HN.out.fresh)
  have HRD := Lib.hid hrd
  have HCAP := Lib.hid hO2.cap
  obtain ⟨a2, c2, rfl⟩ := hO2.sl
  have HB2 := Lib.hid hb2
  clear hO2 hrd hb2 HW hcell
  go_wp2_with fail
  refine (HC.out w2 _ _ L (HB0.out.trans (HB2.out.mono hsz0)) (HN.out.below HB2.out) HRD.out HCAP.out hLc).mono ?_
  rintro e w1 ⟨v1, M, rfl, hN1, hM, hgo⟩
  obtain ⟨va1, vc1, rfl⟩ := hN1.sl
  rw [List.length_append] at hN1 hgo ⊢
  have HN1 := Lib.hid hN1
  have HM := Lib.hid hM
  have HGO := Lib.hid ((NGo.of_below HB2.out).trans hgo)
  clear hN1 hM hgo HC
  go_wp2_with fail
  go_ret
  exact ⟨_, M, rfl, HN1.out, HM.out, HGO.out⟩

theorem TrsOk.sub {T : List Bg} {l l' : List Tr} (h : TrsOk T l) (hs : ∀ t ∈ l', t ∈ l) : TrsOk T l' := fun t ht => h t (hs t ht)
theorem trsOk_kids {T : List Bg} {t : Tr} (hF : Fits T.length (kidsTo T T.length) t) (hs : t.sz ≤ 65536) : TrsOk T t.ks := fun k hk => by
  refine ⟨hF.labL.2 k hk, ?_⟩
  have := Tr.szs_le hk
  cases t
  simp only [Tr.ks, Tr.sz] at *
  omega
theorem trsOk_path {T : List Bg} {t : Tr} (hF : Fits T.length (kidsTo T T.length) t) (hs : t.sz ≤ 65536) {l : List Tr} (hp : HPath t l) : TrsOk T l := fun z hz => by
  have hsub := hpath_sub hp .self z hz
  exact ⟨hF.sub hsub, Nat.le_trans (sub_sz hsub) hs⟩
theorem lights_len (t : Tr) : t.lights.length ≤ t.sz := by
  have h1 : t.lights.length ≤ t.ks.length := List.length_filter_le _ _
  have h2 := Tr.length_le_szs t.ks
  cases t
  simp only [Tr.ks, Tr.sz] at *
  omega

theorem cl_ref (T : List Bg) (hP : ParIn T) (hSets : ∀ x ∈ T, IsSet x.2) (hlen : T.length ≤ 65536) (w0 : World) (tv : Value) (hv0 : RefT w0 tv T) {m : Md} {l : List Tr} {c : Ct} (h : Cl T m l c) (hT : TrsOk T l) (hll : l.length ≤ 65536) :
    match m with | .chain => ChOk w0 tv l c | .group b => GrOk w0 tv b l c := by
  induction h with
  | @item0 t hl =>
    have ht := hT t (by simp)
    exact rchain1_any T w0 tv hv0 t _ fun w v L hb hN hL => ritem0_any T hP hSets hlen t ht.1 ht.2 w0 tv hv0 hl w v L hb hN (by omega)
  | @item1 t c hl hc ih =>
    have ht := hT t (by simp)
    have hk := trsOk_kids ht.1 ht.2
    have hG := ih (hk.sub fun z hz => (List.mem_filter.1 hz).1) (Nat.le_trans (lights_len t) ht.2)
    exact rchain1_any T w0 tv hv0 t _ fun w v L hb hN hL => ritem1_any T hP hSets hlen t ht.1 ht.2 w0 tv hv0 hl c hG w v L hb hN (by simp [Ct.sz, Ct.szs] at hL; omega)
  | @path t u x l c d hc hd hx ihc ihd =>
    have hx' : (t :: u :: l).getLast? = some x := by rw [List.getLast?_cons_cons]; exact hx
    exact rchain2_any T hP hSets hlen w0 tv hv0 t.lab t x (t :: u :: l) rfl hx' rfl (by simp) hll hT c d _ rfl (ihc (hT.sub fun z hz => List.mem_of_mem_take hz) (by rw [List.length_take]; omega)) (ihd (hT.sub fun z hz => List.mem_of_mem_drop hz) (by rw [List.length_drop]; omega))
  | @single b t l c hp hc ih =>
    have ht := hT t (by simp)
    exact rrake1_any T hlen w0 tv hv0 b t ht.1 ht.2 l hp c (ih (trsOk_path ht.1 ht.2 hp) (Nat.le_trans hp.length_le ht.2))
  | @rake b t u l c d hc hd ihc ihd =>
    exact rrake_any T hP hSets hlen w0 tv hv0 b (t :: u :: l) (by simp) hll hT c d _ rfl (ihc (hT.sub fun z hz => List.mem_of_mem_take hz) (by rw [List.length_take]; omega)) (ihd (hT.sub fun z hz => List.mem_of_mem_drop hz) (by rw [List.length_drop]; omega))

theorem roots_first {T : List Bg} : ∀ {k r : Nat}, rootsTo T k = [(r : Int)] → r < k ∧ (T[r]?).map Prod.fst = some (-1) ∧ ∀ j, j < k → (T[j]?).map Prod.fst = some (-1) → j = r
  | 0, r, h => by simp [rootsTo] at h
  | k + 1, r, h => by
    rw [rootsTo] at h
    split at h
    · rename_i hk
      cases hr : rootsTo T k with
      | nil =>
        rw [hr] at h
        simp at h
        have hkr : k = r := by omega
        subst hkr
        refine ⟨by omega, hk, fun j hj hjr => ?_⟩
        by_cases hjk : j = k
        · exact hjk
        · exfalso
          have key : ∀ m, m ≤ k → rootsTo T m = [] → j < m → False := by
            intro m
            induction m with
            | zero => intro _ _ hj; omega
            | succ m ih =>
              intro hm h0 hj
              rw [rootsTo] at h0
              have h1 := List.append_eq_nil_iff.1 h0
              by_cases e : j = m
              · subst e
                rw [if_pos hjr] at h1
                simp at h1
              · exact ih (by omega) h1.1 (by omega)
          exact key k (Nat.le_refl _) hr (by omega)
      | cons y ys =>
        rw [hr] at h
        simp at h
    · rename_i hk
      rw [List.append_nil] at h
      obtain ⟨h1, h2, h3⟩ := roots_first h
      refine ⟨by omega, h2, fun j hj hjr => ?_⟩
      by_cases e : j = k
      · subst e; exact absurd hjr hk
      · exact h3 j (by omega) hjr

set_option maxRecDepth 10000 in
set_option maxHeartbeats 400000 in
theorem r46new_any (T : List Bg) (t : Tr) (hV : Valid T t) (tv : Value) (w : World) (hv : RefT w tv T) (l : List Tr) (hp : HPath t l) (c : Ct) (hC : Cl T .chain l c) (hsz : c.sz ≤ 100000) :
    Calls Tryz.prog 6 #[tv] w fun e w' => ∃ v' M, e = .returned v' ∧ NSt w.heap.size w' v' M ∧ M.map RNd.nd = c.flat 0 ∧ Below w.heap.size w w' := by
  have hle := hV.le
  have hP : ParIn T := fun i x hx => by
    rcases hV.par i x hx with h | ⟨p, h, hlt⟩
    · rw [h]; omega
    · rw [h]; omega
  have hts : t.sz ≤ 65536 := by rw [hV.all]; omega
  obtain ⟨hr1, hr2, hr3⟩ := roots_first hV.root
  have hup : ∀ j : Nat, upI T (j : Int) = ((T[j]?).map Prod.fst).getD (-1) := fun j => by
    unfold upI
    rw [Int.toNat_natCast]
    cases T[j]? <;> rfl
  have hroot := rroot_any T tv w hv (by omega) t.lab hr1 (by rw [hup, hr2]; decide) (fun j hj => by
    have hjl : j < T.length := by omega
    obtain ⟨x, hx⟩ : ∃ x, T[j]? = some x := ⟨_, List.getElem?_eq_getElem hjl⟩
    rw [upI_of hx]
    rcases hV.par j x hx with h | ⟨p, h, _⟩
    · have := hr3 j hjl (by rw [hx]; simp [h])
      omega
    · omega)
  have HR := Lib.hid hroot
  have HW := Lib.hid (rway_any T (by omega) t hV.fits hts tv w hv l hp)
  have HC : Hid (ChOk w tv l c) := Lib.hid (cl_ref T hP hV.sets (by omega) w tv hv hC (trsOk_path hV.fits hts hp) (Nat.le_trans hp.length_le hts))
  obtain ⟨ta, tc, rfl⟩ : ∃ a c, tv = .slice a T.length c := by obtain ⟨a, c, h, -⟩ := hv; exact ⟨a, c, h⟩
  clear hV hP hts hr1 hr2 hr3 hup hroot hC hp hv
  go_enter Tryz.func6, Tryz.ntmps6
  go_wp2_with fail
  refine HR.out.mono ?_
  rintro e w1 ⟨rfl, rfl⟩
  clear HR
  go_wp2_with fail
  refine HW.out.mono ?_
  rintro e w2 ⟨v2, rfl, hO2, hb2⟩
  have HRD := Lib.hid (hO2.rda.mono (A' := fun k => some k ≠ (Value.slice none 0 0).ownBlock) fun k hk => by simp [Value.ownBlock])
  have HCAP := Lib.hid hO2.cap
  obtain ⟨a2, c2, rfl⟩ := hO2.sl
  have HB2 := Lib.hid hb2
  clear hO2 hb2 HW
  go_wp2_with fail
  refine (HC.out w2 _ _ [] HB2.out (NSt.nil _ _) HRD.out HCAP.out (by simpa using hsz)).mono ?_
  rintro e w3 ⟨v3, M, rfl, hN3, hM, hgo⟩
  have HN3 := Lib.hid hN3
  have HM := Lib.hid hM
  have HB3 := Lib.hid (hgo.below HB2.out (fun k hk => by simp [Value.ownBlock] at hk) HB2.out.size)
  obtain ⟨va1, vc1, rfl⟩ := hN3.sl
  clear hN3 hM hgo HC
  go_wp2_with fail
  go_ret
  exact ⟨_, M, rfl, HN3.out, HM.out, HB3.out⟩
end Go.Proofs.YtoiefehkfhkhbaaGreatDoor
namespace Go.Pal
open Go Go.RowKit
/-- The first place of a list where p holds, or -1. -/
def firstI {α : Type} (p : α → Bool) : Nat → List α → Int
  | _, [] => -1
  | k, x :: xs => if p x then (k : Int) else firstI p (k + 1) xs
theorem firstI_some {α : Type} {p : α → Bool} : ∀ {l : List α} {k b : Nat} {x : α}, l[k]? = some x → p x = true → (∀ j y, j < k → l[j]? = some y → p y = false) → firstI p b l = ((b + k : Nat) : Int)
  | [], k, b, x, h, _, _ => by simp at h
  | y :: ys, 0, b, x, h, hp, _ => by
    simp at h
    subst h
    simp [firstI, hp]
  | y :: ys, k + 1, b, x, h, hp, hn => by
    have h0 := hn 0 y (by omega) rfl
    rw [firstI, h0]
    simp only [Bool.false_eq_true, if_false]
    rw [firstI_some (k := k) (b := b + 1) (by simpa using h) hp fun j z hj hz => hn (j + 1) z (by omega) (by simpa using hz)]
    omega
theorem firstI_none {α : Type} {p : α → Bool} : ∀ {l : List α} {b : Nat}, (∀ x ∈ l, p x = false) → firstI p b l = -1
  | [], b, _ => rfl
  | y :: ys, b, h => by
    rw [firstI, h y (by simp)]
    simp only [Bool.false_eq_true, if_false]
    exact firstI_none fun x hx => h x (by simp [hx])
def upR (fl : List TNd) (i : Int) : Int := firstI (fun x => decide (i ∈ x.kids.map fun j : Nat => (j : Int))) 0 fl
def leafR (fl : List TNd) (b : Int) : Int := firstI (fun x => x.kind == 0 && decide ((x.bag : Int) = b)) 0 fl
end Go.Pal
namespace Go.Proofs.YtoiefehkfhkhbaaGreatDoor
open Go Go.RowKit Go.Pal

/-- A slice value reads as the reference's list of clusters. -/
def RefN (w : World) (v : Value) (fl : List TNd) : Prop := ∃ B N, NSt B w v N ∧ N.map RNd.nd = fl
theorem RefN.below {w w' : World} {v : Value} {fl : List TNd} (h : RefN w v fl) (hb : Below w.heap.size w w') : RefN w' v fl := by
  obtain ⟨B, N, h1, h2⟩ := h
  exact ⟨B, N, h1.below hb, h2⟩
theorem RefN.sl {w : World} {v : Value} {fl : List TNd} (h : RefN w v fl) : ∃ a c, v = .slice a fl.length c := by
  obtain ⟨B, N, h1, rfl⟩ := h
  rw [List.length_map]
  exact h1.sl
theorem RefN.at {w : World} {v : Value} {fl : List TNd} (h : RefN w v fl) {k : Nat} (hk : k < fl.length) :
    ∃ g c x q cp q' ch, v = .slice (some ⟨g, 0, none⟩) fl.length c ∧ fl[k]? = some x ∧ ∀ w', Below w.heap.size w w' → w'.cell? ⟨g, k * 4, none⟩ = some (.int .i64 (x.kind : Int)) ∧ w'.cell? ⟨g, k * 4 + 1, none⟩ = some (.int .i64 (x.bag : Int)) ∧
      w'.cell? ⟨g, k * 4 + 2, none⟩ = some (.slice q x.kids.length cp) ∧ w'.cell? ⟨g, k * 4 + 3, none⟩ = some (.slice q' (elemsI x.bnd).length ch) ∧ RdL w' (.slice q x.kids.length cp) (x.kids.map fun i : Nat => (i : Int)) ∧ RdS w' (.slice q' (elemsI x.bnd).length ch) x.bnd := by
  obtain ⟨B, N, h1, rfl⟩ := h
  rw [List.length_map] at hk ⊢
  have hx : N[k]? = some N[k] := List.getElem?_eq_getElem hk
  generalize N[k] = y at hx
  obtain ⟨hp, hh, hS⟩ := h1.2 y (List.mem_of_getElem? hx)
  obtain ⟨c1, c2, c3, c4⟩ := rnC_get hx
  obtain ⟨q, cp, hpv⟩ := hp.sl
  obtain ⟨q', ch, hhv⟩ := hh.sl
  rw [List.length_map] at hpv
  rcases h1.1.2 with ⟨_, h2⟩ | ⟨g, cap, cur, rfl, hB, hg, _⟩
  · omega
  · have hlt := (Array.getElem?_eq_some_iff.1 hg).1
    have key : ∀ j u, (rnC N)[j]? = some u → ∀ w', Below w.heap.size w w' → w'.cell? ⟨g, j, none⟩ = some u := fun j u hu w' hb => by
      have := World.ownsRow.cells (base := B) h1.1 (g := g) rfl _ _ hu
      have e : (⟨g, 0, none⟩ : Addr).add j = ⟨g, j, none⟩ := by unfold Addr.add; split <;> simp_all
      rw [e] at this
      exact (hb.cell (p := ⟨g, j, none⟩) hlt).trans this
    refine ⟨g, cap, y.nd, q, cp, q', ch, rfl, by rw [List.getElem?_map, hx]; rfl, fun w' hb => ⟨key _ _ c1 w' hb, key _ _ c2 w' hb, ?_, ?_, ?_, ?_⟩⟩
    · rw [← hpv]; exact key _ _ c3 w' hb
    · rw [← hhv]; exact key _ _ c4 w' hb
    · rw [← hpv]; exact hp.rdl.below hb
    · rw [← hhv]; exact ⟨hh.rdl.below hb, hS⟩


end Go.Proofs.YtoiefehkfhkhbaaGreatDoor
namespace Go.Pal
open Go Go.RowKit
theorem szs_take_succC {ps : List Ct} {m : Nat} {p : Ct} (h : ps[m]? = some p) : Ct.szs (ps.take (m + 1)) = Ct.szs (ps.take m) + p.sz := by
  induction ps generalizing m with
  | nil => simp at h
  | cons c cs ih =>
    cases m with
    | zero =>
      simp at h
      subst h
      simp [Ct.szs]
    | succ m =>
      rw [List.take_succ_cons, List.take_succ_cons, Ct.szs, Ct.szs, ih (by simpa using h)]
      omega
theorem szs_take_leC (ps : List Ct) : ∀ m, Ct.szs (ps.take m) ≤ Ct.szs ps := by
  induction ps with
  | nil => intro m; simp
  | cons c cs ih =>
    intro m
    cases m with
    | zero => simp [Ct.szs]
    | succ m =>
      rw [List.take_succ_cons, Ct.szs, Ct.szs]
      have := ih m
      omega
theorem tops_get {ps : List Ct} {b m : Nat} {p : Ct} (h : ps[m]? = some p) : (Ct.tops b ps)[m]? = some (b + Ct.szs (ps.take m) + p.sz - 1) := by
  induction ps generalizing b m with
  | nil => simp at h
  | cons c cs ih =>
    cases m with
    | zero =>
      simp at h
      subst h
      simp [Ct.tops, Ct.szs]
    | succ m =>
      rw [Ct.tops, List.getElem?_cons_succ, ih (b := b + c.sz) (by simpa using h), List.take_succ_cons, Ct.szs]
      congr 2
      omega
theorem tops_length (ps : List Ct) : ∀ b, (Ct.tops b ps).length = ps.length := by
  induction ps with
  | nil => intro b; rfl
  | cons c cs ih => intro b; simp [Ct.tops, ih]
theorem flats_get {ps : List Ct} {b m k : Nat} {p : Ct} {x : TNd} (h : ps[m]? = some p) (hx : (p.flat (b + Ct.szs (ps.take m)))[k]? = some x) : (Ct.flats b ps)[Ct.szs (ps.take m) + k]? = some x := by
  induction ps generalizing b m with
  | nil => simp at h
  | cons c cs ih =>
    rw [Ct.flats]
    cases m with
    | zero =>
      simp at h
      subst h
      simp only [List.take_zero, Ct.szs, Nat.add_zero, Nat.zero_add] at hx ⊢
      have hk := (List.getElem?_eq_some_iff.1 hx).1
      rw [List.getElem?_append_left hk]
      exact hx
    | succ m =>
      rw [List.take_succ_cons, Ct.szs] at hx ⊢
      rw [List.getElem?_append_right (by rw [Ct.flat_length]; omega), Ct.flat_length]
      rw [show c.sz + Ct.szs (cs.take m) + k - c.sz = Ct.szs (cs.take m) + k by omega]
      exact ih (b := b + c.sz) (by simpa using h) (by rw [show b + c.sz + Ct.szs (cs.take m) = b + (c.sz + Ct.szs (cs.take m)) by omega]; exact hx)
theorem deeps_take_succ {ps : List Ct} {m : Nat} {p : Ct} (h : ps[m]? = some p) : Ct.deeps (ps.take (m + 1)) = max (Ct.deeps (ps.take m)) p.deep := by
  induction ps generalizing m with
  | nil => simp at h
  | cons c cs ih =>
    cases m with
    | zero =>
      simp at h
      subst h
      simp [Ct.deeps]
    | succ m =>
      rw [List.take_succ_cons, List.take_succ_cons, Ct.deeps, Ct.deeps, ih (by simpa using h)]
      omega
mutual
theorem Ct.deep_le_sz : ∀ c : Ct, c.deep ≤ c.sz
  | .node k g s ps => by simp only [Ct.deep, Ct.sz]; have := Ct.deeps_le_szs ps; omega
theorem Ct.deeps_le_szs : ∀ cs : List Ct, Ct.deeps cs ≤ Ct.szs cs
  | [] => Nat.le_refl _
  | c :: cs => by simp only [Ct.deeps, Ct.szs]; have := Ct.deep_le_sz c; have := Ct.deeps_le_szs cs; omega
end
theorem Ct.sz_le_szs {c : Ct} {ps : List Ct} (h : c ∈ ps) : c.sz ≤ Ct.szs ps := by
  induction ps with
  | nil => cases h
  | cons d ds ih =>
    rw [Ct.szs]
    rcases List.mem_cons.1 h with rfl | h
    · omega
    · have := ih h; omega
/-- One rule for all clusters. -/
theorem Ct.induct {P : Ct → Prop} (h : ∀ k g s ps, (∀ c ∈ ps, P c) → P (.node k g s ps)) (c : Ct) : P c := by
  generalize hn : c.sz = n
  induction n using Nat.strongRecOn generalizing c with
  | _ n ih =>
    cases c with
    | node k g s ps =>
      exact h k g s ps fun u hu => ih u.sz (by have := Ct.sz_le_szs hu; simp [Ct.sz] at hn; omega) u rfl
/-- The clusters of c lie in the list from index b on. -/
def Lies (fl : List TNd) (b : Nat) (c : Ct) : Prop := ∀ k x, (c.flat b)[k]? = some x → fl[b + k]? = some x
theorem Lies.kid {fl : List TNd} {b m : Nat} {k g s : Nat} {ps : List Ct} {p : Ct} (h : Lies fl b (.node k g s ps)) (hp : ps[m]? = some p) : Lies fl (b + Ct.szs (ps.take m)) p := fun j x hx => by
  have h1 := flats_get hp hx
  have h2 := h (Ct.szs (ps.take m) + j) x (by rw [Ct.flat, List.getElem?_append_left (List.getElem?_eq_some_iff.1 h1).1]; exact h1)
  rwa [← Nat.add_assoc] at h2
theorem Lies.top {fl : List TNd} {b : Nat} {k g s : Nat} {ps : List Ct} (h : Lies fl b (.node k g s ps)) : fl[b + Ct.szs ps]? = some ⟨k, g, Ct.tops b ps, s⟩ := by
  refine h (Ct.szs ps) _ ?_
  rw [Ct.flat, List.getElem?_append_right (by rw [Ct.flats_length]; exact Nat.le_refl _), Ct.flats_length, Nat.sub_self]
  rfl
end Go.Pal
namespace Go.Proofs.YtoiefehkfhkhbaaGreatDoor
open Go Go.RowKit Go.Pal


end Go.Proofs.YtoiefehkfhkhbaaGreatDoor
