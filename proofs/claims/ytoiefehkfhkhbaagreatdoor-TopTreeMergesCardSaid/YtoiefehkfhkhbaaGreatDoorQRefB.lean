/-
  Walks of the reference of clusters: item.
  Walks of the reference of clusters: rake.
-/
import Derived.Test.YtoiefehkfhkhbaaGreatDoorQRef9
namespace Go.Pal
open Go Go.RowKit
def capOk : Value → Prop
  | .slice _ n c => n ≤ c
  | _ => False
theorem RdA.nil (A : Nat → Prop) (w : World) : RdA A w (.slice none 0 0) [] := ⟨none, 0, rfl, .inl rfl⟩
theorem RdA.old {B : Nat} {w0 w : World} {v : Value} {ns : List Int} (h : RdA (fun k => k < B) w0 v ns) (hb : Below B w0 w) : RdA (fun k => k < B) w v ns := h.keep hb.size fun k _ hA => ⟨hb.block k hA, hA⟩
theorem flat_item0 (b n S1 S2 : Nat) : (Ct.node 2 b S2 [.node 0 b S1 []]).flat n = [⟨0, b, [], S1⟩, ⟨2, b, [n], S2⟩] := by
  simp [Ct.flat, Ct.flats, Ct.tops, Ct.sz, Ct.szs]
theorem flat_item1 (b n S1 S2 : Nat) (c : Ct) : (Ct.node 2 b S2 [.node 0 b S1 [], c]).flat n = ⟨0, b, [], S1⟩ :: (c.flat (n + 1) ++ [⟨2, b, [n, n + c.sz], S2⟩]) := by
  have e : n + 1 + c.sz - 1 = n + c.sz := by omega
  simp [Ct.flat, Ct.flats, Ct.tops, Ct.sz, Ct.szs, e]
end Go.Pal
namespace Go.Proofs.YtoiefehkfhkhbaaGreatDoor
open Go Go.RowKit Go.Pal

theorem NSt.fresh {B : Nat} {w : World} {v : Value} {N : List RNd} (h : NSt B w v N) : ∀ k, w.heap.size ≤ k → some k ≠ v.ownBlock := fun k hk e => by have := h.lt k e.symm; omega
theorem NSt.old {B : Nat} {w : World} {v : Value} {N : List RNd} (h : NSt B w v N) : ∀ k, k < B → some k ≠ v.ownBlock := fun k hk e => by have := h.block k e.symm; omega
theorem OwnI.go {B : Nat} {w w' : World} {v : Value} {ns : List Int} (h : OwnI B w v ns) (hk : ∀ k, k < w.heap.size → B ≤ k → w'.heap[k]? = w.heap[k]?) : OwnI B w' v ns := by
  rcases h.2 with ⟨h1, h2⟩ | ⟨g, cap, cur, h1, hB, hg, r⟩
  · exact ⟨h.1, .inl ⟨h1, h2⟩⟩
  · have hlt := (Array.getElem?_eq_some_iff.1 hg).1
    exact ⟨h.1, .inr ⟨g, cap, cur, h1, hB, (hk g hlt hB).trans hg, r⟩⟩
theorem OwnI.one {B : Nat} {w : World} (z : Int) (hB : B ≤ w.heap.size) : OwnI B (w.alloc (.cells #[.int .i64 z] 3)) (.slice (some ⟨w.heap.size, 0, none⟩) 1 1) [z] :=
  ⟨rfl, .inr ⟨w.heap.size, 1, #[.int .i64 z], rfl, hB, heap_alloc_new _ _, Nat.le_refl _, by decide, rfl, rfl⟩⟩

theorem OwnI.raise {B B' : Nat} {w : World} {v : Value} {ns : List Int} (h : OwnI B w v ns) (hb : ∀ k, v.ownBlock = some k → B' ≤ k) : OwnI B' w v ns := by
  obtain ⟨h1, h2⟩ := h
  refine ⟨h1, h2.imp id ?_⟩
  rintro ⟨g, cap, cur, hv, _, r⟩
  subst hv
  exact ⟨g, cap, cur, rfl, hb g rfl, r⟩
/-- One integer appended to a row without room. -/
theorem wp_appFull {o : Oper} {a : Act} {K : Act → World → Prop} {Q : Exit → Act → World → Prop} {w : World} (st : TypeId) (hst : Tryz.prog.underlying st = some (.slice 3)) (s x : Operand)
    (ho : o.op = .call { callee := .builtin .append, args := #[s, x], argTypes := #[st, st] }) (B p : Nat) (ns : List Int) (hs : a.eval s = .slice (some ⟨p, 0, none⟩) ns.length ns.length) (hown : OwnI B w (.slice (some ⟨p, 0, none⟩) ns.length ns.length) ns)
    (g : Nat) (z : Int) (c : Nat) (hx : a.eval x = .slice (some ⟨g, 0, none⟩) 1 c) (hg : w.cell? ⟨g, 0, none⟩ = some (.int .i64 z)) (hlen : ns.length < 1000000) (hB : B ≤ w.heap.size)
    (h : ∀ v' w', OwnI w.heap.size w' v' (ns ++ [z]) → Below w.heap.size w w' → K (a.put o.dst v') w') : o.wp Tryz.prog a w K Q := by
  obtain ⟨i0, hi, hz0, hz1, hz2⟩ := info_parts infoInt
  have hnews : ∀ j u, ([.int .i64 z] : List Value)[j]? = some u → w.cell? ((⟨g, 0, none⟩ : Addr).add j) = some u := fun j u hj => by
    cases j with
    | zero => simp at hj; subst hj; simpa [Addr.add] using hg
    | succ j => simp at hj
  obtain ⟨v', w', hr, h2, h3, h4⟩ := run_append_own2 (P := Tryz.prog) w B st o.type 3 i0 (.int .i64 0) 1 8 hst hi hz0 hz1 hz2 rfl (by decide) _ ns.length (ns.map (Value.int .i64)) hown ⟨g, 0, none⟩ 1 c (by decide) [.int .i64 z] rfl
    hnews (fun u hu => by simp at hu; subst hu; rfl) (by unfold maxLen; omega) (by omega) hB
  have hr2 := run_append_grow (P := Tryz.prog) w st o.type 3 i0 (.int .i64 0) hst hi hz0 ⟨p, 0, none⟩ ns.length ns.length (ns.map (Value.int .i64)) (by rw [hz1]; exact hown.1) (hown.cells (g := p) rfl) ⟨g, 0, none⟩ 1 c [.int .i64 z] (by rw [hz1]; rfl) hnews (by omega) (by omega) (growslice_fits (by omega) (by rw [hz2]; omega))
  rw [hr] at hr2
  have e1 : v' = .slice (some ⟨w.heap.size, 0, none⟩) (ns.length + 1) (grownCap w (ns.length + 1) ns.length 3) := by
    have := hr2
    simp only [Result.ok.injEq] at this
    exact this.1
  have e2 := hr2
  simp only [Result.ok.injEq] at e2
  have hbw : Below w.heap.size w w' := by rw [e2.2]; exact ((Below.refl _ w).drew).alloc (Nat.le_refl _) _
  unfold Oper.wp execOp
  simp only [ho, resolve, invoke, builtin, Sem.run_bind, Sem.run_pure, Result.andThen_ok, List.map_toArray, List.map_cons, List.map_nil, hs, hx, hr]
  have hO : OwnI B w' v' (ns ++ [z]) := by unfold OwnI; simpa using h2
  refine h v' w' (hO.raise fun k hk => ?_) hbw
  rw [e1] at hk
  simp only [Value.ownBlock, Option.some.injEq] at hk
  omega
theorem wpList_appFull {ops : Array Oper} {rest : List Oper} {o : Oper} {a : Act} {Q : Exit → Act → World → Prop} {w : World} (hgd : o.guard = none) (st : TypeId) (hst : Tryz.prog.underlying st = some (.slice 3)) (s x : Operand)
    (ho : o.op = .call { callee := .builtin .append, args := #[s, x], argTypes := #[st, st] }) (B p : Nat) (ns : List Int) (hs : a.eval s = .slice (some ⟨p, 0, none⟩) ns.length ns.length) (hown : OwnI B w (.slice (some ⟨p, 0, none⟩) ns.length ns.length) ns)
    (g : Nat) (z : Int) (c : Nat) (hx : a.eval x = .slice (some ⟨g, 0, none⟩) 1 c) (hg : w.cell? ⟨g, 0, none⟩ = some (.int .i64 z)) (hlen : ns.length < 1000000) (hB : B ≤ w.heap.size)
    (h : ∀ v' w', OwnI w.heap.size w' v' (ns ++ [z]) → Below w.heap.size w w' → wpList Tryz.prog ops Q rest (a.put o.dst v') w') : wpList Tryz.prog ops Q (o :: rest) a w :=
  wpList_plain hgd fun _ hK => wp_appFull st hst s x ho B p ns hs hown g z c hx hg hlen hB fun v' w' h1 h2 => hK _ _ (h v' w' h1 h2)

theorem OwnI.cap {B : Nat} {w : World} {v : Value} {ns : List Int} (h : OwnI B w v ns) : capOk v := by
  rcases h.2 with ⟨rfl, _⟩ | ⟨g, cap, cur, rfl, _, _, h1, _⟩
  · exact Nat.le_refl _
  · exact h1
/-- What rake does with a list of light subtrees. -/
def GrOk (w0 : World) (tv : Value) (b : Nat) (l : List Tr) (c : Ct) : Prop := ∀ (w : World) (v lv : Value) (L : List RNd), Below w0.heap.size w0 w → NSt w0.heap.size w v L → RdA (fun k => some k ≠ v.ownBlock) w lv (labL l) → capOk lv → L.length + c.sz ≤ 100000 →
  Calls Tryz.prog 99 #[tv, .int .i64 (b : Int), lv, v] w fun e w' => ∃ v' M, e = .returned v' ∧ NSt w0.heap.size w' v' (L ++ M) ∧ M.map RNd.nd = c.flat L.length ∧ NGo w v w' v'
def ChOk (w0 : World) (tv : Value) (l : List Tr) (c : Ct) : Prop := ∀ (w : World) (v lv : Value) (L : List RNd), Below w0.heap.size w0 w → NSt w0.heap.size w v L → RdA (fun k => some k ≠ v.ownBlock) w lv (labL l) → capOk lv → L.length + c.sz ≤ 100000 →
  Calls Tryz.prog 22 #[tv, lv, v] w fun e w' => ∃ v' M, e = .returned v' ∧ NSt w0.heap.size w' v' (L ++ M) ∧ M.map RNd.nd = c.flat L.length ∧ NGo w v w' v'

set_option maxRecDepth 10000 in
set_option maxHeartbeats 2000000 in
theorem ritem0_any (T : List Bg) (hP : ParIn T) (hSets : ∀ x ∈ T, IsSet x.2) (hlen : T.length ≤ 65536) (t : Tr) (hF : Fits T.length (kidsTo T T.length) t) (hts : t.sz ≤ 65536) (w0 : World) (tv : Value) (hv0 : RefT w0 tv T) (hlights : t.lights = []) (w : World) (v : Value) (L : List RNd) (hb0 : Below w0.heap.size w0 w) (hN : NSt w0.heap.size w v L) (hL : L.length ≤ 100000) :
    Calls Tryz.prog 59 #[tv, .int .i64 (t.lab : Int), v] w fun e w' => ∃ v' M, e = .returned v' ∧ NSt w0.heap.size w' v' (L ++ M) ∧ M.map RNd.nd = (Ct.node 2 t.lab (adhS T t.lab ||| belS T t) [.node 0 t.lab (bagS T t.lab) []]).flat L.length ∧ NGo w v w' v' := by
  rw [flat_item0]
  obtain ⟨b, off, c0, p, S, q, cap, rfl, hx, hS, hc⟩ := hv0.at hF.lab
  have hbag : bagS T t.lab = S := by unfold bagS; rw [hx]
  obtain ⟨-, k2, -⟩ := hc w hb0
  have hset := (hc w0 (Below.refl _ _)).2.2.1.rda
  have HSET := Lib.hid hset
  have HV0 := Lib.hid hv0
  have HLight := Lib.hid fun w' (hw : RefT w' (.slice (some ⟨b, off, none⟩) T.length c0) T) => rlight_any T hlen t hF hts _ w' hw
  have HEnds := Lib.hid fun w' lv (hw : RefT w' (.slice (some ⟨b, off, none⟩) T.length c0) T) (hlv : RdL w' lv (labL [t])) => r46ends_any T hP hSets hlen [t] t t rfl rfl hF hF hts (by simp) _ lv w' hw hlv
  have HSBag : Hid (IsSet (bagS T t.lab)) := Lib.hid (by rw [hbag]; exact hS)
  have HSEnd : Hid (IsSet (adhS T t.lab ||| belS T t)) := Lib.hid (isSet_or (isSet_adhS hSets _) (isSet_belS hSets _))
  have HBAG := Lib.hid hbag
  have hsz0 := hb0.size
  have HB0 := Lib.hid hb0
  obtain ⟨va, vc, rfl⟩ := hN.sl
  have HN := Lib.hid hN
  have htl := hF.lab
  obtain ⟨bt, hbt⟩ : ∃ bt, bt = t.lab := ⟨_, rfl⟩
  rw [← hbt] at HLight HEnds HSBag HSEnd HBAG k2 htl ⊢
  have HBT := Lib.hid hbt
  clear hx hc hset hv0 hP hSets hF hbag hb0 hN hS hbt
  go_enter Tryz.func59, Tryz.ntmps59
  go_wp2_with (at_builtin; refine wpList_appRN rfl _ _ rfl w0.heap.size _ L rfl (HN.out.below ((Below.refl _ _).alloc (Nat.le_refl _) _)) w.heap.size ⟨0, bt, [], bagS T bt⟩ _ _ _ _ _ _ _ rfl (row?_alloc_at _ _ _ _ rfl) (RdA.nil _ _) (by rw [HBAG.out]; exact ((HSET.out.old (HB0.out.alloc hsz0 _)).mono HN.out.old)) HSBag.out (by omega) (by simp; omega) ?_)
  intro v1 w1 hN1 hg1
  have hgo1 : NGo w (.slice va L.length vc) w1 v1 := (NGo.of_below ((Below.refl _ w).alloc (Nat.le_refl _) _)).trans hg1
  have hB1 : Below w0.heap.size w0 w1 := hgo1.below HB0.out HN.out.block hsz0
  obtain ⟨va1, vc1, rfl⟩ := hN1.sl
  have HN1 := Lib.hid hN1
  have HGO1 := Lib.hid hgo1
  have HB1 := Lib.hid hB1
  have hs1 := hB1.size
  clear hN1 hg1 hgo1 hB1 k2
  have hlen1 : ((L ++ [(⟨⟨0, bt, [], bagS T bt⟩, .slice none 0 0, .slice q (elemsI S).length cap⟩ : RNd)]).length) = L.length + 1 := by simp
  rw [hlen1] at HN1 HGO1 ⊢
  clear hlen1
  go_wp2_with fail
  have hO1 : OwnI w1.heap.size (w1.alloc (.cells #[.int .i64 (L.length : Int)] 3)) (.slice (some ⟨w1.heap.size, 0, none⟩) 1 1) [(L.length : Int)] := OwnI.one _ (Nat.le_refl _)
  obtain ⟨W2, hW2⟩ : ∃ W2, w1.alloc (.cells #[.int .i64 (L.length : Int)] 3) = W2 := ⟨_, rfl⟩
  have hb12 : Below w1.heap.size w1 W2 := by rw [← hW2]; exact (Below.refl _ _).alloc (Nat.le_refl _) _
  have hs2 : W2.heap.size = w1.heap.size + 1 := by rw [← hW2]; simp
  rw [hW2] at hO1 ⊢
  have HO1 := Lib.hid hO1
  have HB12 := Lib.hid hb12
  clear hW2 hO1 hb12
  refine (HLight.out W2 (HV0.out.below (HB1.out.trans (HB12.out.mono hs1)))).mono ?_
  rintro e w3 ⟨v3, rfl, hO3, hb3⟩
  obtain ⟨a3, c3, rfl⟩ := hO3.sl
  have hs3 := hb3.size
  have HB13 := Lib.hid (HB12.out.trans (hb3.mono (by omega)))
  have HO3 := Lib.hid (HO1.out.below hb3 (Nat.le_refl _))
  have HLI := Lib.hid hO3.rda
  have HLC := Lib.hid hO3.cap
  clear hO3 hb3 HO1 HB12 HLight
  rw [hlights] at HLI ⊢
  rw [show (labL []).length = 0 from rfl]
  clear hlights HLI HLC
  have HPA := Lib.hid (HO3.out.rda.mono (HN1.out.fresh))
  go_wp2_with fail
  obtain ⟨W4, hW4⟩ : ∃ W4, w3.alloc (.cells #[.int .i64 (bt : Int)] 3) = W4 := ⟨_, rfl⟩
  have hb4 : Below w3.heap.size w3 W4 := by rw [← hW4]; exact (Below.refl _ _).alloc (Nat.le_refl _) _
  have hs4 : W4.heap.size = w3.heap.size + 1 := by rw [← hW4]; simp
  have hl4 : RdL W4 (.slice (some ⟨w3.heap.size, 0, none⟩) 1 1) (labL [t]) := by
    have := (OwnI.one (B := 0) (w := w3) (bt : Int) (by omega)).rdl
    rw [hW4, HBT.out] at this
    exact this
  rw [hW4]
  have HB14 := Lib.hid (HB13.out.trans (hb4.mono (by have := HB13.out.size; omega)))
  have HO4 := Lib.hid (HPA.out.below hb4)
  clear hW4 hb4
  refine (HEnds.out W4 _ (HV0.out.below (HB1.out.trans (HB14.out.mono HB1.out.size))) hl4).mono ?_
  clear hl4
  rintro e w5 ⟨v5, rfl, hv5, hb5⟩
  have HB15 := Lib.hid (HB14.out.trans (hb5.mono HB14.out.size))
  have HO5 := Lib.hid (HO4.out.below hb5)
  have HV5 := Lib.hid hv5
  have hs14 := HB14.out.size
  have hs15 := HB15.out.size
  have hs05 := HB1.out.size
  obtain ⟨a5, c5, rfl⟩ := hv5.sl
  clear hb5 hv5 HO4 HEnds
  go_wp2_with (at_builtin; refine wpList_appRN rfl _ _ rfl w0.heap.size _ _ rfl (HN1.out.below (HB15.out.alloc hs15 _)) w5.heap.size ⟨2, bt, [L.length], adhS T bt ||| belS T t⟩ _ _ _ _ _ _ _ rfl (row?_alloc_at _ _ _ _ rfl) (HO5.out.below ((Below.refl _ _).alloc (Nat.le_refl _) _)) ((HV5.out.below ((Below.refl _ _).alloc (Nat.le_refl _) _)).mono fun k hk => HN1.out.fresh k (Nat.le_trans hs14 hk)) HSEnd.out (by simp; omega) (by simp; omega) ?_)
  intro v6 w6 hN6 hg6
  obtain ⟨va6, vc6, rfl⟩ := hN6.sl
  have HGO6 := Lib.hid ((NGo.of_below (HB15.out.alloc hs15 _)).trans hg6)
  have HN6 := Lib.hid hN6
  clear hN6 hg6
  go_wp2_with fail
  go_ret
  refine ⟨_, [⟨⟨0, bt, [], bagS T bt⟩, .slice none 0 0, .slice q (elemsI S).length cap⟩, ⟨⟨2, bt, [L.length], adhS T bt ||| belS T t⟩, .slice (some ⟨w1.heap.size, 0, none⟩) 1 1, .slice a5 (elemsI (adhS T bt ||| belS T t)).length c5⟩], rfl, ?_, rfl, HGO1.out.trans HGO6.out⟩
  exact HN6.out

set_option maxRecDepth 10000 in
set_option maxHeartbeats 2000000 in
theorem ritem1_any (T : List Bg) (hP : ParIn T) (hSets : ∀ x ∈ T, IsSet x.2) (hlen : T.length ≤ 65536) (t : Tr) (hF : Fits T.length (kidsTo T T.length) t) (hts : t.sz ≤ 65536) (w0 : World) (tv : Value) (hv0 : RefT w0 tv T) (hlights : t.lights ≠ []) (c : Ct) (hG : GrOk w0 tv t.lab t.lights c) (w : World) (v : Value) (L : List RNd) (hb0 : Below w0.heap.size w0 w) (hN : NSt w0.heap.size w v L) (hL : L.length + c.sz + 2 ≤ 100000) :
    Calls Tryz.prog 59 #[tv, .int .i64 (t.lab : Int), v] w fun e w' => ∃ v' M, e = .returned v' ∧ NSt w0.heap.size w' v' (L ++ M) ∧ M.map RNd.nd = (Ct.node 2 t.lab (adhS T t.lab ||| belS T t) [.node 0 t.lab (bagS T t.lab) [], c]).flat L.length ∧ NGo w v w' v' := by
  rw [flat_item1]
  have hll : 0 < (labL t.lights).length := by rw [labL_length]; exact List.length_pos_iff.2 hlights
  have hpc := c.sz_pos
  have HG := Lib.hid hG
  clear hlights hG
  obtain ⟨b, off, c0, p, S, q, cap, rfl, hx, hS, hc⟩ := hv0.at hF.lab
  have hbag : bagS T t.lab = S := by unfold bagS; rw [hx]
  obtain ⟨-, k2, -⟩ := hc w hb0
  have hset := (hc w0 (Below.refl _ _)).2.2.1.rda
  have HSET := Lib.hid hset
  have HV0 := Lib.hid hv0
  have HLight := Lib.hid fun w' (hw : RefT w' (.slice (some ⟨b, off, none⟩) T.length c0) T) => rlight_any T hlen t hF hts _ w' hw
  have HEnds := Lib.hid fun w' lv (hw : RefT w' (.slice (some ⟨b, off, none⟩) T.length c0) T) (hlv : RdL w' lv (labL [t])) => r46ends_any T hP hSets hlen [t] t t rfl rfl hF hF hts (by simp) _ lv w' hw hlv
  have HSBag : Hid (IsSet (bagS T t.lab)) := Lib.hid (by rw [hbag]; exact hS)
  have HSEnd : Hid (IsSet (adhS T t.lab ||| belS T t)) := Lib.hid (isSet_or (isSet_adhS hSets _) (isSet_belS hSets _))
  have HBAG := Lib.hid hbag
  have hsz0 := hb0.size
  have HB0 := Lib.hid hb0
  obtain ⟨va, vc, rfl⟩ := hN.sl
  have HN := Lib.hid hN
  have htl := hF.lab
  obtain ⟨bt, hbt⟩ : ∃ bt, bt = t.lab := ⟨_, rfl⟩
  rw [← hbt] at HLight HEnds HSBag HSEnd HBAG k2 htl ⊢
  have HBT := Lib.hid hbt
  clear hx hc hset hv0 hP hSets hF hbag hb0 hN hS hbt
  go_enter Tryz.func59, Tryz.ntmps59
  go_wp2_with (at_builtin; refine wpList_appRN rfl _ _ rfl w0.heap.size _ L rfl (HN.out.below ((Below.refl _ _).alloc (Nat.le_refl _) _)) w.heap.size ⟨0, bt, [], bagS T bt⟩ _ _ _ _ _ _ _ rfl (row?_alloc_at _ _ _ _ rfl) (RdA.nil _ _) (by rw [HBAG.out]; exact ((HSET.out.old (HB0.out.alloc hsz0 _)).mono HN.out.old)) HSBag.out (by omega) (by simp; omega) ?_)
  intro v1 w1 hN1 hg1
  have hgo1 : NGo w (.slice va L.length vc) w1 v1 := (NGo.of_below ((Below.refl _ w).alloc (Nat.le_refl _) _)).trans hg1
  have hB1 : Below w0.heap.size w0 w1 := hgo1.below HB0.out HN.out.block hsz0
  obtain ⟨va1, vc1, rfl⟩ := hN1.sl
  have HN1 := Lib.hid hN1
  have HGO1 := Lib.hid hgo1
  have HB1 := Lib.hid hB1
  have hs1 := hB1.size
  clear hN1 hg1 hgo1 hB1 k2
  have hlen1 : ((L ++ [(⟨⟨0, bt, [], bagS T bt⟩, .slice none 0 0, .slice q (elemsI S).length cap⟩ : RNd)]).length) = L.length + 1 := by simp
  rw [hlen1] at HN1 HGO1 ⊢
  clear hlen1
  go_wp2_with fail
  have hO1 : OwnI w1.heap.size (w1.alloc (.cells #[.int .i64 (L.length : Int)] 3)) (.slice (some ⟨w1.heap.size, 0, none⟩) 1 1) [(L.length : Int)] := OwnI.one _ (Nat.le_refl _)
  obtain ⟨W2, hW2⟩ : ∃ W2, w1.alloc (.cells #[.int .i64 (L.length : Int)] 3) = W2 := ⟨_, rfl⟩
  have hb12 : Below w1.heap.size w1 W2 := by rw [← hW2]; exact (Below.refl _ _).alloc (Nat.le_refl _) _
  have hs2 : W2.heap.size = w1.heap.size + 1 := by rw [← hW2]; simp
  rw [hW2] at hO1 ⊢
  have HO1 := Lib.hid hO1
  have HB12 := Lib.hid hb12
  clear hW2 hO1 hb12
  refine (HLight.out W2 (HV0.out.below (HB1.out.trans (HB12.out.mono hs1)))).mono ?_
  rintro e w3 ⟨v3, rfl, hO3, hb3⟩
  obtain ⟨a3, c3, rfl⟩ := hO3.sl
  have hs3 := hb3.size
  have HB13 := Lib.hid (HB12.out.trans (hb3.mono (by omega)))
  have HO3 := Lib.hid (HO1.out.below hb3 (Nat.le_refl _))
  have HLI := Lib.hid hO3.rda
  have HLC := Lib.hid hO3.cap
  clear hO3 hb3 HO1 HB12 HLight
  rw [← HBT.out] at HG
  obtain ⟨nl, hnl⟩ : ∃ nl, nl = (labL t.lights).length := ⟨_, rfl⟩
  rw [← hnl] at HLI HLC hll ⊢
  have hll2 : (0 : Int) < (nl : Int) := by omega
  have HLI2 := Lib.hid (HLI.out.mono fun k hk => HN1.out.fresh k (by omega))
  clear HLI hnl
  go_wp2_with fail
  refine (HG.out w3 _ _ _ (HB1.out.trans (HB13.out.mono hs1)) (HN1.out.below HB13.out) HLI2.out HLC.out (by simp; omega)).mono ?_
  rintro e w4 ⟨v4, M, rfl, hN4, hM, hgo4⟩
  have hMl : M.length = c.sz := by
    have := congrArg List.length hM
    rwa [List.length_map, Ct.flat_length] at this
  obtain ⟨va4, vc4, rfl⟩ := hN4.sl
  have hsz4 := hgo4.1.size
  have hB04 : Below w0.heap.size w0 w4 := hgo4.below (HB1.out.trans (HB13.out.mono hs1)) HN1.out.block (by omega)
  have hO4 : OwnI w1.heap.size w4 (.slice (some ⟨w1.heap.size, 0, none⟩) 1 1) [(L.length : Int)] := HO3.out.go fun k hk hkB => hgo4.1.block k hk (HN1.out.fresh k hkB)
  have hnn : (L ++ [(⟨⟨0, bt, [], bagS T bt⟩, .slice none 0 0, .slice q (elemsI S).length cap⟩ : RNd)] ++ M).length = L.length + 1 + c.sz := by simp [hMl]; omega
  rw [hnn] at hN4 hgo4 ⊢
  have HN4 := Lib.hid hN4
  have HGO4 := Lib.hid hgo4
  have HM := Lib.hid hM
  have HB04 := Lib.hid hB04
  have HO4 := Lib.hid hO4
  have hs04 := hB04.size
  have hMle : M.length ≤ c.sz := by omega
  clear hN4 hgo4 hM hB04 hO4 hMl HG HLI2 hnn
  go_wp2_with (at_builtin; refine wpList_appFull rfl 34 undI _ _ rfl w1.heap.size w1.heap.size [(L.length : Int)] rfl (HO4.out.alloc _) _ ((L.length + c.sz : Nat) : Int) _ rfl (by simp [go_sem]; omega) (by simp) (by simp; omega) ?_)
  intro vp w7 hO7 hb7
  have hs7 := hb7.size
  simp only [World.size_alloc] at hs7 hO7
  have HB47 := Lib.hid (((Below.refl w4.heap.size w4).alloc (Nat.le_refl _) _).trans (hb7.mono (by simp)))
  have hO7b : OwnI (w4.heap.size + 1) w7 vp (([L.length, L.length + c.sz] : List Nat).map fun i : Nat => (i : Int)) := by simpa using hO7
  have HPA := Lib.hid (hO7b.rda.mono (fun k hk => HN4.out.fresh k (by omega)))
  obtain ⟨ap, cp, rfl⟩ := hO7.sl
  clear hO7 hO7b hb7
  go_wp2_with fail
  obtain ⟨W4, hW4⟩ : ∃ W4, w7.alloc (.cells #[.int .i64 (bt : Int)] 3) = W4 := ⟨_, rfl⟩
  have hb4 : Below w7.heap.size w7 W4 := by rw [← hW4]; exact (Below.refl _ _).alloc (Nat.le_refl _) _
  have hs4 : W4.heap.size = w7.heap.size + 1 := by rw [← hW4]; simp
  have hl4 : RdL W4 (.slice (some ⟨w7.heap.size, 0, none⟩) 1 1) (labL [t]) := by
    have := (OwnI.one (B := 0) (w := w7) (bt : Int) (by omega)).rdl
    rw [hW4, HBT.out] at this
    exact this
  rw [hW4]
  have HB14 := Lib.hid (HB47.out.trans (hb4.mono (by have := HB47.out.size; omega)))
  have HO4 := Lib.hid (HPA.out.below hb4)
  clear hW4 hb4
  refine (HEnds.out W4 _ (HV0.out.below (HB04.out.trans (HB14.out.mono HB04.out.size))) hl4).mono ?_
  clear hl4
  rintro e w5 ⟨v5, rfl, hv5, hb5⟩
  have HB15 := Lib.hid (HB14.out.trans (hb5.mono HB14.out.size))
  have HO5 := Lib.hid (HO4.out.below hb5)
  have HV5 := Lib.hid hv5
  have hs14 := HB14.out.size
  have hs15 := HB15.out.size
  have hs05 := HB04.out.size
  obtain ⟨a5, c5, rfl⟩ := hv5.sl
  clear hb5 hv5 HO4 HEnds
  go_wp2_with (at_builtin; refine wpList_appRN rfl _ _ rfl w0.heap.size _ _ rfl (HN4.out.below (HB15.out.alloc hs15 _)) w5.heap.size ⟨2, bt, [L.length, L.length + c.sz], adhS T bt ||| belS T t⟩ _ _ _ _ _ _ _ rfl (row?_alloc_at _ _ _ _ rfl) (HO5.out.below ((Below.refl _ _).alloc (Nat.le_refl _) _)) ((HV5.out.below ((Below.refl _ _).alloc (Nat.le_refl _) _)).mono fun k hk => HN4.out.fresh k (Nat.le_trans hs14 hk)) HSEnd.out (by simp; omega) (by simp; omega) ?_)
  intro v6 w6 hN6 hg6
  obtain ⟨va6, vc6, rfl⟩ := hN6.sl
  have HGO6 := Lib.hid ((NGo.of_below (HB15.out.alloc hs15 _)).trans hg6)
  have HN6 := Lib.hid hN6
  clear hN6 hg6
  go_wp2_with fail
  go_ret
  refine ⟨_, ⟨⟨0, bt, [], bagS T bt⟩, .slice none 0 0, .slice q (elemsI S).length cap⟩ :: (M ++ [⟨⟨2, bt, [L.length, L.length + c.sz], adhS T bt ||| belS T t⟩, .slice ap 2 cp, .slice a5 (elemsI (adhS T bt ||| belS T t)).length c5⟩]), rfl, ?_, ?_, HGO1.out.trans ((NGo.of_below HB13.out).trans (HGO4.out.trans HGO6.out))⟩
  · exact HN6.out
  · have := HM.out
    simp only [List.length_append, List.length_cons, List.length_nil] at this
    simp [this]
end Go.Proofs.YtoiefehkfhkhbaaGreatDoor
namespace Go.Pal
open Go Go.RowKit
theorem RdA.take {A : Nat → Prop} {w : World} {a : Option Addr} {c : Nat} {ns : List Int} (h : RdA A w (.slice a ns.length c) ns) {k : Nat} (hk : k ≤ ns.length) : RdA A w (.slice a k c) (ns.take k) := by
  obtain ⟨a', c', hv, h⟩ := h
  simp only [Value.slice.injEq] at hv
  obtain ⟨rfl, -, rfl⟩ := hv
  refine ⟨a, c, by rw [List.length_take, Nat.min_eq_left hk], ?_⟩
  rcases h with h | ⟨b, off, ha, hb, hA, hc⟩
  · exact .inl (by rw [h]; simp)
  · exact .inr ⟨b, off, ha, hb, hA, fun i z hz => hc i z (by rw [List.getElem?_take] at hz; split at hz; exact hz; cases hz)⟩
theorem RdA.drop {A : Nat → Prop} {w : World} {b off c : Nat} {ns : List Int} (h : RdA A w (.slice (some ⟨b, off, none⟩) ns.length c) ns) {k c' : Nat} (hk : k < ns.length) : RdA A w (.slice (some ⟨b, off + k, none⟩) (ns.length - k) c') (ns.drop k) := by
  obtain ⟨a', c2, hv, h⟩ := h
  simp only [Value.slice.injEq] at hv
  obtain ⟨rfl, -, rfl⟩ := hv
  refine ⟨_, c', by rw [List.length_drop], ?_⟩
  rcases h with h | ⟨b', off', ha, hb, hA, hc⟩
  · rw [h] at hk; simp at hk
  · simp only [Option.some.injEq, Addr.mk.injEq] at ha
    obtain ⟨rfl, rfl, -⟩ := ha
    refine .inr ⟨b, off + k, rfl, hb, hA, fun i z hz => ?_⟩
    rw [List.getElem?_drop] at hz
    rw [Nat.add_assoc]
    exact hc (k + i) z hz
theorem labL_take (l : List Tr) (k : Nat) : labL (l.take k) = (labL l).take k := by unfold labL; rw [List.map_take]
theorem labL_drop (l : List Tr) (k : Nat) : labL (l.drop k) = (labL l).drop k := by unfold labL; rw [List.map_drop]
theorem sum_sz_le {l : List Tr} {n : Nat} (h : ∀ t ∈ l, t.sz ≤ n) : (l.map Tr.sz).sum ≤ l.length * n := by
  induction l with
  | nil => simp
  | cons x xs ih =>
    have h1 := h x (by simp)
    have h2 := ih fun t ht => h t (by simp [ht])
    simp only [List.map_cons, List.sum_cons, List.length_cons]
    rw [Nat.add_mul]
    omega
def natsL (l : List Nat) : List Int := l.map fun i : Nat => (i : Int)
end Go.Pal
namespace Go.Proofs.YtoiefehkfhkhbaaGreatDoor
open Go Go.RowKit Go.Pal

theorem OwnI.two {B : Nat} {w : World} (x y : Int) (hB : B ≤ w.heap.size) : OwnI B (w.alloc (.cells #[.int .i64 x, .int .i64 y] 3)) (.slice (some ⟨w.heap.size, 0, none⟩) 2 2) [x, y] :=
  ⟨rfl, .inr ⟨w.heap.size, 2, #[.int .i64 x, .int .i64 y], rfl, hB, heap_alloc_new _ _, Nat.le_refl _, by decide, rfl, rfl⟩⟩
/-- What is known of the subtrees in a list. -/
def TrsOk (T : List Bg) (l : List Tr) : Prop := ∀ t ∈ l, Fits T.length (kidsTo T T.length) t ∧ t.sz ≤ 65536

set_option maxRecDepth 10000 in
set_option maxHeartbeats 1000000 in
theorem rrake_any (T : List Bg) (hP : ParIn T) (hSets : ∀ x ∈ T, IsSet x.2) (hlen : T.length ≤ 65536) (w0 : World) (tv : Value) (hv0 : RefT w0 tv T) (b : Nat) (l : List Tr) (hl2 : 2 ≤ l.length) (hll : l.length ≤ 65536) (hl : TrsOk T l) (c d : Ct) (K : Nat) (hK : splitAtW (l.map Tr.sz) = K) (hc : GrOk w0 tv b (l.take K) c) (hd : GrOk w0 tv b (l.drop K) d) :
    GrOk w0 tv b l (.node 1 b (hasS T l) [c, d]) := by
  intro w v lv L hb0 hN hlv hcap hLc
  have hspl := splitAtW_pos (ws := l.map Tr.sz) (by simpa using hl2)
  rw [hK, List.length_map] at hspl
  have hcsz : (Ct.node 1 b (hasS T l) [c, d]).sz = c.sz + d.sz + 1 := by simp [Ct.sz, Ct.szs]
  have hflat : (Ct.node 1 b (hasS T l) [c, d]).flat L.length = c.flat L.length ++ (d.flat (L.length + c.sz) ++ [⟨1, b, [L.length + c.sz - 1, L.length + c.sz + d.sz - 1], hasS T l⟩]) := by simp [Ct.flat, Ct.flats, Ct.tops]
  rw [hflat]
  rw [hcsz] at hLc
  have hcp := c.sz_pos
  have hdp := d.sz_pos
  have hsums : (l.map Tr.sz).sum ≤ 1000000000000 := by
    have h1 := sum_sz_le (n := 65536) fun t ht => (hl t ht).2
    have h2 : l.length * 65536 ≤ 65536 * 65536 := Nat.mul_le_mul hll (Nat.le_refl _)
    omega
  have hlv2 := hlv
  obtain ⟨b1, off, cl, rfl, hbb⟩ : ∃ b1 off cl, lv = .slice (some ⟨b1, off, none⟩) l.length cl ∧ l.length ≤ cl := by
    obtain ⟨a, cl, h1, h2⟩ := hlv2
    rw [labL_length] at h1
    subst h1
    rcases h2 with h2 | ⟨b1, off, rfl, _⟩
    · have := congrArg List.length h2
      rw [labL_length] at this
      simp at this
      subst this
      simp at hl2
    · exact ⟨b1, off, cl, rfl, hcap⟩
  have HV0 := Lib.hid hv0
  have HLV := Lib.hid hlv
  have HB0 := Lib.hid hb0
  have HLRD := Lib.hid hlv.rdl
  have HC := Lib.hid hc
  have HD := Lib.hid hd
  have HKK := Lib.hid hK
  obtain ⟨va, vc, rfl⟩ := hN.sl
  have HN := Lib.hid hN
  have hsz0 := hb0.size
  have HSize := Lib.hid fun (t : Tr) (ht : t ∈ l) w' (hw : RefT w' tv T) => rsize_any T hlen t (hl t ht).1 (hl t ht).2 tv w' hw
  have HShared := Lib.hid fun w' lv (hw : RefT w' tv T) (hlv : RdL w' lv (labL l)) => r46shared_any T hP hSets l (fun t ht => (hl t ht).1.lab) hll tv lv w' hw hlv
  have HSet := Lib.hid (isSet_hasS hSets l)
  have hszs : ∀ t ∈ l, t.sz ≤ 65536 := fun t ht => (hl t ht).2
  have HSZS := Lib.hid hszs
  obtain ⟨ta, tc, rfl⟩ : ∃ a c, tv = .slice a T.length c := by obtain ⟨a, c, h, -⟩ := hv0; exact ⟨a, c, h⟩
  have hne : ((l.length : Int) == 1) = false := by simp; omega
  clear hP hSets hv0 hl hK hc hd hb0 hN hlv hlv2 hcsz hflat hszs hcap
  go_enter Tryz.func99, Tryz.ntmps99
  go_wp2_with fail
  go_loopw [9, 10] (fun v i wr => ∃ k : Nat, k ≤ l.length ∧ i = .int .i64 (k : Int) ∧ OwnI w.heap.size wr v (natsL ((l.take k).map Tr.sz)) ∧ Below w.heap.size w wr) (fun _ i _ => l.length - (intOf i).toNat)
  case atStart => exact ⟨0, by omega, rfl, World.ownsRow_nil _ _ _ _, Below.refl _ _⟩
  case round =>
    obtain ⟨k, hk, rfl, hO, hb⟩ := hrel
    have hsz := hb.size
    have HO := Lib.hid hO
    have HB1 := Lib.hid hb
    clear hO hb
    by_cases hlt : k < l.length
    · obtain ⟨b2, off2, c2, z, hv2, hz, hcc⟩ := HLRD.out.at (k := k) (by rw [labL_length]; exact hlt)
      rw [labL_length] at hv2
      simp only [Value.slice.injEq, Option.some.injEq, Addr.mk.injEq] at hv2
      obtain ⟨⟨rfl, rfl, -⟩, -, rfl⟩ := hv2
      obtain ⟨t, ht, rfl⟩ := labL_get hz
      have hcell := hcc wr HB1.out
      have hst : natsL ((l.take (k + 1)).map Tr.sz) = natsL ((l.take k).map Tr.sz) ++ [(t.sz : Int)] := by rw [List.take_add_one, ht]; simp [natsL]
      have HST := Lib.hid hst
      have hfl : (natsL ((l.take k).map Tr.sz)).length ≤ k := by simp [natsL]; omega
      have HT := Lib.hid (HSize.out t (List.mem_of_getElem? ht) wr ((HV0.out.below (HB0.out)).below HB1.out |> fun h => by first | exact h))
      obtain ⟨acc, hacc⟩ : ∃ acc, acc = natsL ((l.take k).map Tr.sz) := ⟨_, rfl⟩
      rw [← hacc] at HST HO hfl
      obtain ⟨s, hs⟩ : ∃ s : Nat, s = t.sz := ⟨_, rfl⟩
      rw [← hs] at HST HT
      clear hcc hz ht hst hacc hs
      go_wp2_with fail
      refine HT.out.mono ?_
      rintro e w2 ⟨rfl, hb2⟩
      have HO2 := Lib.hid (HO.out.below hb2 (Nat.le_refl _))
      have HB2 := Lib.hid (HB1.out.trans (hb2.mono hsz))
      have hs2 := HB2.out.size
      clear hb2 HT HO hcell
      go_wp2_with (at_builtin; refine wpList_appT rfl 34 undI _ _ rfl (w.heap.size) _ (acc) rfl (HO2.out.alloc _) _ ((s : Int)) _ rfl (by simp [go_sem]) (by first | omega | (simp; omega)) (by simp; omega) ?_)
      intro v' w3 hO3 hb3
      obtain ⟨q3, cap3, rfl⟩ := hO3.sl
      have HO3 := Lib.hid hO3
      have HB3 := Lib.hid ((HB2.out.alloc hs2 _).trans hb3)
      clear hO3 hb3
      go_wp2_with fail
      go_roundw
      case rel => exact ⟨k + 1, by omega, by go_num, by rw [HST.out]; exact HO3.out, HB3.out⟩
      case measure => simp [intOf]; omega
    · have hkn : k = l.length := by omega
      subst hkn
      rw [List.take_length] at HO
      have hsp := r46split_any (l.map Tr.sz) _ wr HO.out.rdl (by simpa using hl2) (by simpa using hll) hsums
      rw [HKK.out] at hsp
      have HSP := Lib.hid hsp
      obtain ⟨q1, c1, rfl⟩ := HO.out.sl
      clear hsp hlt hk
      go_wp2_with fail
      refine HSP.out.mono ?_
      rintro e w1 ⟨rfl, rfl⟩
      clear HSP
      go_wp2_with fail
      have hB01 : Below w0.heap.size w0 w1 := HB0.out.trans (HB1.out.mono hsz0)
      have hlvw : RdA (fun k => some k ≠ (Value.slice va L.length vc).ownBlock) w1 (.slice (some ⟨b1, off, none⟩) (labL l).length cl) (labL l) := by rw [labL_length]; exact HLV.out.below HB1.out
      have hN1 := HN.out.below HB1.out
      refine (HC.out w1 (.slice va L.length vc) (.slice (some ⟨b1, off, none⟩) K cl) L hB01 hN1 (by rw [labL_take]; exact hlvw.take (k := K) (by rw [labL_length]; omega)) (show K ≤ cl by omega) (by omega)).mono ?_
      rintro e w2 ⟨v2, M, rfl, hN2, hM, hgo2⟩
      have hMl : M.length = c.sz := by
        have := congrArg List.length hM
        rwa [List.length_map, Ct.flat_length] at this
      obtain ⟨va2, vc2, rfl⟩ := hN2.sl
      have hlv2 := hlvw.keep hgo2.1.size hgo2.keep
      have hB02 : Below w0.heap.size w0 w2 := hgo2.below hB01 hN1.block (by omega)
      have hs02 := hB02.size
      rw [show (L ++ M).length = L.length + c.sz by simp [hMl]] at hN2 hgo2 hlv2 ⊢
      have HN2 := Lib.hid hN2
      have HGO2 := Lib.hid ((NGo.of_below HB1.out).trans hgo2)
      have HM := Lib.hid hM
      have HB02 := Lib.hid hB02
      have HLV2 := Lib.hid hlv2
      have hMle : M.length ≤ c.sz := by omega
      have HML := Lib.hid hMl
      clear hN2 hgo2 hM hB02 hlv2 hB01 hlvw hN1 hMl HC HO HLV HLRD
      go_wp2_with fail
      have hlN : (L ++ M).length = L.length + c.sz := by rw [List.length_append, HML.out]
      refine (HD.out w2 (.slice va2 (L.length + c.sz) vc2) (.slice (some ⟨b1, off + K, none⟩) (l.length - K) (cl - K)) (L ++ M) HB02.out HN2.out (by have := HLV2.out.drop (k := K) (c' := cl - K) (by rw [labL_length]; omega); rw [labL_length] at this; rw [labL_drop]; exact this) (show l.length - K ≤ cl - K by omega) (by rw [hlN]; omega)).mono ?_
      rintro e w3 ⟨v3, M2, rfl, hN3, hM2, hgo3⟩
      rw [hlN] at hM2
      have hMl : M2.length = d.sz := by
        have := congrArg List.length hM2
        rwa [List.length_map, Ct.flat_length] at this
      obtain ⟨va3, vc3, rfl⟩ := hN3.sl
      have hlv3 := HLV2.out.keep hgo3.1.size hgo3.keep
      have hB03 : Below w0.heap.size w0 w3 := hgo3.below HB02.out HN2.out.block (by omega)
      have hs03 := hB03.size
      rw [show (L ++ M ++ M2).length = L.length + c.sz + d.sz by simp [hMl, HML.out]; omega] at hN3 hgo3 hlv3 ⊢
      have HN3 := Lib.hid hN3
      have HGO3 := Lib.hid (HGO2.out.trans hgo3)
      have HM2 := Lib.hid hM2
      have HB03 := Lib.hid hB03
      have HLV3 := Lib.hid hlv3
      have hMle2 : M2.length ≤ d.sz := by omega
      clear hN3 hgo3 hM2 hB03 hlv3 hlN hMl HML HD HLV2 HN2 HGO2 HB02
      go_wp2_with fail
      have hpv := (OwnI.two (B := w3.heap.size) (w := w3) ((L.length : Int) + (c.sz : Int) - 1) ((L.length : Int) + (c.sz : Int) + (d.sz : Int) - 1) (Nat.le_refl _)).rda
      rw [show [(L.length : Int) + (c.sz : Int) - 1, (L.length : Int) + (c.sz : Int) + (d.sz : Int) - 1] = (([L.length + c.sz - 1, L.length + c.sz + d.sz - 1] : List Nat).map fun i : Nat => (i : Int)) by simp; omega] at hpv
      obtain ⟨W4, hW4⟩ : ∃ W4, w3.alloc (.cells #[.int .i64 ((L.length : Int) + (c.sz : Int) - 1), .int .i64 ((L.length : Int) + (c.sz : Int) + (d.sz : Int) - 1)] 3) = W4 := ⟨_, rfl⟩
      have hb4 : Below w3.heap.size w3 W4 := by rw [← hW4]; exact (Below.refl _ _).alloc (Nat.le_refl _) _
      have hs4 : W4.heap.size = w3.heap.size + 1 := by rw [← hW4]; simp
      rw [hW4] at hpv ⊢
      have HB34 := Lib.hid hb4
      have HPV4 := Lib.hid hpv
      have hlr : RdL W4 (.slice (some ⟨b1, off, none⟩) l.length cl) (labL l) := by have := HLV3.out.rdl.below hb4; rw [labL_length] at this; exact this
      clear hW4 hb4 hpv
      refine (HShared.out W4 _ (HV0.out.below (HB03.out.trans (HB34.out.mono hs03))) hlr).mono ?_
      clear hlr
      rintro e w5 ⟨v5, rfl, hv5, hb5⟩
      have HPV := Lib.hid (HPV4.out.below hb5)
      have HV5 := Lib.hid hv5
      have HB35 := Lib.hid (HB34.out.trans (hb5.mono (by omega)))
      have hs35 := HB35.out.size
      obtain ⟨a5, c5, rfl⟩ := hv5.sl
      clear hb5 hv5 HB34 HPV4 HShared HLV3
      go_wp2_with (at_builtin; refine wpList_appRN rfl _ _ rfl w0.heap.size _ (L ++ M ++ M2) rfl (HN3.out.below (HB35.out.alloc (by omega) _)) _ ⟨1, b, [L.length + c.sz - 1, L.length + c.sz + d.sz - 1], hasS T l⟩ _ _ _ _ _ _ _ rfl (row?_alloc_at _ _ _ _ rfl) ((HPV.out.below ((Below.refl _ _).alloc (Nat.le_refl _) _)).mono fun k hk => HN3.out.fresh k hk) ((HV5.out.below ((Below.refl _ _).alloc (Nat.le_refl _) _)).mono fun k hk => HN3.out.fresh k (by omega)) HSet.out (by simp; omega) (by first | omega | (simp; omega)) ?_)
      intro v6 w6 hN6 hg6
      obtain ⟨va6, vc6, rfl⟩ := hN6.sl
      have HGO6 := Lib.hid (HGO3.out.trans ((NGo.of_below (HB35.out.alloc (by omega) _)).trans hg6))
      have HN6 := Lib.hid hN6
      clear hN6 hg6
      go_wp2_with fail
      go_ret
      refine ⟨_, M ++ M2 ++ [⟨⟨1, b, [L.length + c.sz - 1, L.length + c.sz + d.sz - 1], hasS T l⟩, .slice (some ⟨w3.heap.size, 0, none⟩) 2 2, .slice a5 (elemsI (hasS T l)).length c5⟩], rfl, ?_, ?_, HGO6.out⟩
      · have := HN6.out
        simp only [List.append_assoc] at this ⊢
        exact this
      · rw [List.map_append, List.map_append, HM.out, HM2.out]
        simp only [List.append_assoc]
        rfl
end Go.Proofs.YtoiefehkfhkhbaaGreatDoor
