/-
  Walks: slices.AppendSeq and slices.Collect over a set's elements, Elements, indices.
-/
import Derived.Test.YtoiefehkfhkhbaaGreatDoorQMB
import Derived.Test.YtoiefehkfhkhbaaGreatDoorQPlain
import Derived.Test.YtoiefehkfhkhbaaGreatDoorQTree3
import Derived.Test.YtoiefehkfhkhbaaGreatDoorQAll
import Derived.Test.YtoiefehkfhkhbaaGreatDoorQShelfM
import Derived.Test.YtoiefehkfhkhbaaGreatDoorQRoR
import Derived.OwnWalkIn
import Derived.TacticsInMore
namespace Go.Pal
open Go
theorem RdL.sl {w : World} {v : Value} {ns : List Int} (h : RdL w v ns) : ∃ a c, v = .slice a ns.length c := by
  obtain ⟨a, c, h, -⟩ := h
  exact ⟨a, c, h⟩
theorem RdL.lt {w : World} {b off c n : Nat} {ns : List Int} (h : RdL w (.slice (some ⟨b, off, none⟩) n c) ns) (hne : 0 < ns.length) : b < w.heap.size := by
  obtain ⟨a, c', h1, h2⟩ := h
  simp only [Value.slice.injEq] at h1
  obtain ⟨rfl, -, -⟩ := h1
  rcases h2 with h2 | ⟨b', off', h3, h4, _⟩
  · rw [h2] at hne; simp at hne
  · simp only [Option.some.injEq, Addr.mk.injEq] at h3
    obtain ⟨rfl, -, -⟩ := h3
    exact h4
end Go.Pal
namespace Go.Proofs.YtoiefehkfhkhbaaGreatDoor
open Go Go.RowKit Go.Pal
attribute [local go_sem] Oper.semAt_some

theorem wpListIn_appT2 {F : Fence} {n : Nat} {ops : Array Oper} {rest : List Oper} {o : Oper} {a : Act} {Q : Exit → Act → World → Prop} {w : World} (hgd : o.guard = none) (st : TypeId) (hst : Tryz.prog.underlying st = some (.slice 3)) (s x : Operand)
    (ho : o.op = .call { callee := .builtin .append, args := #[s, x], argTypes := #[st, st] }) (B : Nat) (v : Value) (ns : List Int) (hs : a.eval s = v) (hown : OwnI B w v ns)
    (g : Nat) (z : Int) (c : Nat) (hx : a.eval x = .slice (some ⟨g, 0, none⟩) 1 c) (hg : w.cell? ⟨g, 0, none⟩ = some (.int .i64 z)) (hlen : ns.length < 1000000) (hB : B ≤ w.heap.size)
    (h : ∀ v' w', OwnI B w' v' (ns ++ [z]) → Below B w w' → w.grownBy w' v.ownBlock → (v'.ownBlock = v.ownBlock ∨ v'.ownBlock = some w.heap.size) → wpListIn F n Tryz.prog ops Q rest (a.put o.dst v') w') : wpListIn F n Tryz.prog ops Q (o :: rest) a w := by
  obtain ⟨i0, hi, hz0, hz1, hz2⟩ := info_parts infoInt
  obtain ⟨v', w', hr, h2, h3, h4⟩ := run_append_own2 (P := Tryz.prog) w B st o.type 3 i0 (.int .i64 0) 1 8 hst hi hz0 hz1 hz2 rfl (by decide) v ns.length (ns.map (Value.int .i64)) hown ⟨g, 0, none⟩ 1 c (by decide) [.int .i64 z] rfl
    (fun j u hj => by
      cases j with
      | zero => simp at hj; subst hj; simpa [Addr.add] using hg
      | succ j => simp at hj) (fun u hu => by simp at hu; subst hu; rfl) (by unfold maxLen; omega) (by omega) hB
  refine wpListIn_plain hgd fun K hK' => ?_
  unfold Oper.wpIn
  refine ⟨?_, ?_⟩
  · simp [Oper.about, ho, resolve, Target.leads, Sem.run_pure]
  · rw [Oper.semAt_plain F _ _ (by rw [ho]; intro c hc'; cases hc')]
    simp [execOp, ho, resolve, invoke, builtin, hs, hx, hr, Result.andThen]
    refine hK' _ _ (h v' w' ?_ ((Below.refl B w).grown h3 hB hown.block) h3 h4)
    unfold OwnI
    simpa using h2

set_option maxRecDepth 10000 in
set_option maxHeartbeats 1000000 in
theorem appendSeq_any (S b : Nat) (hS : IsSet S) (w : World) (hb : row? w b = some (words S)) (hT : TabOk w) (hg : 0 < w.heap.size) :
    Calls Tryz.prog 102 #[.slice none 0 0, .func (.func 80) #[] #[.pointer (some ⟨b, 0, none⟩)]] w fun e w' => ∃ v', e = .returned v' ∧ OwnI w.heap.size w' v' (elemsI S) ∧ Below w.heap.size w w' := by
  have hbl := row?_lt hb
  have HBr := Lib.hid hb
  have HTab := Lib.hid hT
  clear hb hT
  refine calls_of_wp_marks Tryz.func102 rfl ?_
  simp only [Tryz.ntmps102, List.size_toArray, List.length_cons, List.length_nil, Nat.reduceAdd, Nat.reduceSub, Array.replicate_succ, Array.replicate_zero, List.push_toArray, List.append_toArray, List.nil_append, List.cons_append]
  go_wp2_with fail
  obtain ⟨W0, hW0⟩ : ∃ W0, W0 = w.alloc (Obj.cells #[Value.slice none 0 0] 34) := ⟨_, rfl⟩
  rw [← hW0]
  have hs0 : W0.heap.size = w.heap.size + 1 := by rw [hW0]; simp
  have hB0 : Below w.heap.size w W0 := by rw [hW0]; exact (Below.refl _ w).alloc (Nat.le_refl _) _
  have hr0 : row? W0 w.heap.size = some #[Value.slice none 0 0] := by rw [hW0]; exact row?_alloc_at _ _ _ _ rfl
  have HB0 := Lib.hid hB0
  have HR0 := Lib.hid hr0
  have hb0 := (row?_below hB0 hbl).trans HBr.out
  have HBr0 := Lib.hid hb0
  have HT0 := Lib.hid (HTab.out.below hB0 hg)
  clear hW0 hB0 hr0 hb0 HBr HTab
  refine (wpIn_wide (n := 0)).1 ?_
  refine wpIn_range_set 0 5 rfl (fun args w => by simp [go_sem]) (by omega) (enc := fun n : Nat => .int .i64 (n : Int)) (xs := elems S)
    (fun W hW _ => all1_iterates b S hS W ((row?_below hW (by omega)).trans HBr0.out) (HT0.out.below hW (by omega)) (by have := hW.size; omega))
    (fun M pre W => ∃ v, row? W w.heap.size = some #[v] ∧ OwnI M W v (pre.map fun i : Nat => (i : Int)) ∧ Same (fun k => k < w.heap.size) W0 W) ?_ ?_ ?_ ?_ ?_
  · rintro M pre W W' hM hMW ⟨v, hr, hO, hs⟩ hsame
    exact ⟨v, (row?_congr (hsame.block _ (row?_lt hr) (.inl (by omega)))).trans hr, hO.same fun g hgv => hsame.block g (hO.lt g hgv) (.inr (hO.block g hgv)), hs.trans (hsame.mono fun k _ h => .inl (by omega))⟩
  · intro M W _ _ hb
    exact ⟨_, (row?_below hb (by omega)).trans HR0.out, OwnI.nil _ _, (Same.of_below hb).mono fun k _ h => by omega⟩
  · intro l x W K hK
    gi_wp2
    exact hK
  · rintro l M pre x W hM hMW ⟨v, hr, hO, hs⟩ ⟨r, hr0⟩
    have hlen : (pre.map fun i : Nat => (i : Int)).length ≤ 1024 := by
      have := elems_length S
      rw [hr0] at this
      simp at this ⊢
      omega
    have k1 := cell?_row (i := 0) hr
    have hfz := frozen?_row (i := 0) hr
    simp at k1
    obtain ⟨q, c, rfl⟩ := hO.sl
    have HR := Lib.hid hr
    have HO := Lib.hid hO
    have HS := Lib.hid hs
    obtain ⟨acc, hacc⟩ : ∃ acc, acc = pre.map fun i : Nat => (i : Int) := ⟨_, rfl⟩
    rw [← hacc] at HO HR hlen k1
    have HAC := Lib.hid hacc
    clear hr hO hs hr0 hacc
    gi_wp2_with (gi_at_builtin; refine wpListIn_appT2 rfl 34 undI _ _ rfl M _ acc rfl (HO.out.alloc _) _ (x : Int) _ rfl (by simp [go_sem]) (by omega) (by simp; omega) ?_)
    intro v2 w2 hO2 hb2 hg2 hl2
    have hr2 : row? w2 w.heap.size = some #[.slice q acc.length c] := (row?_congr ((hg2.block w.heap.size (by simp; omega) (fun e => by have := HO.out.block _ e.symm; omega)).trans (Below.heap_alloc _ _ _ (by omega)))).trans HR.out
    have hfz2 := frozen?_row (i := 0) hr2
    have hlt2 := row?_lt hr2
    have hs2 : W.heap.size ≤ w2.heap.size := by have := hb2.size; simp at this; omega
    have hk2 : ∀ k, k < W.heap.size → k < M → w2.heap[k]? = W.heap[k]? := fun k hk hkM => (hg2.block k (by simp; omega) (fun e => by have := HO.out.block _ e.symm; omega)).trans (Below.heap_alloc _ _ _ hk)
    have HK2 := Lib.hid hk2
    have HG2 := Lib.hid hg2
    have HO2 := Lib.hid hO2
    have HR2 := Lib.hid hr2
    have HB2 := Lib.hid hb2
    have k2 := cell?_row (i := 0) hr2
    simp at k2
    obtain ⟨q2, c2, rfl⟩ := hO2.sl
    clear hO2 hb2 hg2 hl2 hr2 hk2 k1 hfz
    gi_wp2_with fail
    refine ⟨⟨_, ⟨_, HR2.out, rfl⟩, ?_, ?_⟩, ?_⟩
    · rw [← HAC.out]
      have hO2 := HO2.out
      rw [List.length_append] at hO2
      exact hO2.same fun g hg' => heap_setCell_other _ _ g _ (by have := hO2.block g hg'; show g ≠ w.heap.size; omega)
    · refine HS.out.trans ⟨HB2.out.os, HB2.out.tape, HB2.out.output, by simp; omega, fun k hk hk' => ?_⟩
      rw [heap_setCell_other _ _ k _ (by show k ≠ w.heap.size; omega)]
      exact HK2.out k hk (by omega)
    · refine ⟨HB2.out.os, HB2.out.tape, HB2.out.output, by simp; omega, fun k hk hk' => ?_⟩
      rw [heap_setCell_other _ _ k _ (by show k ≠ w.heap.size; omega)]
      exact HK2.out k hk (by omega)
  · rintro D M W hD hDM hMW ⟨v, hr, hO, hs⟩ hK
    have k1 := cell?_row (i := 0) hr
    simp at k1
    have HO := Lib.hid hO
    have HS := Lib.hid hs
    have HK := Lib.hid hK
    clear hr hO hs hK
    go_wp2_with fail
    refine ⟨by simp, .inl ⟨_, _, rfl, run_takeDeferred HK.out, ?_⟩⟩
    have hp : Same (fun k => k ≠ D) W (W.putObj D (.deferred none)) := Same.putObj _ W D _ (by simp)
    refine ⟨_, results_tmp rfl _ _ _, v, rfl, ?_, ?_⟩
    · refine OwnI.lower (HO.out.same fun g hg' => hp.block g (HO.out.lt g hg') ?_) (by omega)
      have := HO.out.block g hg'
      omega
    · exact (HB0.out.trans (HS.out.below (by omega) fun k hk => hk)).trans (hp.below (by omega) fun k hk => by omega)

theorem collect_any (S b : Nat) (hS : IsSet S) (w : World) (hb : row? w b = some (words S)) (hT : TabOk w) (hg : 0 < w.heap.size) :
    Calls Tryz.prog 64 #[.func (.func 80) #[] #[.pointer (some ⟨b, 0, none⟩)]] w fun e w' => ∃ v', e = .returned v' ∧ OwnI w.heap.size w' v' (elemsI S) ∧ Below w.heap.size w w' := by
  have HA := Lib.hid (appendSeq_any S b hS w hb hT hg)
  clear hb hT
  go_enter Tryz.func64, Tryz.ntmps64
  go_wp2_with fail
  refine HA.out.mono ?_
  rintro e w1 ⟨v1, rfl, hO, hb⟩
  have HO := Lib.hid hO
  have HB := Lib.hid hb
  clear hO hb
  go_wp2_with fail
  go_ret
  exact ⟨_, rfl, HO.out, HB.out⟩

set_option maxRecDepth 10000 in
theorem elements_any (S : Nat) (hS : IsSet S) (w : World) (hT : TabOk w) (hg : 0 < w.heap.size) :
    Calls Tryz.prog 27 #[.agg (words S)] w fun e w' => ∃ v', e = .returned v' ∧ OwnI w.heap.size w' v' (elemsI S) ∧ Below w.heap.size w w' := by
  have HTab := Lib.hid hT
  clear hT
  go_enter Tryz.func27, Tryz.ntmps27
  go_wp2_with fail
  obtain ⟨W0, hW0⟩ : ∃ W0, W0 = w.alloc (Obj.cells (words S) 59) := ⟨_, rfl⟩
  have hB0 : Below w.heap.size w W0 := by rw [hW0]; exact (Below.refl _ w).alloc (Nat.le_refl _) _
  rw [← hW0]
  have HB0 := Lib.hid hB0
  clear hW0 hB0
  refine (all_any S W0).mono ?_
  rintro e w1 ⟨rfl, rfl⟩
  have hs0 := HB0.out.size
  have hb1 : Below W0.heap.size W0 (W0.alloc (.cells (words S) 59)) := (Below.refl _ _).alloc (Nat.le_refl _) _
  have HB1 := Lib.hid (HB0.out.trans (hb1.mono hs0))
  have hT1 := HTab.out.below HB1.out hg
  have HA := Lib.hid (collect_any S W0.heap.size hS _ (row?_alloc_at _ _ _ _ rfl) hT1 (by have := HB0.out.size; rw [World.size_alloc]; omega))
  clear hb1 hT1
  go_wp2_with fail
  refine HA.out.mono ?_
  rintro e w2 ⟨v2, rfl, hO, hb⟩
  have HO := Lib.hid hO
  have HB := Lib.hid hb
  clear hO hb
  go_wp2_with fail
  go_ret
  exact ⟨_, rfl, HO.out.lower HB1.out.size, HB1.out.trans (HB.out.mono HB1.out.size)⟩

/-- slices.BinarySearch of an element of a sorted list. -/
theorem search_any (l : List Int) (v : Value) (x : Int) (w : World) (hv : RdL w v l) (hs : l.Pairwise (· < ·)) (hx : x ∈ l) (hlen : l.length ≤ 1000000) :
    Calls Tryz.prog 65 #[v, .int .i64 x] w fun e w' => e = .returned (.tuple #[.int .i64 (cntI l x), .bool true]) ∧ Below w.heap.size w w' := by
  obtain ⟨a, c, rfl, h⟩ := hv
  rcases h with h | ⟨b, off, rfl, hbB, hc⟩
  · rw [h] at hx; simp at hx
  refine (AnyG.slices_BinarySearch_int Tryz.laysBinarySearch b off l.length c l x w (Nat.le_refl _) (by omega) (fun j hj => ?_) ?_).mono ?_
  · exact hc j _ (by rw [List.getD_eq_getElem?_getD, List.getElem?_eq_getElem hj]; rfl)
  · rw [List.take_length]
    exact hs.imp fun h => by omega
  · rintro e w' ⟨rfl, q, rfl⟩
    rw [List.take_length]
    refine ⟨?_, (⟨rfl, rfl, rfl, Nat.le_refl _, fun _ _ => rfl⟩ : Below w.heap.size w (w.drewN q))⟩
    have : l.contains x = true := by simpa using hx
    rw [this]
    rfl

set_option maxRecDepth 10000 in
set_option maxHeartbeats 1000000 in
theorem indices_any (l : List Int) (v : Value) (S : Nat) (hS : IsSet S) (w : World) (hv : RdL w v l) (hs : l.Pairwise (· < ·)) (hin : ∀ x ∈ elemsI S, x ∈ l) (hlen : l.length ≤ 1000000) (hT : TabOk w) (hg : 0 < w.heap.size) :
    Calls Tryz.prog 28 #[v, .agg (words S)] w fun e w' => ∃ v', e = .returned v' ∧ OwnI w.heap.size w' v' ((elemsI S).map (cntI l)) ∧ Below w.heap.size w w' := by
  have HTab := Lib.hid hT
  have HV := Lib.hid hv
  have HIN := Lib.hid hin
  have HSearch := Lib.hid fun (x : Int) (hx : x ∈ l) w' (hv' : RdL w' v l) => search_any l v x w' hv' hs hx hlen
  obtain ⟨a, c, rfl⟩ : ∃ a c, v = .slice a l.length c := by obtain ⟨a, c, h, -⟩ := hv; exact ⟨a, c, h⟩
  clear hT hv hin hs
  refine calls_of_wp_marks Tryz.func28 rfl ?_
  simp only [Tryz.ntmps28, List.size_toArray, List.length_cons, List.length_nil, Nat.reduceAdd, Nat.reduceSub, Array.replicate_succ, Array.replicate_zero, List.push_toArray, List.append_toArray, List.nil_append, List.cons_append]
  go_wp2_with fail
  obtain ⟨W0, hW0⟩ : ∃ W0, W0 = ((w.alloc (Obj.cells #[Value.slice a l.length c] 34)).alloc (Obj.cells (words S) 59)).alloc (Obj.cells #[Value.slice none 0 0] 34) := ⟨_, rfl⟩
  rw [← hW0]
  have hs0 : W0.heap.size = w.heap.size + 3 := by rw [hW0]; simp
  have hB0 : Below w.heap.size w W0 := by rw [hW0]; exact (((Below.refl _ w).alloc (Nat.le_refl _) _).alloc (by simp) _).alloc (by simp; omega) _
  have hr0 : row? W0 w.heap.size = some #[Value.slice a l.length c] := by rw [hW0]; exact (row?_alloc_past _ _ _ (by simp; omega)).trans ((row?_alloc_past _ _ _ (by simp)).trans (row?_alloc_at _ _ _ _ rfl))
  have hr2 : row? W0 (w.heap.size + 2) = some #[Value.slice none 0 0] := by rw [hW0]; exact row?_alloc_at _ _ _ _ (by simp)
  have HB0 := Lib.hid hB0
  have HR0 := Lib.hid hr0
  have HR2 := Lib.hid hr2
  clear hW0 hB0 hr0 hr2
  refine (all_any S W0).mono ?_
  rintro e w1 ⟨rfl, hw1⟩
  have hb1 : Below W0.heap.size W0 w1 := by rw [← hw1]; exact (Below.refl _ _).alloc (Nat.le_refl _) _
  have hs1 : w1.heap.size = w.heap.size + 4 := by rw [← hw1]; simp; omega
  have hE1 : row? w1 W0.heap.size = some (words S) := by rw [← hw1]; exact row?_alloc_at _ _ _ _ rfl
  have hr0 := (row?_below hb1 (by omega)).trans HR0.out
  have hr2 := (row?_below hb1 (by omega)).trans HR2.out
  have HB1 := Lib.hid (HB0.out.trans (hb1.mono (by omega)))
  have HT1 := Lib.hid (HTab.out.below HB1.out hg)
  have HE1 := Lib.hid hE1
  have HR0 := Lib.hid hr0
  have HR2 := Lib.hid hr2
  rw [hs0] at HE1 ⊢
  clear hw1 hb1 hE1 hr0 hr2 HTab HB0 hs0
  go_wp2_with fail
  rw [show w.heap.size + 1 + 1 = w.heap.size + 2 from rfl]
  refine (wpIn_wide (n := 0)).1 ?_
  refine wpIn_range_set 0 6 rfl (fun args w => by simp [go_sem]) (by omega) (enc := fun n : Nat => .int .i64 (n : Int)) (xs := elems S)
    (fun W hW _ => all1_iterates (w.heap.size + 3) S hS W ((row?_below hW (by omega)).trans HE1.out) (HT1.out.below hW (by omega)) (by have := hW.size; omega))
    (fun M pre W => ∃ v, row? W (w.heap.size + 2) = some #[v] ∧ OwnI M W v (pre.map fun i : Nat => cntI l (i : Int)) ∧ Same (fun k => k < w.heap.size + 2) w1 W) ?_ ?_ ?_ ?_ ?_
  · rintro M pre W W' hM hMW ⟨v, hr, hO, hs⟩ hsame
    exact ⟨v, (row?_congr (hsame.block _ (row?_lt hr) (.inl (by omega)))).trans hr, hO.same fun g hgv => hsame.block g (hO.lt g hgv) (.inr (hO.block g hgv)), hs.trans (hsame.mono fun k _ h => .inl (by omega))⟩
  · intro M W _ _ hb
    exact ⟨_, (row?_below hb (by omega)).trans HR2.out, OwnI.nil _ _, (Same.of_below hb).mono fun k _ h => by omega⟩
  · intro l x W K hK
    gi_wp2
    exact hK
  · rintro l0 M pre x W hM hMW ⟨v, hr, hO, hs⟩ ⟨r, hr0⟩
    have hxl : (x : Int) ∈ l := HIN.out _ (by unfold elemsI; rw [hr0]; simp)
    have hlen : (pre.map fun i : Nat => cntI l (i : Int)).length ≤ 1024 := by
      have := elems_length S
      rw [hr0] at this
      simp at this ⊢
      omega
    have hB1 := HB1.out
    have hrd := HV.out.below (hB1.trans (hs.below (by omega) fun k hk => by omega))
    have k0 := cell?_row (i := 0) ((row?_congr (hs.block _ (by omega) (by omega))).trans HR0.out)
    simp at k0
    have hSr := HSearch.out (x : Int) hxl W hrd
    obtain ⟨q, cq, rfl⟩ := hO.sl
    have HR := Lib.hid hr
    have HO := Lib.hid hO
    have HS := Lib.hid hs
    have HSr := Lib.hid hSr
    obtain ⟨acc, hacc⟩ : ∃ acc, acc = pre.map fun i : Nat => cntI l (i : Int) := ⟨_, rfl⟩
    rw [← hacc] at HO HR hlen
    have HAC := Lib.hid hacc
    clear hr hO hs hr0 hacc hrd hSr hB1 hxl
    gi_wp2_with fail
    refine ⟨trivial, rfl, (callsIn_wide.2 HSr.out).mono ?_⟩
    rintro e wa ⟨rfl, hba⟩
    have hsa := hba.size
    have k1 := cell?_row (i := 0) ((row?_below hba (by omega)).trans HR.out)
    simp at k1
    have HRa := Lib.hid ((row?_below hba (by omega)).trans HR.out)
    have HOa := Lib.hid (HO.out.below hba (Nat.le_refl _))
    have HBa := Lib.hid hba
    clear hba k0 HSr HO HR
    gi_wp2_with (gi_at_builtin; refine wpListIn_appT2 rfl 34 undI _ _ rfl M _ acc rfl (HOa.out.alloc _) _ (cntI l (x : Int)) _ rfl (by simp [go_sem]) (by omega) (by simp; omega) ?_)
    intro v2 w2 hO2 hb2 hg2 hl2
    have hr2 : row? w2 (w.heap.size + 2) = some #[.slice q acc.length cq] := (row?_congr ((hg2.block (w.heap.size + 2) (by simp; omega) (fun e => by have := HOa.out.block _ e.symm; omega)).trans (Below.heap_alloc _ _ _ (by omega)))).trans HRa.out
    have hfz2 := frozen?_row (i := 0) hr2
    have hlt2 := row?_lt hr2
    have hs2 : wa.heap.size ≤ w2.heap.size := by have := hb2.size; simp at this; omega
    have hk2 : ∀ k, k < W.heap.size → k < M → w2.heap[k]? = W.heap[k]? := fun k hk hkM => ((hg2.block k (by simp; omega) (fun e => by have := HOa.out.block _ e.symm; omega)).trans (Below.heap_alloc _ _ _ (by omega))).trans (HBa.out.block k hk)
    have HK2 := Lib.hid hk2
    have HG2 := Lib.hid hg2
    have HO2 := Lib.hid hO2
    have HR2' := Lib.hid hr2
    have HB2 := Lib.hid hb2
    have k2 := cell?_row (i := 0) hr2
    simp at k2
    obtain ⟨q2, c2, rfl⟩ := hO2.sl
    clear hO2 hb2 hg2 hl2 hr2 hk2 k1
    gi_wp2_with fail
    refine ⟨⟨_, ⟨_, HR2'.out, rfl⟩, ?_, ?_⟩, ?_⟩
    · rw [← HAC.out]
      have hO2 := HO2.out
      rw [List.length_append] at hO2
      exact hO2.same fun g hg' => heap_setCell_other _ _ g _ (by have := hO2.block g hg'; show g ≠ w.heap.size + 2; omega)
    · refine HS.out.trans ⟨HB2.out.os.trans HBa.out.os, HB2.out.tape.trans HBa.out.tape, HB2.out.output.trans HBa.out.output, by simp; omega, fun k hk hk' => ?_⟩
      rw [heap_setCell_other _ _ k _ (by show k ≠ w.heap.size + 2; omega)]
      exact HK2.out k hk (by omega)
    · refine ⟨HB2.out.os.trans HBa.out.os, HB2.out.tape.trans HBa.out.tape, HB2.out.output.trans HBa.out.output, by simp; omega, fun k hk hk' => ?_⟩
      rw [heap_setCell_other _ _ k _ (by show k ≠ w.heap.size + 2; omega)]
      exact HK2.out k hk (by omega)
  · rintro D M W hD hDM hMW ⟨v, hr, hO, hs⟩ hK
    have k1 := cell?_row (i := 0) hr
    simp at k1
    have HO := Lib.hid hO
    have HS := Lib.hid hs
    have HK := Lib.hid hK
    clear hr hO hs hK
    go_wp2_with fail
    refine ⟨by simp, .inl ⟨_, _, rfl, run_takeDeferred HK.out, ?_⟩⟩
    have hp : Same (fun k => k ≠ D) W (W.putObj D (.deferred none)) := Same.putObj _ W D _ (by simp)
    refine ⟨_, results_tmp rfl _ _ _, v, rfl, ?_, ?_⟩
    · rw [show (elemsI S).map (cntI l) = (elems S).map fun i : Nat => cntI l (i : Int) by unfold elemsI; rw [List.map_map]; rfl]
      refine OwnI.lower (HO.out.same fun g hg' => hp.block g (HO.out.lt g hg') ?_) (by omega)
      have := HO.out.block g hg'
      omega
    · exact (HB1.out.trans (HS.out.below (by omega) fun k hk => by omega)).trans (hp.below (by omega) fun k hk => by omega)
end Go.Proofs.YtoiefehkfhkhbaaGreatDoor
