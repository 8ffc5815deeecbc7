/- Walks: slices.AppendSeq and slices.Collect over a set's elements, Elements (as in the .. -/
import Derived.Test.YtmmhngjndnonhaaGreatDoorTRef1
import Derived.Test.YtmmhngjndnonhaaGreatDoorTRef3
import Derived.Test.YtmmhngjndnonhaaGreatDoorTTre4
import Derived.Test.YtmmhngjndnonhaaGreatDoorTSets
import Derived.Test.YtmmhngjndnonhaaGreatDoorTRoR
import Derived.OwnWalkIn
import Derived.TacticsInMore
set_option maxRecDepth 10000
set_option linter.all false
namespace Go.Pal
open Go
theorem elems_len_le (S : Nat) : (elems S).length ≤ 1024 := by
 have := elemsI_length S
 simpa [elemsI] using this
end Go.Pal
namespace Go.Proofs.YtmmhngjndnonhaaGreatDoor
open Go Go.RowKit Go.Pal
attribute [local go_sem] Oper.semAt_some
theorem wpListIn_appT2 {F : Fence} {n : Nat} {ops : Array Oper} {rest : List Oper} {o : Oper} {a : Act} {Q : Exit → Act → World → Prop} {w : World} (hgd : o.guard = none) (st : TypeId) (hst : Tryz.prog.underlying st = some (.slice 3)) (s x : Operand)
   (ho : o.op = .call { callee := .builtin .append, args := #[s, x], argTypes := #[st, st] }) (B : Nat) (v : Value) (ns : List Int) (hs : a.eval s = v) (hown : OwnI B w v ns)
   (g : Nat) (z : Int) (c : Nat) (hx : a.eval x = .slice (some ⟨g, 0, none⟩) 1 c) (hg : w.cell? ⟨g, 0, none⟩ = some (.int .i64 z)) (hlen : ns.length < 1000000) (hB : B ≤ w.heap.size)
   (h : ∀ v' w', OwnI B w' v' (ns ++ [z]) → Below B w w' → w.grownBy w' v.ownBlock → (v'.ownBlock = v.ownBlock ∨ v'.ownBlock = some w.heap.size) → wpListIn F n Tryz.prog ops Q rest (a.put o.dst v') w') : wpListIn F n Tryz.prog ops Q (o :: rest) a w := by
 obtain ⟨i0, hi, hz0, hz1, hz2⟩ := info_parts infoInt
 obtain ⟨v', w', hr, h2, h3, h4⟩ := run_append_own2 (P := Tryz.prog) w B st o.type 3 i0 (.int .i64 0) 1 8 hst hi hz0 hz1 hz2 rfl (by decide) v ns.length (ns.map (Value.int .i64)) hown ⟨g, 0, none⟩ 1 c (by decide) [.int .i64 z] rfl
   (fun j u hj => by
     cases j with
     | zero => simp at hj; subst hj; simpa [Addr.add] using hg
     | succ j => simp at hj) (fun u hu => by simp at hu; subst hu; rfl) (by unfold maxLen; omega) (by omega) hB
 refine wpListIn_plain hgd fun K hK' => ?_
 unfold Oper.wpIn
 refine ⟨?_, ?_⟩
 · simp [Oper.about, ho, resolve, Target.leads, Sem.run_pure]
 · rw [Oper.semAt_plain F _ _ (by rw [ho]; intro c hc'; cases hc')]
   simp [execOp, ho, resolve, invoke, builtin, hs, hx, hr, Result.andThen]
   refine hK' _ _ (h v' w' ?_ ((Below.refl B w).grown h3 hB hown.block) h3 h4)
   unfold OwnI
   simpa using h2
set_option maxHeartbeats 1000000 in
theorem appendSeq_any (S b : Nat) (hS : IsSet S) (w : World) (hb : row? w b = some (words S)) (hT : TabOk w) (hg : 0 < w.heap.size) :
   Calls Tryz.prog 172 #[.slice none 0 0, .func (.func 142) #[] #[.pointer (some ⟨b, 0, none⟩)]] w fun e w' => ∃ v', e = .returned v' ∧ OwnI w.heap.size w' v' (elemsI S) ∧ Below w.heap.size w w' := by
 have hbl := row?_lt hb
 have HBr := Lib.hid hb
 have HTab := Lib.hid hT
 clear hb hT
 refine calls_of_wp_marks Tryz.func172 rfl ?_
 simp only [Tryz.ntmps172, List.size_toArray, List.length_cons, List.length_nil, Nat.reduceAdd, Nat.reduceSub, Array.replicate_succ, Array.replicate_zero, List.push_toArray, List.append_toArray, List.nil_append, List.cons_append]
 go_wp2_with fail
 obtain ⟨W0, hW0⟩ : ∃ W0, W0 = w.alloc (Obj.cells #[Value.slice none 0 0] 47) := ⟨_, rfl⟩
 rw [← hW0]
 have hs0 : W0.heap.size = w.heap.size + 1 := by rw [hW0]; simp
 have hB0 : Below w.heap.size w W0 := by rw [hW0]; exact (Below.refl _ w).alloc (Nat.le_refl _) _
 have hr0 : row? W0 w.heap.size = some #[Value.slice none 0 0] := by rw [hW0]; exact row?_alloc_at _ _ _ _ rfl
 have HB0 := Lib.hid hB0
 have HR0 := Lib.hid hr0
 have hb0 := (row?_below hB0 hbl).trans HBr.out
 have HBr0 := Lib.hid hb0
 have HT0 := Lib.hid (HTab.out.below hB0 hg)
 clear hW0 hB0 hr0 hb0 HBr HTab
 refine (wpIn_wide (n := 0)).1 ?_
 refine wpIn_range_set 0 5 rfl (fun args w => by simp [go_sem]) (by omega) (enc := fun n : Nat => .int .i64 (n : Int)) (xs := elems S)
   (fun W hW _ => all1_iterates b S hS W ((row?_below hW (by omega)).trans HBr0.out) (HT0.out.below hW (by omega)) (by have := hW.size; omega))
   (fun M pre W => ∃ v, row? W w.heap.size = some #[v] ∧ OwnI M W v (pre.map fun i : Nat => (i : Int)) ∧ Same (fun k => k < w.heap.size) W0 W) ?_ ?_ ?_ ?_ ?_
 · rintro M pre W W' hM hMW ⟨v, hr, hO, hs⟩ hsame
   exact ⟨v, (row?_congr (hsame.block _ (row?_lt hr) (.inl (by omega)))).trans hr, hO.same fun g hgv => hsame.block g (hO.lt g hgv) (.inr (hO.block g hgv)), hs.trans (hsame.mono fun k _ h => .inl (by omega))⟩
 · intro M W _ _ hb
   exact ⟨_, (row?_below hb (by omega)).trans HR0.out, OwnI.nil _ _, (Same.of_below hb).mono fun k _ h => by omega⟩
 · intro l x W K hK
   gi_wp2
   exact hK
 · rintro l M pre x W hM hMW ⟨v, hr, hO, hs⟩ ⟨r, hr0⟩
   have hlen : (pre.map fun i : Nat => (i : Int)).length ≤ 1024 := by
     have := elems_len_le S
     rw [hr0] at this
     simp at this ⊢
     omega
   have k1 := cell?_row (i := 0) hr
   have hfz := frozen?_row (i := 0) hr
   simp at k1
   obtain ⟨q, c, rfl⟩ := hO.sl
   have HR := Lib.hid hr
   have HO := Lib.hid hO
   have HS := Lib.hid hs
   obtain ⟨acc, hacc⟩ : ∃ acc, acc = pre.map fun i : Nat => (i : Int) := ⟨_, rfl⟩
   rw [← hacc] at HO HR hlen k1
   have HAC := Lib.hid hacc
   clear hr hO hs hr0 hacc
   gi_wp2_with (gi_at_builtin; refine wpListIn_appT2 rfl 47 undI _ _ rfl M _ acc rfl (HO.out.alloc _) _ (x : Int) _ rfl (by simp [go_sem]) (by omega) (by simp; omega) ?_)
   intro v2 w2 hO2 hb2 hg2 hl2
   have hr2 : row? w2 w.heap.size = some #[.slice q acc.length c] := (row?_congr ((hg2.block w.heap.size (by simp; omega) (fun e => by have := HO.out.block _ e.symm; omega)).trans (Below.heap_alloc _ _ _ (by omega)))).trans HR.out
   have hfz2 := frozen?_row (i := 0) hr2
   have hlt2 := row?_lt hr2
   have hs2 : W.heap.size ≤ w2.heap.size := by have := hb2.size; simp at this; omega
   have hk2 : ∀ k, k < W.heap.size → k < M → w2.heap[k]? = W.heap[k]? := fun k hk hkM => (hg2.block k (by simp; omega) (fun e => by have := HO.out.block _ e.symm; omega)).trans (Below.heap_alloc _ _ _ hk)
   have HK2 := Lib.hid hk2
   have HG2 := Lib.hid hg2
   have HO2 := Lib.hid hO2
   have HR2 := Lib.hid hr2
   have HB2 := Lib.hid hb2
   have k2 := cell?_row (i := 0) hr2
   simp at k2
   obtain ⟨q2, c2, rfl⟩ := hO2.sl
   clear hO2 hb2 hg2 hl2 hr2 hk2 k1 hfz
   gi_wp2_with fail
   refine ⟨⟨_, ⟨_, HR2.out, rfl⟩, ?_, ?_⟩, ?_⟩
   · rw [← HAC.out]
     have hO2 := HO2.out
     rw [List.length_append] at hO2
     exact hO2.same fun g hg' => heap_setCell_other _ _ g _ (by have := hO2.block g hg'; show g ≠ w.heap.size; omega)
   · refine HS.out.trans ⟨HB2.out.os, HB2.out.tape, HB2.out.output, by simp; omega, fun k hk hk' => ?_⟩
     rw [heap_setCell_other _ _ k _ (by show k ≠ w.heap.size; omega)]
     exact HK2.out k hk (by omega)
   · refine ⟨HB2.out.os, HB2.out.tape, HB2.out.output, by simp; omega, fun k hk hk' => ?_⟩
     rw [heap_setCell_other _ _ k _ (by show k ≠ w.heap.size; omega)]
     exact HK2.out k hk (by omega)
 · rintro D M W hD hDM hMW ⟨v, hr, hO, hs⟩ hK
   have k1 := cell?_row (i := 0) hr
   simp at k1
   have HO := Lib.hid hO
   have HS := Lib.hid hs
   have HK := Lib.hid hK
   clear hr hO hs hK
   go_wp2_with fail
   refine ⟨by simp, .inl ⟨_, _, rfl, run_takeDeferred HK.out, ?_⟩⟩
   have hp : Same (fun k => k ≠ D) W (W.putObj D (.deferred none)) := Same.putObj _ W D _ (by simp)
   refine ⟨_, results_tmp rfl _ _ _, v, rfl, ?_, ?_⟩
   · refine OwnI.lower (HO.out.same fun g hg' => hp.block g (HO.out.lt g hg') ?_) (by omega)
     have := HO.out.block g hg'
     omega
   · exact (HB0.out.trans (HS.out.below (by omega) fun k hk => hk)).trans (hp.below (by omega) fun k hk => by omega)
theorem collect_any (S b : Nat) (hS : IsSet S) (w : World) (hb : row? w b = some (words S)) (hT : TabOk w) (hg : 0 < w.heap.size) :
   Calls Tryz.prog 145 #[.func (.func 142) #[] #[.pointer (some ⟨b, 0, none⟩)]] w fun e w' => ∃ v', e = .returned v' ∧ OwnI w.heap.size w' v' (elemsI S) ∧ Below w.heap.size w w' := by
 have HA := Lib.hid (appendSeq_any S b hS w hb hT hg)
 clear hb hT
 go_enter Tryz.func145, Tryz.ntmps145
 go_wp2_with fail
 refine HA.out.mono ?_
 rintro e w1 ⟨v1, rfl, hO, hb⟩
 have HO := Lib.hid hO
 have HB := Lib.hid hb
 clear hO hb
 go_wp2_with fail
 go_ret
 exact ⟨_, rfl, HO.out, HB.out⟩
theorem elements_any (S : Nat) (hS : IsSet S) (w : World) (hT : TabOk w) (hg : 0 < w.heap.size) :
   Calls Tryz.prog 73 #[.agg (words S)] w fun e w' => ∃ v', e = .returned v' ∧ OwnI w.heap.size w' v' (elemsI S) ∧ Below w.heap.size w w' := by
 have HTab := Lib.hid hT
 clear hT
 go_enter Tryz.func73, Tryz.ntmps73
 go_wp2_with fail
 obtain ⟨W0, hW0⟩ : ∃ W0, W0 = w.alloc (Obj.cells (words S) 57) := ⟨_, rfl⟩
 have hB0 : Below w.heap.size w W0 := by rw [hW0]; exact (Below.refl _ w).alloc (Nat.le_refl _) _
 rw [← hW0]
 have HB0 := Lib.hid hB0
 clear hW0 hB0
 refine (all_any S W0).mono ?_
 rintro e w1 ⟨rfl, rfl⟩
 have hs0 := HB0.out.size
 have hb1 : Below W0.heap.size W0 (W0.alloc (.cells (words S) 57)) := (Below.refl _ _).alloc (Nat.le_refl _) _
 have HB1 := Lib.hid (HB0.out.trans (hb1.mono hs0))
 have hT1 := HTab.out.below HB1.out hg
 have HA := Lib.hid (collect_any S W0.heap.size hS _ (row?_alloc_at _ _ _ _ rfl) hT1 (by have := HB0.out.size; rw [World.size_alloc]; omega))
 clear hb1 hT1
 go_wp2_with fail
 refine HA.out.mono ?_
 rintro e w2 ⟨v2, rfl, hO, hb⟩
 have HO := Lib.hid hO
 have HB := Lib.hid hb
 clear hO hb
 go_wp2_with fail
 go_ret
 exact ⟨_, rfl, HO.out.lower HB1.out.size, HB1.out.trans (HB.out.mono HB1.out.size)⟩
end Go.Proofs.YtmmhngjndnonhaaGreatDoor
