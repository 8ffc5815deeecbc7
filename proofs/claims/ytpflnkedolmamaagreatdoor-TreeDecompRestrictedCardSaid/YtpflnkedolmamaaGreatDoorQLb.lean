/-
  Walks: slices.AppendSeq and slices.Collect over a set's elements, Elements (as in the texts on Merges, without the shelf's sorts).
  Walks of package graph: Induced.
-/
import Derived.Test.YtpflnkedolmamaaGreatDoorQRef1
import Derived.Test.YtpflnkedolmamaaGreatDoorQRef3
import Derived.Test.YtpflnkedolmamaaGreatDoorQTre4
import Derived.Test.YtpflnkedolmamaaGreatDoorQSets
import Derived.Test.YtpflnkedolmamaaGreatDoorQRoR
import Derived.OwnWalkIn
import Derived.TacticsInMore
import Derived.Test.YtpflnkedolmamaaGreatDoorQGrH
import Derived.Test.YtpflnkedolmamaaGreatDoorQLp
set_option linter.unusedSimpArgs false
set_option linter.unusedVariables false
namespace Go.Pal
open Go
theorem elems_len_le (S : Nat) : (elems S).length ≤ 1024 := by
  have := elemsI_length S
  simpa [elemsI] using this
end Go.Pal
namespace Go.Proofs.YtpflnkedolmamaaGreatDoor
open Go Go.RowKit Go.Pal
attribute [local go_sem] Oper.semAt_some

theorem wpListIn_appT2 {F : Fence} {n : Nat} {ops : Array Oper} {rest : List Oper} {o : Oper} {a : Act} {Q : Exit → Act → World → Prop} {w : World} (hgd : o.guard = none) (st : TypeId) (hst : Tryz.prog.underlying st = some (.slice 3)) (s x : Operand)
    (ho : o.op = .call { callee := .builtin .append, args := #[s, x], argTypes := #[st, st] }) (B : Nat) (v : Value) (ns : List Int) (hs : a.eval s = v) (hown : OwnI B w v ns)
    (g : Nat) (z : Int) (c : Nat) (hx : a.eval x = .slice (some ⟨g, 0, none⟩) 1 c) (hg : w.cell? ⟨g, 0, none⟩ = some (.int .i64 z)) (hlen : ns.length < 1000000) (hB : B ≤ w.heap.size)
    (h : ∀ v' w', OwnI B w' v' (ns ++ [z]) → Below B w w' → w.grownBy w' v.ownBlock → (v'.ownBlock = v.ownBlock ∨ v'.ownBlock = some w.heap.size) → wpListIn F n Tryz.prog ops Q rest (a.put o.dst v') w') : wpListIn F n Tryz.prog ops Q (o :: rest) a w := by
  obtain ⟨i0, hi, hz0, hz1, hz2⟩ := info_parts infoInt
  obtain ⟨v', w', hr, h2, h3, h4⟩ := run_append_own2 (P := Tryz.prog) w B st o.type 3 i0 (.int .i64 0) 1 8 hst hi hz0 hz1 hz2 rfl (by decide) v ns.length (ns.map (Value.int .i64)) hown ⟨g, 0, none⟩ 1 c (by decide) [.int .i64 z] rfl
    (fun j u hj => by
      cases j with
      | zero => simp at hj; subst hj; simpa [Addr.add] using hg
      | succ j => simp at hj) (fun u hu => by simp at hu; subst hu; rfl) (by unfold maxLen; omega) (by omega) hB
  refine wpListIn_plain hgd fun K hK' => ?_
  unfold Oper.wpIn
  refine ⟨?_, ?_⟩
  · simp [Oper.about, ho, resolve, Target.leads, Sem.run_pure]
  · rw [Oper.semAt_plain F _ _ (by rw [ho]; intro c hc'; cases hc')]
    simp [execOp, ho, resolve, invoke, builtin, hs, hx, hr, Result.andThen]
    refine hK' _ _ (h v' w' ?_ ((Below.refl B w).grown h3 hB hown.block) h3 h4)
    unfold OwnI
    simpa using h2

set_option maxRecDepth 10000 in
set_option maxHeartbeats 1000000 in
theorem appendSeq_any (S b : Nat) (hS : IsSet S) (w : World) (hb : row? w b = some (words S)) (hT : TabOk w) (hg : 0 < w.heap.size) :
    Calls Tryz.prog 133 #[.slice none 0 0, .func (.func 118) #[] #[.pointer (some ⟨b, 0, none⟩)]] w fun e w' => ∃ v', e = .returned v' ∧ OwnI w.heap.size w' v' (elemsI S) ∧ Below w.heap.size w w' := by
  have hbl := row?_lt hb
  have HBr := Lib.hid hb
  have HTab := Lib.hid hT
  clear hb hT
  refine calls_of_wp_marks Tryz.func133 rfl ?_
  simp only [Tryz.ntmps133, List.size_toArray, List.length_cons, List.length_nil, Nat.reduceAdd, Nat.reduceSub, Array.replicate_succ, Array.replicate_zero, List.push_toArray, List.append_toArray, List.nil_append, List.cons_append]
  go_wp2_with fail
  obtain ⟨W0, hW0⟩ : ∃ W0, W0 = w.alloc (Obj.cells #[Value.slice none 0 0] 39) := ⟨_, rfl⟩
  rw [← hW0]
  have hs0 : W0.heap.size = w.heap.size + 1 := by rw [hW0]; simp
  have hB0 : Below w.heap.size w W0 := by rw [hW0]; exact (Below.refl _ w).alloc (Nat.le_refl _) _
  have hr0 : row? W0 w.heap.size = some #[Value.slice none 0 0] := by rw [hW0]; exact row?_alloc_at _ _ _ _ rfl
  have HB0 := Lib.hid hB0
  have HR0 := Lib.hid hr0
  have hb0 := (row?_below hB0 hbl).trans HBr.out
  have HBr0 := Lib.hid hb0
  have HT0 := Lib.hid (HTab.out.below hB0 hg)
  clear hW0 hB0 hr0 hb0 HBr HTab
  refine (wpIn_wide (n := 0)).1 ?_
  refine wpIn_range_set 0 5 rfl (fun args w => by simp [go_sem]) (by omega) (enc := fun n : Nat => .int .i64 (n : Int)) (xs := elems S)
    (fun W hW _ => all1_iterates b S hS W ((row?_below hW (by omega)).trans HBr0.out) (HT0.out.below hW (by omega)) (by have := hW.size; omega))
    (fun M pre W => ∃ v, row? W w.heap.size = some #[v] ∧ OwnI M W v (pre.map fun i : Nat => (i : Int)) ∧ Same (fun k => k < w.heap.size) W0 W) ?_ ?_ ?_ ?_ ?_
  · rintro M pre W W' hM hMW ⟨v, hr, hO, hs⟩ hsame
    exact ⟨v, (row?_congr (hsame.block _ (row?_lt hr) (.inl (by omega)))).trans hr, hO.same fun g hgv => hsame.block g (hO.lt g hgv) (.inr (hO.block g hgv)), hs.trans (hsame.mono fun k _ h => .inl (by omega))⟩
  · intro M W _ _ hb
    exact ⟨_, (row?_below hb (by omega)).trans HR0.out, OwnI.nil _ _, (Same.of_below hb).mono fun k _ h => by omega⟩
  · intro l x W K hK
    gi_wp2
    exact hK
  · rintro l M pre x W hM hMW ⟨v, hr, hO, hs⟩ ⟨r, hr0⟩
    have hlen : (pre.map fun i : Nat => (i : Int)).length ≤ 1024 := by
      have := elems_len_le S
      rw [hr0] at this
      simp at this ⊢
      omega
    have k1 := cell?_row (i := 0) hr
    have hfz := frozen?_row (i := 0) hr
    simp at k1
    obtain ⟨q, c, rfl⟩ := hO.sl
    have HR := Lib.hid hr
    have HO := Lib.hid hO
    have HS := Lib.hid hs
    obtain ⟨acc, hacc⟩ : ∃ acc, acc = pre.map fun i : Nat => (i : Int) := ⟨_, rfl⟩
    rw [← hacc] at HO HR hlen k1
    have HAC := Lib.hid hacc
    clear hr hO hs hr0 hacc
    gi_wp2_with (gi_at_builtin; refine wpListIn_appT2 rfl 39 undI _ _ rfl M _ acc rfl (HO.out.alloc _) _ (x : Int) _ rfl (by simp [go_sem]) (by omega) (by simp; omega) ?_)
    intro v2 w2 hO2 hb2 hg2 hl2
    have hr2 : row? w2 w.heap.size = some #[.slice q acc.length c] := (row?_congr ((hg2.block w.heap.size (by simp; omega) (fun e => by have := HO.out.block _ e.symm; omega)).trans (Below.heap_alloc _ _ _ (by omega)))).trans HR.out
    have hfz2 := frozen?_row (i := 0) hr2
    have hlt2 := row?_lt hr2
    have hs2 : W.heap.size ≤ w2.heap.size := by have := hb2.size; simp at this; omega
    have hk2 : ∀ k, k < W.heap.size → k < M → w2.heap[k]? = W.heap[k]? := fun k hk hkM => (hg2.block k (by simp; omega) (fun e => by have := HO.out.block _ e.symm; omega)).trans (Below.heap_alloc _ _ _ hk)
    have HK2 := Lib.hid hk2
    have HG2 := Lib.hid hg2
    have HO2 := Lib.hid hO2
    have HR2 := Lib.hid hr2
    have HB2 := Lib.hid hb2
    have k2 := cell?_row (i := 0) hr2
    simp at k2
    obtain ⟨q2, c2, rfl⟩ := hO2.sl
    clear hO2 hb2 hg2 hl2 hr2 hk2 k1 hfz
    gi_wp2_with fail
    refine ⟨⟨_, ⟨_, HR2.out, rfl⟩, ?_, ?_⟩, ?_⟩
    · rw [← HAC.out]
      have hO2 := HO2.out
      rw [List.length_append] at hO2
      exact hO2.same fun g hg' => heap_setCell_other _ _ g _ (by have := hO2.block g hg'; show g ≠ w.heap.size; omega)
    · refine HS.out.trans ⟨HB2.out.os, HB2.out.tape, HB2.out.output, by simp; omega, fun k hk hk' => ?_⟩
      rw [heap_setCell_other _ _ k _ (by show k ≠ w.heap.size; omega)]
      exact HK2.out k hk (by omega)
    · refine ⟨HB2.out.os, HB2.out.tape, HB2.out.output, by simp; omega, fun k hk hk' => ?_⟩
      rw [heap_setCell_other _ _ k _ (by show k ≠ w.heap.size; omega)]
      exact HK2.out k hk (by omega)
  · rintro D M W hD hDM hMW ⟨v, hr, hO, hs⟩ hK
    have k1 := cell?_row (i := 0) hr
    simp at k1
    have HO := Lib.hid hO
    have HS := Lib.hid hs
    have HK := Lib.hid hK
    clear hr hO hs hK
    go_wp2_with fail
    refine ⟨by simp, .inl ⟨_, _, rfl, run_takeDeferred HK.out, ?_⟩⟩
    have hp : Same (fun k => k ≠ D) W (W.putObj D (.deferred none)) := Same.putObj _ W D _ (by simp)
    refine ⟨_, results_tmp rfl _ _ _, v, rfl, ?_, ?_⟩
    · refine OwnI.lower (HO.out.same fun g hg' => hp.block g (HO.out.lt g hg') ?_) (by omega)
      have := HO.out.block g hg'
      omega
    · exact (HB0.out.trans (HS.out.below (by omega) fun k hk => hk)).trans (hp.below (by omega) fun k hk => by omega)

theorem collect_any (S b : Nat) (hS : IsSet S) (w : World) (hb : row? w b = some (words S)) (hT : TabOk w) (hg : 0 < w.heap.size) :
    Calls Tryz.prog 90 #[.func (.func 118) #[] #[.pointer (some ⟨b, 0, none⟩)]] w fun e w' => ∃ v', e = .returned v' ∧ OwnI w.heap.size w' v' (elemsI S) ∧ Below w.heap.size w w' := by
  have HA := Lib.hid (appendSeq_any S b hS w hb hT hg)
  clear hb hT
  go_enter Tryz.func90, Tryz.ntmps90
  go_wp2_with fail
  refine HA.out.mono ?_
  rintro e w1 ⟨v1, rfl, hO, hb⟩
  have HO := Lib.hid hO
  have HB := Lib.hid hb
  clear hO hb
  go_wp2_with fail
  go_ret
  exact ⟨_, rfl, HO.out, HB.out⟩

set_option maxRecDepth 10000 in
theorem elements_any (S : Nat) (hS : IsSet S) (w : World) (hT : TabOk w) (hg : 0 < w.heap.size) :
    Calls Tryz.prog 41 #[.agg (words S)] w fun e w' => ∃ v', e = .returned v' ∧ OwnI w.heap.size w' v' (elemsI S) ∧ Below w.heap.size w w' := by
  have HTab := Lib.hid hT
  clear hT
  go_enter Tryz.func41, Tryz.ntmps41
  go_wp2_with fail
  obtain ⟨W0, hW0⟩ : ∃ W0, W0 = w.alloc (Obj.cells (words S) 33) := ⟨_, rfl⟩
  have hB0 : Below w.heap.size w W0 := by rw [hW0]; exact (Below.refl _ w).alloc (Nat.le_refl _) _
  rw [← hW0]
  have HB0 := Lib.hid hB0
  clear hW0 hB0
  refine (all_any S W0).mono ?_
  rintro e w1 ⟨rfl, rfl⟩
  have hs0 := HB0.out.size
  have hb1 : Below W0.heap.size W0 (W0.alloc (.cells (words S) 33)) := (Below.refl _ _).alloc (Nat.le_refl _) _
  have HB1 := Lib.hid (HB0.out.trans (hb1.mono hs0))
  have hT1 := HTab.out.below HB1.out hg
  have HA := Lib.hid (collect_any S W0.heap.size hS _ (row?_alloc_at _ _ _ _ rfl) hT1 (by have := HB0.out.size; rw [World.size_alloc]; omega))
  clear hb1 hT1
  go_wp2_with fail
  refine HA.out.mono ?_
  rintro e w2 ⟨v2, rfl, hO, hb⟩
  have HO := Lib.hid hO
  have HB := Lib.hid hb
  clear hO hb
  go_wp2_with fail
  go_ret
  exact ⟨_, rfl, HO.out.lower HB1.out.size, HB1.out.trans (HB.out.mono HB1.out.size)⟩
end Go.Proofs.YtpflnkedolmamaaGreatDoor
namespace Go.Pal
open Go Go.RowKit
section
variable {α β : Type} {C : Cod α β} {P : Program} {k : TypeId}
/-- A step of a range over a map leaves fewer entries to come. -/
theorem Rng.next_lt {w w' : World} {b r : Nat} {l rest : List (α × β)} {x y : Value} (h : Rng C P k w b r l rest) (G : C.Good P k) (ty : TypeId) (hrun : (Instr.next (.pointer (some ⟨r, 0, none⟩)) false ty).run P w = .ok (.tuple #[.bool true, x, y]) w') : w'.rangeLeft b r < w.rangeLeft b r := by
  obtain ⟨D, left, cnt, h1, -⟩ := h
  rcases h1.next G.keyed ty with ⟨-, -, hr⟩ | ⟨key, v, kl, y', w2, cnt', -, -, -, -, hr, h2, hlt, -⟩
  · rw [hr] at hrun
    simp at hrun
  · rw [hr] at hrun
    simp only [Result.ok.injEq] at hrun
    obtain ⟨-, rfl⟩ := hrun
    rw [h2.left_eq, h1.left_eq]
    exact hlt
theorem rangeLeft_congr {w w' : World} {b r : Nat} (hb : w'.heap[b]? = w.heap[b]?) (hr : w'.heap[r]? = w.heap[r]?) : w'.rangeLeft b r = w.rangeLeft b r := by
  unfold World.rangeLeft
  rw [hb, hr]
theorem del_not [DecidableEq α] {l : List (α × β)} {x : α} (h : ∀ p ∈ l, p.1 ≠ x) : del x l = l := by
  unfold del
  rw [List.filter_eq_self]
  intro p hp
  simpa using h p hp
/-- The next entry of a range is not among those gone by. -/
theorem fresh_key {done r1 r2 l : List (α × β)} {x : α} {y : β} (hn : NoDup l) (hp : (done ++ (r1 ++ (x, y) :: r2)).Perm l) : ∀ p ∈ done, p.1 ≠ x := by
  have h := NoDup.perm hn hp.symm
  unfold NoDup at h
  rw [List.pairwise_append] at h
  exact fun p hp => h.2.2 p hp (x, y) (by simp)
theorem perm_step {done r1 r2 l : List (α × β)} {e : α × β} (hp : (done ++ (r1 ++ e :: r2)).Perm l) : (done ++ [e] ++ (r1 ++ r2)).Perm l := by
  refine List.Perm.trans ?_ hp
  rw [List.append_assoc]
  exact List.Perm.append_left _ (show (e :: (r1 ++ r2)).Perm (r1 ++ e :: r2) from List.perm_middle.symm)
end
end Go.Pal
namespace Go.Proofs.YtpflnkedolmamaaGreatDoor
open Go Go.RowKit Go.Pal
attribute [local go_sem] Oper.semAt_some

@[go_sem ↓ high] theorem loadEN (a : Addr) : loadVar 143 a = loadLater 143 a := rfl
@[go_sem ↓ high] theorem storeEN (a : Addr) (v : Value) : storeVar 143 a v = storeLater 143 a v := rfl
@[go_sem] theorem loadEN_run (w : World) (a : Addr) : (loadLater 143 a).run Tryz.prog w = rowLoad Tryz.prog 143 a w := rfl
@[go_sem] theorem storeEN_run (w : World) (a : Addr) (v : Value) : (storeLater 143 a v).run Tryz.prog w = rowStore Tryz.prog 143 a v w := rfl
@[go_sem] theorem loadEN_at (w : World) (g : Nat) : rowLoad Tryz.prog 143 ⟨g, 0, none⟩ w = match row? w g with
      | some c => if c.size = 2 then .ok (.agg c) w else laterLoad Tryz.prog 143 ⟨g, 0, none⟩ w
      | none => laterLoad Tryz.prog 143 ⟨g, 0, none⟩ w := load_row Tryz.isAgg143 Tryz.sizeOf143 w g
@[go_sem] theorem storeEN_at (w : World) (g : Nat) (d : Array Value) : rowStore Tryz.prog 143 ⟨g, 0, none⟩ (.agg d) w = match row? w g with
      | some c => if c.size = 2 ∧ d.size = 2 ∧ allOne d = true then .ok () (w.setRow g d) else laterStore Tryz.prog 143 ⟨g, 0, none⟩ (.agg d) w
      | none => laterStore Tryz.prog 143 ⟨g, 0, none⟩ (.agg d) w := store_row Tryz.sizeOf143 w g d
@[go_sem ↓ high] theorem zeroEN (w : World) : (zeroValue 143).run Tryz.prog w = .ok (.agg #[.int .i64 0, .int .i64 0]) w := by kernel_rfl

/-- What of a graph's entries has been taken over. -/
def keepV (I : Nat) (l : List (Int × Th)) : List (Int × Th) := l.filter fun p => hasI I p.1
def keepE (I : Nat) (l : List ((Int × Int) × Th)) : List ((Int × Int) × Th) := l.filter fun p => hasI I p.1.1 && hasI I p.1.2
theorem keepV_snoc (I : Nat) (l : List (Int × Th)) (x : Int) (y : Th) : keepV I (l ++ [(x, y)]) = keepV I l ++ if hasI I x then [(x, y)] else [] := by
  unfold keepV
  rw [List.filter_append]
  split <;> rename_i h <;> simp [h]
theorem keepE_snoc (I : Nat) (l : List ((Int × Int) × Th)) (x : Int × Int) (y : Th) : keepE I (l ++ [(x, y)]) = keepE I l ++ if hasI I x.1 && hasI I x.2 then [(x, y)] else [] := by
  unfold keepE
  rw [List.filter_append]
  split <;> rename_i h <;> simp [h]

set_option maxRecDepth 10000 in
set_option maxHeartbeats 4000000 in
theorem ginduced_any (I : Nat) (g bV bE : Nat) (G : Gr) (hG : G.Ok) (w : World) (h : GOk w g bV bE G) :
    Calls Tryz.prog 39 #[.pointer (some ⟨g, 0, none⟩), .agg (words I)] w fun r w' => ∃ g' bV' bE', r = .returned (.pointer (some ⟨g', 0, none⟩)) ∧ GOk w' g' bV' bE' (G.ind I) ∧ Below w.heap.size w w' := by
  have HG := Lib.hid hG
  have HH := Lib.hid h
  have hgl := h.lt
  have hlV := hG.len
  have hlE := hG.most
  have HHas := Lib.hid fun n W => show Calls Tryz.prog 42 #[.agg (words I), .int .i64 n] W fun e w' => e = .returned (.bool (hasI I n)) ∧ Below W.heap.size W w' from has_any I n W
  clear hG h
  go_enter Tryz.func39, Tryz.ntmps39
  go_wp2_with fail
  obtain ⟨W0, hW0⟩ : ∃ W0, W0 = w.alloc (Obj.cells (words I) 33) := ⟨_, rfl⟩
  have hB0 : Below w.heap.size w W0 := by rw [hW0]; exact (Below.refl _ w).alloc (Nat.le_refl _) _
  have hr0 : row? W0 w.heap.size = some (words I) := by rw [hW0]; exact row?_alloc_at _ _ _ _ rfl
  have hs0 : w.heap.size < W0.heap.size := by rw [hW0]; simp
  rw [← hW0]
  clear hW0
  refine (gnew_ok W0).mono ?_
  rintro e w1 ⟨g', bV', bE', rfl, hN, hg', hV', hE', hb1⟩
  have hB1 := hB0.trans (hb1.mono hB0.size)
  have hr1 := (row?_below hb1 hs0).trans hr0
  have hs1 := hb1.size
  have hH1 := HH.out.below hB1
  have hNl := hN.lt
  have hNg := hN.gne
  have k0 := cell?_row (i := 0) hH1.row
  simp at k0
  obtain ⟨w2, hr, hR, hb2, hs2⟩ := hH1.V.range goodV Tryz.underlying136
  have HR := Lib.hid hR
  have HN2 := Lib.hid (hN.below hb2)
  have HR2 := Lib.hid ((row?_below hb2 (by omega)).trans hr1)
  have HB2 := Lib.hid (hB1.trans (hb2.mono hB1.size))
  have hNE := hN.ne
  clear hB0 hr0 hb1 hB1 hr1 hH1 hN hR hb2
  go_wp2_with fail
  clear hr k0
  go_loopw [6] (fun _ wr => ∃ done rest, (done ++ rest).Perm G.V ∧ GOk wr g' bV' bE' ⟨keepV I done, []⟩ ∧ Rng CV Tryz.prog 3 wr bV w1.heap.size G.V rest ∧ row? wr w.heap.size = some (words I) ∧ Below w.heap.size w wr) (fun _ wr => wr.rangeLeft bV w1.heap.size)
  case atStart => exact ⟨[], G.V, List.Perm.refl _, HN2.out, HR.out, HR2.out, HB2.out⟩
  case round =>
    obtain ⟨done, rest, hp, hO, hRr, hrI, hbr⟩ := hrel
    have hdl := hp.length_eq
    have hszr := hbr.size
    have hRlt := hRr.lt
    have hOl := hO.lt
    have hIl := row?_lt hrI
    have HP := Lib.hid hp
    have HO := Lib.hid hO
    have HBr := Lib.hid hbr
    have HRI := Lib.hid hrI
    rcases hRr.next goodV 0 with ⟨rfl, hrun⟩ | ⟨x, y, r1, r2, w2', rfl, hrun, hR2, hgr, hsz2, hen⟩
    · have hHr := HH.out.below hbr
      have k1 := cell?_row (i := 1) hHr.row
      simp at k1
      obtain ⟨w3, hr3, hR3, hb3, hs3⟩ := hHr.E.range goodE Tryz.underlying137
      have HR3 := Lib.hid hR3
      have HO3 := Lib.hid (hO.below hb3)
      have HRI3 := Lib.hid ((row?_below hb3 hIl).trans hrI)
      have HB3 := Lib.hid (hbr.trans (hb3.mono hbr.size))
      have hdV : Hid (done.Perm G.V) := Lib.hid (by have := HP.out; rwa [List.append_nil] at this)
      clear hp hO hRr hrI hbr hHr hR3 hb3 HO HRI
      go_wp2_with fail
      clear hr3 k1 hrun
      obtain ⟨wo, rfl⟩ : ∃ wo : World, wo = wr := ⟨_, rfl⟩
      go_loopw [8] (fun _ wq => ∃ done2 rest2, (done2 ++ rest2).Perm G.E ∧ GOk wq g' bV' bE' ⟨keepV I done, keepE I done2⟩ ∧ Rng CE Tryz.prog 143 wq bE wo.heap.size G.E rest2 ∧ row? wq w.heap.size = some (words I) ∧ Below w.heap.size w wq) (fun _ wq => wq.rangeLeft bE wo.heap.size)
      case atStart => exact ⟨[], G.E, List.Perm.refl _, HO3.out, HR3.out, HRI3.out, HB3.out⟩
      case round =>
        obtain ⟨done2, rest2, hp2, hO, hRr, hrI, hbq⟩ := hrel
        have hdl2 := hp2.length_eq
        have hszq := hbq.size
        have hRlt2 := hRr.lt
        have hOl2 := hO.lt
        have hIl2 := row?_lt hrI
        have HP2 := Lib.hid hp2
        have HO := Lib.hid hO
        have HBq := Lib.hid hbq
        have HRI := Lib.hid hrI
        obtain ⟨wq, rfl⟩ : ∃ wq : World, wq = wr := ⟨_, rfl⟩
        rcases hRr.next goodE 0 with ⟨rfl, hrun⟩ | ⟨x, y, r1, r2, w2', rfl, hrun, hR2, hgr, hsz2, hen⟩
        · clear hp2 hO hRr hrI hbq
          go_wp2_with fail
          go_ret
          have hp2 := HP2.out
          rw [List.append_nil] at hp2
          have h := HO.out
          refine ⟨g', bV', bE', rfl, ⟨h.row, h.V.perm (List.Perm.filter _ hdV.out), h.E.perm (List.Perm.filter _ hp2), h.ne⟩, HBq.out⟩
        · have hlt := hRr.next_lt goodE 0 hrun
          have hS2 := same_grown hgr
          have hO2 : GOk w2' g' bV' bE' ⟨keepV I done, keepE I done2⟩ := HO.out.congr (hS2.block _ (by omega) (fun e => by have := Option.some.inj e; omega)) (hS2.block _ (by omega) (fun e => by have := Option.some.inj e; omega)) (hS2.block _ (by omega) (fun e => by have := Option.some.inj e; omega))
          have hri2 : row? w2' w.heap.size = some (words I) := (row?_congr (hS2.block _ (by omega) (fun e => by have := Option.some.inj e; omega))).trans HRI.out
          have hB2 : Below w.heap.size w w2' := HBq.out.trans (hS2.below (by omega) fun k hk e => by have := Option.some.inj e; omega)
          have hok := hRr.own.okd (x, y) (by rw [← HP2.out.mem_iff]; simp)
          have hfr := fresh_key hRr.own.nd HP2.out
          have hrun1 : (Instr.next (.pointer (some ⟨wo.heap.size, 0, none⟩)) false 0).run Tryz.prog wq = .ok (.tuple #[.bool true, .agg #[.int .i64 x.1, .int .i64 x.2], .agg #[.int .u8 (y.1 : Int), .int .i64 y.2]]) w2' := hrun
          have hen1 : (Instr.entry (.pointer (some ⟨wo.heap.size, 0, none⟩))).run Tryz.prog w2' = .ok (.tuple #[.agg #[.int .i64 x.1, .int .i64 x.2], .agg #[.int .u8 (y.1 : Int), .int .i64 y.2]]) w2' := hen
          have HO2 := Lib.hid hO2
          have HRI2 := Lib.hid hri2
          have HB2 := Lib.hid hB2
          have HR2 := Lib.hid hR2
          have HLT := Lib.hid hlt
          have HOK := Lib.hid hok
          have HFR := Lib.hid hfr
          have HSN := Lib.hid (keepE_snoc I done2 x y)
          have hlen2 : (keepE I done2).length ≤ 1024 := Nat.le_trans (List.length_filter_le _ _) (by simp at hdl2; omega)
          clear hp2 hO hRr hrI hbq hrun hR2 hgr hen hS2 hO2 hB2 hok hfr hlt
          have hw2l : w.heap.size < w2'.heap.size := by omega
          have hw2m : w.heap.size < wq.heap.size + 1 := by omega
          have hw2n : w.heap.size < wq.heap.size := by omega
          go_wp2_with fail
          clear hrun1 hen1
          obtain ⟨W3, hW3⟩ : ∃ W3, W3 = (w2'.alloc (Obj.cells #[.int .i64 x.1, .int .i64 x.2] 143)).alloc (Obj.cells #[.int .u8 (y.1 : Int), .int .i64 y.2] 141) := ⟨_, rfl⟩
          rw [← hW3]
          have hs3' : W3.heap.size = w2'.heap.size + 1 + 1 := by rw [hW3]; simp
          have hB3 : Below w2'.heap.size w2' W3 := by rw [hW3]; exact ((Below.refl _ _).alloc (Nat.le_refl _) _).alloc (by simp) _
          have hre : row? W3 w2'.heap.size = some #[.int .i64 x.1, .int .i64 x.2] := by rw [hW3]; simp [go_sem]
          have hrt : row? W3 (w2'.heap.size + 1) = some #[.int .u8 (y.1 : Int), .int .i64 y.2] := by rw [hW3]; simp [go_sem]
          clear hW3 hri2
          rw [hsz2] at hre hrt
          refine (HHas.out x.1 _).mono ?_
          rintro e w4 ⟨rfl, hb4⟩
          have HB34 := Lib.hid (hB3.trans (hb4.mono hB3.size))
          have hri4 := (row?_below HB34.out hw2l).trans HRI2.out
          have hre4 := (row?_below hb4 (by omega)).trans hre
          have hrt4 := (row?_below hb4 (by omega)).trans hrt
          have hs4 := hb4.size
          clear hb4 hB3 hre hrt
          have hc4 := cell?_row (i := 1) hre4
          simp at hc4
          cases hx1 : hasI I x.1 with
          | false =>
            have hsk : keepE I (done2 ++ [(x, y)]) = keepE I done2 := by rw [HSN.out, hx1]; simp
            have HSK := Lib.hid hsk
            clear hsk hx1
            go_wp2_with fail
            go_roundw
            case rel => exact ⟨done2 ++ [(x, y)], r1 ++ r2, perm_step HP2.out, by rw [HSK.out]; exact HO2.out.below HB34.out, HR2.out.congr (HB34.out.block _ (by omega)) (HB34.out.block _ (by omega)), (row?_below HB34.out hw2l).trans HRI2.out, HB2.out.trans (HB34.out.mono HB2.out.size)⟩
            case measure => rw [rangeLeft_congr (w := w2') (HB34.out.block _ (by omega)) (HB34.out.block _ (by omega))]; exact HLT.out
          | true =>
            go_wp2_with fail
            refine (HHas.out x.2 _).mono ?_
            rintro e w5 ⟨rfl, hb5⟩
            have HB35 := Lib.hid (HB34.out.trans (hb5.mono HB34.out.size))
            have hre5 := (row?_below hb5 (by omega)).trans hre4
            have hrt5 := (row?_below hb5 (by omega)).trans hrt4
            have hs5 := hb5.size
            clear hb5 hri4 hre4 hrt4 hc4
            cases hx2 : hasI I x.2 with
            | false =>
              have hsk : keepE I (done2 ++ [(x, y)]) = keepE I done2 := by rw [HSN.out, hx1, hx2]; simp
              have HSK := Lib.hid hsk
              clear hsk hx1 hx2
              go_wp2_with fail
              go_roundw
              case rel => exact ⟨done2 ++ [(x, y)], r1 ++ r2, perm_step HP2.out, by rw [HSK.out]; exact HO2.out.below HB35.out, HR2.out.congr (HB35.out.block _ (by omega)) (HB35.out.block _ (by omega)), (row?_below HB35.out hw2l).trans HRI2.out, HB2.out.trans (HB35.out.mono HB2.out.size)⟩
              case measure => rw [rangeLeft_congr (w := w2') (HB35.out.block _ (by omega)) (HB35.out.block _ (by omega))]; exact HLT.out
            | true =>
              have hsk : keepE I (done2 ++ [(x, y)]) = keepE I done2 ++ [(x, y)] := by rw [HSN.out, hx1, hx2]; simp
              have HSK := Lib.hid hsk
              have hO5 := HO2.out.below HB35.out
              have hc5 := cell?_row (i := 1) hO5.row
              simp at hc5
              have HO5 := Lib.hid hO5
              have HPE : Hid (((x, y) :: Pal.del x (keepE I done2)).Perm (keepE I done2 ++ [(x, y)])) := Lib.hid (by
                rw [del_not (l := keepE I done2) fun p hp => HFR.out p (List.mem_filter.1 hp).1]
                exact (List.perm_append_singleton _ _).symm)
              clear hsk hx1 hx2 hO5
              go_wp2_with fail
              refine wp_region_free_tail (fun w' => w' = w5.drew) 6 (by kernel_rfl) (by kernel_rfl) rfl ?_
              simp only [List.take_succ_cons, List.take_zero, List.drop_succ_cons, List.drop_zero]
              repeat (apply wpFree_still; (intro w hw; subst hw; go_simp; (try go_ints); (first | with_reducible rfl | (go_simp; with_reducible rfl))); with_reducible rfl; (intro K hK; go_simp; (try go_ints); refine hK _ ?_; clear hK K))
              with_reducible refine wpFree_nil ?_
              rintro w' rfl
              refine wpList_putOwn rfl _ _ _ _ rfl goodE Tryz.underlying137 bE' (keepE I done2) _ rfl HO5.out.E.drew x y rfl rfl HOK.out HPE.out (by omega) ?_
              intro w6 hown hgr6 hsz6
              have hs6 : Same (fun k => k ≠ bE') w2' w6 := ((Same.of_below HB35.out).mono fun k hk _ => hk).trans ((Same.drew _ _).trans ((same_grown hgr6).mono fun k _ hk => by simpa using hk))
              have HS6 := Lib.hid hs6
              have HOWN := Lib.hid hown
              clear hs6 hown hgr6 hre5 hrt5 hc5
              go_wp2_with fail
              refine ⟨⟨_, _, _, _, _, _, _, _, _, _, _, _, _, _, _, _, _, _, _, _, _, _, _, ⟨done2 ++ [(x, y)], r1 ++ r2, perm_step HP2.out, by rw [HSK.out]; exact ⟨(row?_congr (HS6.out.block _ (by omega) (by omega))).trans HO2.out.row, HO2.out.V.congr (HS6.out.block _ (by omega) (by omega)), HOWN.out, HO2.out.ne⟩, HR2.out.congr (HS6.out.block _ (by omega) (by omega)) (HS6.out.block _ (by omega) (by omega)), (row?_congr (HS6.out.block _ (by omega) (by omega))).trans HRI2.out, HB2.out.trans (HS6.out.below (by omega) fun k hk => by omega)⟩, rfl⟩, ?_⟩
              rw [rangeLeft_congr (w := w2') (HS6.out.block _ (by omega) (by omega)) (HS6.out.block _ (by omega) (by omega))]; exact HLT.out
    · have hlt := hRr.next_lt goodV 0 hrun
      have hS2 := same_grown hgr
      have hO2 : GOk w2' g' bV' bE' ⟨keepV I done, []⟩ := HO.out.congr (hS2.block _ (by omega) (fun e => by have := Option.some.inj e; omega)) (hS2.block _ (by omega) (fun e => by have := Option.some.inj e; omega)) (hS2.block _ (by omega) (fun e => by have := Option.some.inj e; omega))
      have hri2 : row? w2' w.heap.size = some (words I) := (row?_congr (hS2.block _ (by omega) (fun e => by have := Option.some.inj e; omega))).trans HRI.out
      have hB2 : Below w.heap.size w w2' := HBr.out.trans (hS2.below (by omega) fun k hk e => by have := Option.some.inj e; omega)
      have hok := hRr.own.okd (x, y) (by rw [← HP.out.mem_iff]; simp)
      have hfr := fresh_key hRr.own.nd HP.out
      have hrun1 : (Instr.next (.pointer (some ⟨w1.heap.size, 0, none⟩)) false 0).run Tryz.prog wr = .ok (.tuple #[.bool true, .int .i64 x, .agg #[.int .u8 (y.1 : Int), .int .i64 y.2]]) w2' := hrun
      have hen1 : (Instr.entry (.pointer (some ⟨w1.heap.size, 0, none⟩))).run Tryz.prog w2' = .ok (.tuple #[.int .i64 x, .agg #[.int .u8 (y.1 : Int), .int .i64 y.2]]) w2' := hen
      have HO2 := Lib.hid hO2
      have HRI2 := Lib.hid hri2
      have HB2 := Lib.hid hB2
      have HR2 := Lib.hid hR2
      have HLT := Lib.hid hlt
      have HOK := Lib.hid hok
      have HFR := Lib.hid hfr
      have HSN := Lib.hid (keepV_snoc I done x y)
      have hlen2 : (keepV I done).length ≤ 1024 := Nat.le_trans (List.length_filter_le _ _) (by simp at hdl; omega)
      clear hp hO hRr hrI hbr hrun hR2 hgr hen hS2 hO2 hB2 hok hfr hlt
      have hw2l : w.heap.size < w2'.heap.size := by omega
      have hw2n : w.heap.size < wr.heap.size := by omega
      go_wp2_with fail
      clear hrun1 hen1
      obtain ⟨W3, hW3⟩ : ∃ W3, W3 = w2'.alloc (Obj.cells #[.int .u8 (y.1 : Int), .int .i64 y.2] 141) := ⟨_, rfl⟩
      rw [← hW3]
      have hs3' : W3.heap.size = w2'.heap.size + 1 := by rw [hW3]; simp
      have hB3 : Below w2'.heap.size w2' W3 := by rw [hW3]; exact (Below.refl _ _).alloc (Nat.le_refl _) _
      have hrt : row? W3 w2'.heap.size = some #[.int .u8 (y.1 : Int), .int .i64 y.2] := by rw [hW3]; simp [go_sem]
      clear hW3 hri2
      rw [hsz2] at hrt
      refine (HHas.out x _).mono ?_
      rintro e w5 ⟨rfl, hb5⟩
      have HB35 := Lib.hid (hB3.trans (hb5.mono hB3.size))
      have hrt5 := (row?_below hb5 (by omega)).trans hrt
      have hs5 := hb5.size
      clear hb5 hB3 hrt
      cases hx1 : hasI I x with
      | false =>
        have hsk : keepV I (done ++ [(x, y)]) = keepV I done := by rw [HSN.out, hx1]; simp
        have HSK := Lib.hid hsk
        clear hsk hx1
        go_wp2_with fail
        go_roundw
        case rel => exact ⟨done ++ [(x, y)], r1 ++ r2, perm_step HP.out, by rw [HSK.out]; exact HO2.out.below HB35.out, HR2.out.congr (HB35.out.block _ (by omega)) (HB35.out.block _ (by omega)), (row?_below HB35.out hw2l).trans HRI2.out, HB2.out.trans (HB35.out.mono HB2.out.size)⟩
        case measure => rw [rangeLeft_congr (w := w2') (HB35.out.block _ (by omega)) (HB35.out.block _ (by omega))]; exact HLT.out
      | true =>
        have hsk : keepV I (done ++ [(x, y)]) = keepV I done ++ [(x, y)] := by rw [HSN.out, hx1]; simp
        have HSK := Lib.hid hsk
        have hO5 := HO2.out.below HB35.out
        have hc5 := cell?_row (i := 0) hO5.row
        simp at hc5
        have HO5 := Lib.hid hO5
        have HPE : Hid (((x, y) :: Pal.del x (keepV I done)).Perm (keepV I done ++ [(x, y)])) := Lib.hid (by
          rw [del_not (l := keepV I done) fun p hp => HFR.out p (List.mem_filter.1 hp).1]
          exact (List.perm_append_singleton _ _).symm)
        clear hsk hx1 hO5
        go_wp2_with fail
        refine wp_region_free_tail (fun w' => w' = w5.drew) 6 (by kernel_rfl) (by kernel_rfl) rfl ?_
        simp only [List.take_succ_cons, List.take_zero, List.drop_succ_cons, List.drop_zero]
        repeat (apply wpFree_still; (intro w hw; subst hw; go_simp; (try go_ints); (first | with_reducible rfl | (go_simp; with_reducible rfl))); with_reducible rfl; (intro K hK; go_simp; (try go_ints); refine hK _ ?_; clear hK K))
        with_reducible refine wpFree_nil ?_
        rintro w' rfl
        refine wpList_putOwn rfl _ _ _ _ rfl goodV Tryz.underlying136 bV' (keepV I done) _ rfl HO5.out.V.drew x y rfl rfl HOK.out HPE.out (by omega) ?_
        intro w6 hown hgr6 hsz6
        have hs6 : Same (fun k => k ≠ bV') w2' w6 := ((Same.of_below HB35.out).mono fun k hk _ => hk).trans ((Same.drew _ _).trans ((same_grown hgr6).mono fun k _ hk => by simpa using hk))
        have HS6 := Lib.hid hs6
        have HOWN := Lib.hid hown
        clear hs6 hown hgr6 hrt5 hc5
        go_wp2_with fail
        refine ⟨⟨_, _, _, _, _, _, _, _, _, _, _, _, _, _, _, _, ⟨done ++ [(x, y)], r1 ++ r2, perm_step HP.out, by rw [HSK.out]; exact ⟨(row?_congr (HS6.out.block _ (by omega) (by omega))).trans HO2.out.row, HOWN.out, HO2.out.E.congr (HS6.out.block _ (by omega) (by omega)), HO2.out.ne⟩, HR2.out.congr (HS6.out.block _ (by omega) (by omega)) (HS6.out.block _ (by omega) (by omega)), (row?_congr (HS6.out.block _ (by omega) (by omega))).trans HRI2.out, HB2.out.trans (HS6.out.below (by omega) fun k hk => by omega)⟩, rfl⟩, ?_⟩
        rw [rangeLeft_congr (w := w2') (HS6.out.block _ (by omega) (by omega)) (HS6.out.block _ (by omega) (by omega))]; exact HLT.out
end Go.Proofs.YtpflnkedolmamaaGreatDoor
