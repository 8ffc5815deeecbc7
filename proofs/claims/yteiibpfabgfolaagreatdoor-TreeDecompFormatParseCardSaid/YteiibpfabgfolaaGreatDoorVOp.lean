/- A tree of bags opened out of an argument's reading. -/
import Derived.Test.YteiibpfabgfolaaGreatDoorVR1g
import Derived.ProofKit
import Derived.OpenShut
import Derived.Deep.Slices
set_option linter.all false
namespace Go.Proofs.YteiibpfabgfolaaGreatDoor
open Go Go.ChangeShapes Go.WideShapes Go.RowKit Go.Pal Go.Deep
theorem wfU64 {n : Int} (h : (Lit.int .u64 n).wf = true) : 0 ≤ n ∧ n ≤ 18446744073709551615 := by
 simp only [Lit.wf, Bool.and_eq_true, decide_eq_true_eq] at h
 rwa [show IntKind.u64.min = 0 from rfl, show IntKind.u64.max = 18446744073709551615 from rfl] at h
theorem wfI64 {n : Int} (h : (Lit.int .i64 n).wf = true) : -9223372036854775808 ≤ n ∧ n ≤ 9223372036854775807 := by
 simp only [Lit.wf, Bool.and_eq_true, decide_eq_true_eq] at h
 rwa [show IntKind.i64.min = -9223372036854775808 from rfl, show IntKind.i64.max = 9223372036854775807 from rfl] at h
theorem cellsBag : Tryz.prog.cellsOf 53 = 17 := by kernel_rfl
theorem cellsSet : Tryz.prog.cellsOf 51 = 16 := by kernel_rfl
theorem cellsInt : Tryz.prog.cellsOf 3 = 1 := by kernel_rfl
theorem cellsU64 : Tryz.prog.cellsOf 49 = 1 := by kernel_rfl
theorem get_of_one {l : List Value} {i : Nat} {v : Value} (h : (l.drop i).take 1 = [v]) : l[i]? = some v := by
 have h1 : ((l.drop i).take 1)[0]? = some v := by rw [h]; rfl
 rw [List.getElem?_take, if_pos (by omega), List.getElem?_drop] at h1
 simpa using h1
section
variable {H : Type} {enc : TypeId × Value → H} {w : World} {base : Nat} {spare : Nat → Bool} {held : Bool}
theorem open_set {fuel : Nat} {cs : List Value} {x : DataW H × List MemPlace} (h : DataW.trod enc Tryz.prog w base spare held fuel 51 cs = some x) :
   ∃ S : Nat, IsSet S ∧ cs = (words S).toList ∧ x.2 = [] := by
 obtain ⟨xs, m, _, rfl, hl, hxl, hf⟩ := DataW.trod_array Tryz.underlying51 h
 rw [cellsSet] at hl
 have each : ∀ i, i < 16 → ∃ n : Nat, cs[i]? = some (.int .u64 (n : Int)) ∧ n < 18446744073709551616 ∧ ∀ y, xs[i]? = some y → y.2 = [] := fun i hi => by
   have h1 := hf i hi
   have hx : xs[i]? = some xs[i] := List.getElem?_eq_getElem (by omega)
   rw [hx, cellsU64, Nat.mul_one] at h1
   obtain ⟨n, hcs, hy, hw⟩ := DataW.trod_int Tryz.underlying49 h1
   obtain ⟨h3, h4⟩ := wfU64 hw
   refine ⟨n.toNat, ?_, by omega, fun y hy' => ?_⟩
   · rw [get_of_one hcs, Int.toNat_of_nonneg h3]
   · rw [hx] at hy'
     cases hy'
     rw [hy]
 let l : List Nat := cs.map fun v => match v with | .int _ n => n.toNat | _ => 0
 have hlget : ∀ i, i < 16 → ∃ n : Nat, cs[i]? = some (.int .u64 (n : Int)) ∧ l[i]? = some n ∧ n < 18446744073709551616 := fun i hi => by
   obtain ⟨n, h1, h2, _⟩ := each i hi
   refine ⟨n, h1, ?_, h2⟩
   show (cs.map _)[i]? = some n
   rw [List.getElem?_map, h1]
   simp
 have hll : l.length = 16 := by show (cs.map _).length = 16; rw [List.length_map, hl]
 have hall : ∀ y ∈ l, y < 18446744073709551616 := fun y hy => by
   obtain ⟨i, hi⟩ := List.mem_iff_getElem?.1 hy
   have hil := (List.getElem?_eq_some_iff.1 hi).1
   obtain ⟨n, _, h2, h3⟩ := hlget i (by omega)
   rw [h2] at hi
   cases hi
   exact h3
 refine ⟨ofWords l, isSet_of_lt (ofWords_lt l hall) (by omega), ?_, ?_⟩
 · apply List.ext_getElem?
   intro i
   by_cases hi : i < 16
   · obtain ⟨n, h1, h2, _⟩ := hlget i hi
     have h3 := words_get (ofWords l) hi
     rw [wd_ofWords l i hall, List.getD, h2] at h3
     rw [h1]
     simpa using h3.symm
   · rw [List.getElem?_eq_none (by omega), List.getElem?_eq_none (by rw [Array.length_toList, words_size]; omega)]
 · rw [List.flatMap_eq_nil_iff]
   intro y hy
   obtain ⟨i, hi⟩ := List.mem_iff_getElem?.1 hy
   have hil := (List.getElem?_eq_some_iff.1 hi).1
   obtain ⟨_, _, _, h3⟩ := each i (by omega)
   exact h3 y hi
theorem open_bag {fuel : Nat} {cs : List Value} {x : DataW H × List MemPlace} (h : DataW.trod enc Tryz.prog w base spare held fuel 53 cs = some x) :
   ∃ b : Bg, IsSet b.2 ∧ (-9223372036854775808 ≤ b.1 ∧ b.1 ≤ 9223372036854775807) ∧ cs = (bagA b).toList ∧ x.2 = [] := by
 obtain ⟨y0, y1, n, rfl, hl, h0, h1⟩ := trod_struct2 Tryz.underlying53 h
 simp only at h0 h1
 rw [cellsInt] at h0
 rw [cellsSet] at h1
 rw [cellsBag] at hl
 obtain ⟨p, hcs, hy, hw⟩ := DataW.trod_int Tryz.underlying3 h0
 obtain ⟨S, hS, hcs1, hy1⟩ := open_set h1
 refine ⟨(p, S), hS, wfI64 hw, ?_, by rw [hy, hy1]; rfl⟩
 have e0 := get_of_one hcs
 apply List.ext_getElem?
 intro i
 match i with
 | 0 => rw [e0]; simpa using (bagA_zero (p, S)).symm
 | i + 1 =>
   have h3 : ((cs.drop 1).take 16)[i]? = (words S)[i]? := by rw [hcs1]; simp
   have h4 : (bagA (p, S)).toList[i + 1]? = (words S)[i]? := by rw [Array.getElem?_toList, bagA_succ]
   rw [h4, ← h3, List.getElem?_take]
   by_cases hi : i < 16
   · rw [if_pos hi, List.getElem?_drop, Nat.add_comm]
   · rw [if_neg hi, List.getElem?_eq_none (by omega)]
theorem open_tree {fuel : Nat} {v : Value} {x : DataW H × List MemPlace} (h : DataW.trod enc Tryz.prog w 0 (fun _ => true) held fuel 23 [v] = some x) :
   ∃ T : List Bg, Rd bagA 17 w.heap.size w v T ∧ (∃ a n c, v = .slice a n c ∧ n ≤ c) ∧ T.length ≤ 9223372036854775807 ∧ (∀ b ∈ T, IsSet b.2) ∧ (∀ b ∈ T, -9223372036854775808 ≤ b.1 ∧ b.1 ≤ 9223372036854775807) ∧ ∀ q ∈ x.2, ∀ b, q ≠ MemPlace.map b := by
 rcases open_slice Tryz.underlying23 h with ⟨hcs, rfl⟩ | ⟨a, len, cap, m, n, D, Pl, hcs, hb, hl, hm, hmm, rfl, hi⟩
 · simp at hcs
   subst hcs
   exact ⟨[], ⟨none, 0, rfl, .inl rfl⟩, ⟨none, 0, 0, rfl, Nat.le_refl _⟩, by simp, by simp, by simp, by simp⟩
 · simp at hcs
   subst hcs
   simp only [if_true] at hmm
   subst hmm
   rw [cellsBag] at hi
   have each : ∀ i, i < m → ∃ b : Bg, IsSet b.2 ∧ (-9223372036854775808 ≤ b.1 ∧ b.1 ≤ 9223372036854775807) ∧ Pl i = [] ∧ ∀ j u, (bagA b)[j]? = some u → w.cell? ((a.add (i * 17)).add j) = some u := fun i him => by
     obtain ⟨cs', hc, ht⟩ := hi i him
     obtain ⟨b, h1, h2, h3, h4⟩ := open_bag ht
     obtain ⟨_, hcl, hat⟩ := World.cells?_some hc
     refine ⟨b, h1, h2, h4, fun j u hu => ?_⟩
     have hj : j < 17 := by have := (Array.getElem?_eq_some_iff.1 hu).1; rwa [bagA_size] at this
     have := hat j hj
     rw [h3] at this
     rw [this]
     simpa using hu
   obtain ⟨f, hf⟩ : ∃ f : Nat → Bg, ∀ i, i < m → IsSet (f i).2 ∧ (-9223372036854775808 ≤ (f i).1 ∧ (f i).1 ≤ 9223372036854775807) ∧ Pl i = [] ∧ ∀ j u, (bagA (f i))[j]? = some u → w.cell? ((a.add (i * 17)).add j) = some u :=
     ⟨fun i => if h : i < m then (each i h).choose else (0, 0), fun i h => by simp only [dif_pos h]; exact (each i h).choose_spec⟩
   have hmem : ∀ b ∈ (List.range len).map f, ∃ i, i < m ∧ b = f i := fun b hb => by
     obtain ⟨i, hi, rfl⟩ := List.mem_map.1 hb
     exact ⟨i, by have := List.mem_range.1 hi; omega, rfl⟩
   refine ⟨(List.range len).map f, ?_, ⟨some a, len, m, rfl, hl⟩, by unfold maxLen at hm; simp; omega, fun b hb => ?_, fun b hb => ?_, fun q hq b e => ?_⟩
   · refine ⟨some a, m, by simp, ?_⟩
     rcases Nat.eq_zero_or_pos len with h0 | h0
     · subst h0; exact .inl (by simp)
     · right
       obtain ⟨xb, xo, spot⟩ := a
       have hc0 := (hf 0 (by omega)).2.2.2 0 _ (bagA_zero (f 0))
       have hspot : spot = none := by
         have := World.cell?_spot hc0
         simp [Addr.add] at this
         cases spot with
         | none => rfl
         | some z => simp at this
       subst hspot
       have hlt0 := World.block_lt_of_cell? w _ hc0
       refine ⟨xb, xo, rfl, by simpa [Addr.add] using hlt0, fun i x hx j u hu => ?_⟩
       rw [List.getElem?_map] at hx
       obtain ⟨k, hk, rfl⟩ := Option.map_eq_some_iff.1 hx
       have hki : k = i ∧ i < len := by
         have hil := (List.getElem?_eq_some_iff.1 hk).1
         rw [List.length_range] at hil
         rw [List.getElem?_range hil] at hk
         exact ⟨(Option.some.inj hk).symm, hil⟩
       obtain ⟨rfl, hil⟩ := hki
       have := (hf k (by omega)).2.2.2 j u hu
       have e : ((⟨xb, xo, none⟩ : Addr).add (k * 17)).add j = ⟨xb, xo + k * 17 + j, none⟩ := by
         have ad : ∀ o n : Nat, (⟨xb, o, none⟩ : Addr).add n = ⟨xb, o + n, none⟩ := fun o n => by unfold Addr.add; split <;> simp_all
         rw [ad, ad]
       rwa [e] at this
   · obtain ⟨i, him, rfl⟩ := hmem b hb
     exact (hf i him).1
   · obtain ⟨i, him, rfl⟩ := hmem b hb
     exact (hf i him).2.1
   · rcases List.mem_append.1 hq with hq | hq
     · obtain ⟨j, _, rfl⟩ := MemPlace.mem_row.1 hq
       cases e
     · obtain ⟨i, hi2, hq⟩ := List.mem_flatMap.1 hq
       rw [(hf i (List.mem_range.1 hi2)).2.2.1] at hq
       cases hq
end
end Go.Proofs.YteiibpfabgfolaaGreatDoor
