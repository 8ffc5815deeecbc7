/- A tree of bags opened out of an argument's reading. Slices of plain elements (edits, .. -/
import Derived.Test.YtglnhnjmelilmaaGreatDoorSR1g
import Derived.ProofKit
import Derived.OpenShut
import Derived.Deep.Slices
import Derived.Test.YtglnhnjmelilmaaGreatDoorSGrf
set_option linter.all false
namespace Go.Proofs.YtglnhnjmelilmaaGreatDoor
open Go Go.ChangeShapes Go.WideShapes Go.RowKit Go.Pal Go.Deep
theorem wfU64 {n : Int} (h : (Lit.int .u64 n).wf = true) : 0 ≤ n ∧ n ≤ 18446744073709551615 := by
 simp only [Lit.wf, Bool.and_eq_true, decide_eq_true_eq] at h
 rwa [show IntKind.u64.min = 0 from rfl, show IntKind.u64.max = 18446744073709551615 from rfl] at h
theorem cellsSet : Tryz.prog.cellsOf 79 = 16 := by kernel_rfl
theorem cellsU64 : Tryz.prog.cellsOf 77 = 1 := by kernel_rfl
theorem get_of_one {l : List Value} {i : Nat} {v : Value} (h : (l.drop i).take 1 = [v]) : l[i]? = some v := by
 have h1 : ((l.drop i).take 1)[0]? = some v := by rw [h]; rfl
 rw [List.getElem?_take, if_pos (by omega), List.getElem?_drop] at h1
 simpa using h1
section
variable {H : Type} {enc : TypeId × Value → H} {w : World} {base : Nat} {spare : Nat → Bool} {held : Bool}
theorem open_set {fuel : Nat} {cs : List Value} {x : DataW H × List MemPlace} (h : DataW.trod enc Tryz.prog w base spare held fuel 79 cs = some x) :
   ∃ S : Nat, IsSet S ∧ cs = (words S).toList ∧ x.2 = [] := by
 obtain ⟨xs, m, _, rfl, hl, hxl, hf⟩ := DataW.trod_array Tryz.underlying79 h
 rw [cellsSet] at hl
 have each : ∀ i, i < 16 → ∃ n : Nat, cs[i]? = some (.int .u64 (n : Int)) ∧ n < 18446744073709551616 ∧ ∀ y, xs[i]? = some y → y.2 = [] := fun i hi => by
   have h1 := hf i hi
   have hx : xs[i]? = some xs[i] := List.getElem?_eq_getElem (by omega)
   rw [hx, cellsU64, Nat.mul_one] at h1
   obtain ⟨n, hcs, hy, hw⟩ := DataW.trod_int Tryz.underlying77 h1
   obtain ⟨h3, h4⟩ := wfU64 hw
   refine ⟨n.toNat, ?_, by omega, fun y hy' => ?_⟩
   · rw [get_of_one hcs, Int.toNat_of_nonneg h3]
   · rw [hx] at hy'
     cases hy'
     rw [hy]
 let l : List Nat := cs.map fun v => match v with | .int _ n => n.toNat | _ => 0
 have hlget : ∀ i, i < 16 → ∃ n : Nat, cs[i]? = some (.int .u64 (n : Int)) ∧ l[i]? = some n ∧ n < 18446744073709551616 := fun i hi => by
   obtain ⟨n, h1, h2, _⟩ := each i hi
   refine ⟨n, h1, ?_, h2⟩
   show (cs.map _)[i]? = some n
   rw [List.getElem?_map, h1]
   simp
 have hll : l.length = 16 := by show (cs.map _).length = 16; rw [List.length_map, hl]
 have hall : ∀ y ∈ l, y < 18446744073709551616 := fun y hy => by
   obtain ⟨i, hi⟩ := List.mem_iff_getElem?.1 hy
   have hil := (List.getElem?_eq_some_iff.1 hi).1
   obtain ⟨n, _, h2, h3⟩ := hlget i (by omega)
   rw [h2] at hi
   cases hi
   exact h3
 refine ⟨ofWords l, isSet_of_lt (ofWords_lt l hall) (by omega), ?_, ?_⟩
 · apply List.ext_getElem?
   intro i
   by_cases hi : i < 16
   · obtain ⟨n, h1, h2, _⟩ := hlget i hi
     have h3 := words_get (ofWords l) hi
     rw [wd_ofWords l i hall, List.getD, h2] at h3
     rw [h1]
     simpa using h3.symm
   · rw [List.getElem?_eq_none (by omega), List.getElem?_eq_none (by rw [Array.length_toList, words_size]; omega)]
 · rw [List.flatMap_eq_nil_iff]
   intro y hy
   obtain ⟨i, hi⟩ := List.mem_iff_getElem?.1 hy
   have hil := (List.getElem?_eq_some_iff.1 hi).1
   obtain ⟨_, _, _, h3⟩ := each i (by omega)
   exact h3 y hi
end
section
variable {H : Type} {enc : TypeId × Value → H} {w : World} {base : Nat} {spare : Nat → Bool} {held : Bool}
theorem open_row {α : Type} {st t : TypeId} (hst : Tryz.prog.underlying st = some (.slice t)) (k : Nat) (hk : 0 < k) (hct : Tryz.prog.cellsOf t = k) (e : α → Array Value) (he : ∀ x, (e x).size = k) (P : α → Prop) (d : α) (hd : P d)
   (hel : ∀ {fuel : Nat} {cs : List Value} {x : DataW H × List MemPlace}, DataW.trod enc Tryz.prog w 0 (fun _ => true) held fuel t cs = some x → ∃ b, P b ∧ cs = (e b).toList ∧ x.2 = [])
   {fuel : Nat} {v : Value} {x : DataW H × List MemPlace} (h : DataW.trod enc Tryz.prog w 0 (fun _ => true) held fuel st [v] = some x) :
   ∃ T : List α, Rd e k w.heap.size w v T ∧ (∃ a n c, v = .slice a n c ∧ n ≤ c ∧ n = T.length ∧ n ≤ 9223372036854775807 ∧ c ≤ 9223372036854775807) ∧ (∀ b ∈ T, P b) ∧ ∀ q ∈ x.2, ∀ b, q ≠ MemPlace.map b := by
 rcases open_slice hst h with ⟨hcs, rfl⟩ | ⟨a, len, cap, m, n, D, Pl, hcs, hb, hl, hm, hmm, rfl, hi⟩
 · simp at hcs
   subst hcs
   exact ⟨[], ⟨none, 0, rfl, .inl rfl⟩, ⟨none, 0, 0, rfl, Nat.le_refl _, rfl, by omega, by omega⟩, by simp, by simp⟩
 · simp at hcs
   subst hcs
   simp only [if_true] at hmm
   subst hmm
   rw [hct] at hi
   have each : ∀ i, i < m → ∃ b : α, P b ∧ Pl i = [] ∧ ∀ j u, (e b)[j]? = some u → w.cell? ((a.add (i * k)).add j) = some u := fun i him => by
     obtain ⟨cs', hc, ht⟩ := hi i him
     obtain ⟨b, h1, h3, h4⟩ := hel ht
     obtain ⟨_, hcl, hat⟩ := World.cells?_some hc
     refine ⟨b, h1, h4, fun j u hu => ?_⟩
     have hj : j < k := by have := (Array.getElem?_eq_some_iff.1 hu).1; rwa [he] at this
     have := hat j hj
     rw [h3] at this
     rw [this]
     simpa using hu
   obtain ⟨f, hf⟩ : ∃ f : Nat → α, ∀ i, i < m → P (f i) ∧ Pl i = [] ∧ ∀ j u, (e (f i))[j]? = some u → w.cell? ((a.add (i * k)).add j) = some u :=
     ⟨fun i => if h : i < m then (each i h).choose else d, fun i h => by simp only [dif_pos h]; exact (each i h).choose_spec⟩
   have hmem : ∀ b ∈ (List.range len).map f, ∃ i, i < m ∧ b = f i := fun b hb => by
     obtain ⟨i, hi, rfl⟩ := List.mem_map.1 hb
     exact ⟨i, by have := List.mem_range.1 hi; omega, rfl⟩
   refine ⟨(List.range len).map f, ?_, ⟨some a, len, m, rfl, hl, by simp, by unfold maxLen at hm; omega, by unfold maxLen at hm; omega⟩, fun b hb => ?_, fun q hq b e => ?_⟩
   · refine ⟨some a, m, by simp, ?_⟩
     rcases Nat.eq_zero_or_pos len with h0 | h0
     · subst h0; exact .inl (by simp)
     · right
       obtain ⟨xb, xo, spot⟩ := a
       have hz0 : (e (f 0))[0]? = some ((e (f 0))[0]'(by rw [he]; exact hk)) := Array.getElem?_eq_getElem _
       have hc0 := (hf 0 (by omega)).2.2 0 _ hz0
       have hspot : spot = none := by
         have := World.cell?_spot hc0
         simp [Addr.add] at this
         cases spot with
         | none => rfl
         | some z => simp at this
       subst hspot
       have hlt0 := World.block_lt_of_cell? w _ hc0
       refine ⟨xb, xo, rfl, by simpa [Addr.add] using hlt0, fun i x hx j u hu => ?_⟩
       rw [List.getElem?_map] at hx
       obtain ⟨q, hq, rfl⟩ := Option.map_eq_some_iff.1 hx
       have hki : q = i ∧ i < len := by
         have hil := (List.getElem?_eq_some_iff.1 hq).1
         rw [List.length_range] at hil
         rw [List.getElem?_range hil] at hq
         exact ⟨(Option.some.inj hq).symm, hil⟩
       obtain ⟨rfl, hil⟩ := hki
       have := (hf q (by omega)).2.2 j u hu
       have e : ((⟨xb, xo, none⟩ : Addr).add (q * k)).add j = ⟨xb, xo + q * k + j, none⟩ := by
         have ad : ∀ o n : Nat, (⟨xb, o, none⟩ : Addr).add n = ⟨xb, o + n, none⟩ := fun o n => by unfold Addr.add; split <;> simp_all
         rw [ad, ad]
       rwa [e] at this
   · obtain ⟨i, him, rfl⟩ := hmem b hb
     exact (hf i him).1
   · rcases List.mem_append.1 hq with hq | hq
     · obtain ⟨j, _, rfl⟩ := MemPlace.mem_row.1 hq
       cases e
     · obtain ⟨i, hi2, hq⟩ := List.mem_flatMap.1 hq
       rw [(hf i (List.mem_range.1 hi2)).2.1] at hq
       cases hq
end
end Go.Proofs.YtglnhnjmelilmaaGreatDoor
