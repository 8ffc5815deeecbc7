/- A tree of bags opened out of an argument's reading. Slices of plain elements (edits, .. -/
import Derived.Test.YtglnhnjmelilmaaGreatDoorRR1g
import Derived.ProofKit
import Derived.OpenShut
import Derived.Deep.Slices
import Derived.Test.YtglnhnjmelilmaaGreatDoorRGrf
set_option linter.all false
namespace Go.Proofs.YtglnhnjmelilmaaGreatDoor
open Go Go.ChangeShapes Go.WideShapes Go.RowKit Go.Pal Go.Deep
theorem wfI64 {n : Int} (h : (Lit.int .i64 n).wf = true) : -9223372036854775808 ≤ n ∧ n ≤ 9223372036854775807 := by
 simp only [Lit.wf, Bool.and_eq_true, decide_eq_true_eq] at h
 rwa [show IntKind.i64.min = -9223372036854775808 from rfl, show IntKind.i64.max = 9223372036854775807 from rfl] at h
theorem cellsInt : Tryz.prog.cellsOf 3 = 1 := by kernel_rfl
theorem get_of_one {l : List Value} {i : Nat} {v : Value} (h : (l.drop i).take 1 = [v]) : l[i]? = some v := by
 have h1 : ((l.drop i).take 1)[0]? = some v := by rw [h]; rfl
 rw [List.getElem?_take, if_pos (by omega), List.getElem?_drop] at h1
 simpa using h1
section
variable {H : Type} {enc : TypeId × Value → H} {w : World} {base : Nat} {spare : Nat → Bool} {held : Bool}
end
theorem oc_edit : Tryz.prog.cellsOf 23 = 5 := by kernel_rfl
theorem oc_u8 : Tryz.prog.cellsOf 5 = 1 := by kernel_rfl
theorem wfU8 {n : Int} (h : (Lit.int .u8 n).wf = true) : 0 ≤ n ∧ n ≤ 255 := by
 simp only [Lit.wf, Bool.and_eq_true, decide_eq_true_eq] at h
 rwa [show IntKind.u8.min = 0 from rfl, show IntKind.u8.max = 255 from rfl] at h
section
variable {H : Type} {enc : TypeId × Value → H} {w : World} {base : Nat} {spare : Nat → Bool} {held : Bool}
theorem open_edit {fuel : Nat} {cs : List Value} {x : DataW H × List MemPlace} (h : DataW.trod enc Tryz.prog w base spare held fuel 23 cs = some x) :
   ∃ b : Ed, b.Wf ∧ cs = (edC b).toList ∧ x.2 = [] := by
 obtain ⟨xs, n, _, rfl, hl, hlen, hf⟩ := DataW.trod_struct Tryz.underlying23 h
 rw [oc_edit] at hl
 match xs, hlen with
 | [y0, y1, y2, y3, y4], _ =>
   have h0 : DataW.trod enc Tryz.prog w base spare held n 3 ((cs.drop 0).take (Tryz.prog.cellsOf 3)) = some y0 := hf 0 _ rfl
   have h1 : DataW.trod enc Tryz.prog w base spare held n 3 ((cs.drop 1).take (Tryz.prog.cellsOf 3)) = some y1 := hf 1 _ rfl
   have h2 : DataW.trod enc Tryz.prog w base spare held n 3 ((cs.drop 2).take (Tryz.prog.cellsOf 3)) = some y2 := hf 2 _ rfl
   have h3 : DataW.trod enc Tryz.prog w base spare held n 5 ((cs.drop 3).take (Tryz.prog.cellsOf 5)) = some y3 := hf 3 _ rfl
   have h4 : DataW.trod enc Tryz.prog w base spare held n 3 ((cs.drop 4).take (Tryz.prog.cellsOf 3)) = some y4 := hf 4 _ rfl
   rw [cellsInt] at h0 h1 h2 h4
   rw [oc_u8] at h3
   obtain ⟨n0, c0, z0, w0⟩ := DataW.trod_int Tryz.underlying3 h0
   obtain ⟨n1, c1, z1, w1⟩ := DataW.trod_int Tryz.underlying3 h1
   obtain ⟨n2, c2, z2, w2⟩ := DataW.trod_int Tryz.underlying3 h2
   obtain ⟨n3, c3, z3, w3⟩ := DataW.trod_int Tryz.underlying5 h3
   obtain ⟨n4, c4, z4, w4⟩ := DataW.trod_int Tryz.underlying3 h4
   have e0 := get_of_one c0
   have e1 := get_of_one c1
   have e2 := get_of_one c2
   have e3 := get_of_one c3
   have e4 := get_of_one c4
   have k0 : y0.2 = [] := by rw [z0]
   have k1 : y1.2 = [] := by rw [z1]
   have k2 : y2.2 = [] := by rw [z2]
   have k3 : y3.2 = [] := by rw [z3]
   have k4 : y4.2 = [] := by rw [z4]
   obtain ⟨u0, u1⟩ := wfU8 w3
   refine ⟨⟨n0, n1, n2, n3.toNat, n4⟩, ⟨wfI64 w0, wfI64 w1, wfI64 w2, by show n3.toNat < 256; omega, wfI64 w4⟩, ?_, by simp [k0, k1, k2, k3, k4]⟩
   have e5 : ((n3.toNat : Nat) : Int) = n3 := by omega
   apply List.ext_getElem?
   intro i
   match i with
   | 0 => rw [e0]; rfl
   | 1 => rw [e1]; rfl
   | 2 => rw [e2]; rfl
   | 3 => rw [e3]; show _ = some (Value.int .u8 ((n3.toNat : Nat) : Int)); rw [e5]
   | 4 => rw [e4]; rfl
   | i + 5 => rw [List.getElem?_eq_none (by omega)]; rfl
theorem open_row {α : Type} {st t : TypeId} (hst : Tryz.prog.underlying st = some (.slice t)) (k : Nat) (hk : 0 < k) (hct : Tryz.prog.cellsOf t = k) (e : α → Array Value) (he : ∀ x, (e x).size = k) (P : α → Prop) (d : α) (hd : P d)
   (hel : ∀ {fuel : Nat} {cs : List Value} {x : DataW H × List MemPlace}, DataW.trod enc Tryz.prog w 0 (fun _ => true) held fuel t cs = some x → ∃ b, P b ∧ cs = (e b).toList ∧ x.2 = [])
   {fuel : Nat} {v : Value} {x : DataW H × List MemPlace} (h : DataW.trod enc Tryz.prog w 0 (fun _ => true) held fuel st [v] = some x) :
   ∃ T : List α, Rd e k w.heap.size w v T ∧ (∃ a n c, v = .slice a n c ∧ n ≤ c ∧ n = T.length ∧ n ≤ 9223372036854775807 ∧ c ≤ 9223372036854775807) ∧ (∀ b ∈ T, P b) ∧ ∀ q ∈ x.2, ∀ b, q ≠ MemPlace.map b := by
 rcases open_slice hst h with ⟨hcs, rfl⟩ | ⟨a, len, cap, m, n, D, Pl, hcs, hb, hl, hm, hmm, rfl, hi⟩
 · simp at hcs
   subst hcs
   exact ⟨[], ⟨none, 0, rfl, .inl rfl⟩, ⟨none, 0, 0, rfl, Nat.le_refl _, rfl, by omega, by omega⟩, by simp, by simp⟩
 · simp at hcs
   subst hcs
   simp only [if_true] at hmm
   subst hmm
   rw [hct] at hi
   have each : ∀ i, i < m → ∃ b : α, P b ∧ Pl i = [] ∧ ∀ j u, (e b)[j]? = some u → w.cell? ((a.add (i * k)).add j) = some u := fun i him => by
     obtain ⟨cs', hc, ht⟩ := hi i him
     obtain ⟨b, h1, h3, h4⟩ := hel ht
     obtain ⟨_, hcl, hat⟩ := World.cells?_some hc
     refine ⟨b, h1, h4, fun j u hu => ?_⟩
     have hj : j < k := by have := (Array.getElem?_eq_some_iff.1 hu).1; rwa [he] at this
     have := hat j hj
     rw [h3] at this
     rw [this]
     simpa using hu
   obtain ⟨f, hf⟩ : ∃ f : Nat → α, ∀ i, i < m → P (f i) ∧ Pl i = [] ∧ ∀ j u, (e (f i))[j]? = some u → w.cell? ((a.add (i * k)).add j) = some u :=
     ⟨fun i => if h : i < m then (each i h).choose else d, fun i h => by simp only [dif_pos h]; exact (each i h).choose_spec⟩
   have hmem : ∀ b ∈ (List.range len).map f, ∃ i, i < m ∧ b = f i := fun b hb => by
     obtain ⟨i, hi, rfl⟩ := List.mem_map.1 hb
     exact ⟨i, by have := List.mem_range.1 hi; omega, rfl⟩
   refine ⟨(List.range len).map f, ?_, ⟨some a, len, m, rfl, hl, by simp, by unfold maxLen at hm; omega, by unfold maxLen at hm; omega⟩, fun b hb => ?_, fun q hq b e => ?_⟩
   · refine ⟨some a, m, by simp, ?_⟩
     rcases Nat.eq_zero_or_pos len with h0 | h0
     · subst h0; exact .inl (by simp)
     · right
       obtain ⟨xb, xo, spot⟩ := a
       have hz0 : (e (f 0))[0]? = some ((e (f 0))[0]'(by rw [he]; exact hk)) := Array.getElem?_eq_getElem _
       have hc0 := (hf 0 (by omega)).2.2 0 _ hz0
       have hspot : spot = none := by
         have := World.cell?_spot hc0
         simp [Addr.add] at this
         cases spot with
         | none => rfl
         | some z => simp at this
       subst hspot
       have hlt0 := World.block_lt_of_cell? w _ hc0
       refine ⟨xb, xo, rfl, by simpa [Addr.add] using hlt0, fun i x hx j u hu => ?_⟩
       rw [List.getElem?_map] at hx
       obtain ⟨q, hq, rfl⟩ := Option.map_eq_some_iff.1 hx
       have hki : q = i ∧ i < len := by
         have hil := (List.getElem?_eq_some_iff.1 hq).1
         rw [List.length_range] at hil
         rw [List.getElem?_range hil] at hq
         exact ⟨(Option.some.inj hq).symm, hil⟩
       obtain ⟨rfl, hil⟩ := hki
       have := (hf q (by omega)).2.2 j u hu
       have e : ((⟨xb, xo, none⟩ : Addr).add (q * k)).add j = ⟨xb, xo + q * k + j, none⟩ := by
         have ad : ∀ o n : Nat, (⟨xb, o, none⟩ : Addr).add n = ⟨xb, o + n, none⟩ := fun o n => by unfold Addr.add; split <;> simp_all
         rw [ad, ad]
       rwa [e] at this
   · obtain ⟨i, him, rfl⟩ := hmem b hb
     exact (hf i him).1
   · rcases List.mem_append.1 hq with hq | hq
     · obtain ⟨j, _, rfl⟩ := MemPlace.mem_row.1 hq
       cases e
     · obtain ⟨i, hi2, hq⟩ := List.mem_flatMap.1 hq
       rw [(hf i (List.mem_range.1 hi2)).2.1] at hq
       cases hq
end
end Go.Proofs.YtglnhnjmelilmaaGreatDoor
