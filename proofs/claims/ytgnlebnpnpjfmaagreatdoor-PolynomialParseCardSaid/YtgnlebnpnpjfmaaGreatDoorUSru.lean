/- A row of structs (not empty) sorted by the library: what the contract's world says in the .. -/
import Derived.Test.YtgnlebnpnpjfmaaGreatDoorUOw
import Derived.Shelf.SlSortCmp.WholeK
set_option linter.all false
namespace Go.Pal
open Go Go.RowKit Go.Sort Go.Shelf Go.Lib Go.Proofs
theorem Ext.grow {w w' : World} (h : Ext w w') : ∃ q os, w' = grow (w.drewN q) os := by
 refine ⟨w'.drawn - w.drawn, w'.heap.extract w.heap.size w'.heap.size, ?_⟩
 obtain ⟨⟨h1, h2, h3, h4, h5⟩, h6⟩ := h
 have hh : w'.heap = w.heap ++ w'.heap.extract w.heap.size w'.heap.size := by
   apply Array.ext_getElem?
   intro i
   by_cases hi : i < w.heap.size
   · rw [h5 i hi, Array.getElem?_append_left hi]
   · rw [Array.getElem?_append_right (by omega), Array.getElem?_extract]
     by_cases hi2 : i < w'.heap.size
     · rw [if_pos (by omega)]
       congr 1
       omega
     · rw [if_neg (by omega), Array.getElem?_eq_none (by omega)]
 have hd : w.drewN (w'.drawn - w.drawn) = { w with drawn := w'.drawn } := by
   show ({ w with drawn := w.drawn + (w'.drawn - w.drawn) } : World) = _
   rw [show w.drawn + (w'.drawn - w.drawn) = w'.drawn by omega]
 rw [hd]
 unfold Sort.grow
 cases w' with
 | mk heap' tape' drawn' os' output' =>
 simp only at h1 h2 h3 hh ⊢
 rw [h1, h2, h3, ← hh]
section
variable {α : Type} [Inhabited α] {P : Program} {e : TypeId} {k : Nat} {enc : α → Array Value}
theorem flatK_toList (E : ElT P e k enc) (d : Array α) : (flatK (fun x => (enc x).toList) k d).toList = encC enc d.toList := by
 have hk := E.pos
 apply List.ext_getElem?
 intro t
 by_cases ht : t < d.size * k
 · have hd : t / k < d.size := Nat.div_lt_of_lt_mul (by rwa [Nat.mul_comm] at ht)
   have hm : t % k < k := Nat.mod_lt _ hk
   have h1 : (flatK (fun x => (enc x).toList) k d)[t]? = some ((enc d[t / k]!).toList[t % k]!) := by
     have := get_flatK (fun x => (enc x).toList) k d t ht
     rw [getElem!_pos _ t (by simpa using ht)] at this
     rw [Array.getElem?_eq_getElem (by simpa using ht), this]
   rw [Array.getElem?_toList, h1]
   have hx : d.toList[t / k]? = some d[t / k]! := by
     rw [Array.getElem?_toList, Array.getElem?_eq_getElem hd, getElem!_pos d _ hd]
   have hu : (enc d[t / k]!)[t % k]? = some ((enc d[t / k]!).toList[t % k]!) := by
     have : t % k < (enc d[t / k]!).size := by rw [E.size]; exact hm
     have h3 : t % k < (enc d[t / k]!).toList.length := by simpa using this
     rw [← Array.getElem?_toList, List.getElem?_eq_getElem h3, getElem!_pos (enc d[t / k]!).toList _ h3]
   have := encC_get E hx hu
   rw [show t / k * k + t % k = t by rw [Nat.mul_comm]; exact Nat.div_add_mod t k] at this
   exact this.symm
 · rw [List.getElem?_eq_none (by simp; omega), List.getElem?_eq_none (by rw [encC_length E]; simp; omega)]
theorem putCells_take (F cur : Array Value) (hF : F.size ≤ cur.size) : (putCells id 0 F cur).toList.take F.size = F.toList := by
 apply List.ext_getElem?
 intro t
 rw [List.getElem?_take]
 by_cases ht : t < F.size
 · rw [if_pos ht]
   have h2 : t < cur.size := by omega
   unfold putCells
   simp [ht, h2]
 · rw [if_neg ht, List.getElem?_eq_none (by simp; omega)]
theorem sort_own {ρ : Ren} (L : SlLaysF0.n6 P ρ) (E : ElT P (ρ.t 24) k enc) (aE : ∀ w, (isAgg (ρ.t 24)).run P w = .ok true w) (zE : ∀ w, (Go.sizeOf (ρ.t 24)).run P w = .ok k w) (cf : α → α → Int) (hO : SWO (ltOf cf)) (g : Nat)
   (eg : ∀ args w, (callFunc g args).run P w = .ok (.enter g args) w) (hcmp : ∀ x y W, Calls P g #[.agg (enc x), .agg (enc y)] W fun e w' => e = .returned (.int .i64 (cf x y)) ∧ Ext W w')
   (B : Nat) (v : Value) (l : List α) (w : World) (h : OwnR (ρ.t 24) k enc B w v l) (hlen : l.length ≤ 1000000) (hne : l ≠ []) :
   Calls P (ρ.f 6) #[v, .func (.func g) #[] #[]] w fun e w' => e = .returned (.tuple #[]) ∧ ∃ l', l.Perm l' ∧ l'.Pairwise (fun x y => ltOf cf y x = false) ∧ OwnR (ρ.t 24) k enc B w' v l' ∧ Same (fun j => v.ownBlock ≠ some j) w w' := by
 rcases h.2 with ⟨rfl, h2⟩ | ⟨b, cap, cur, rfl, hB, hg, hle, hcm, hcs, htake⟩
 · exact absurd (List.length_eq_zero_iff.1 h2) hne
 · have hblk := (Array.getElem?_eq_some_iff.1 hg).1
   have hFl : (flatK (fun x => (enc x).toList) k l.toArray).size = l.length * k := by simp
   have hH : HoldsK (fun x => (enc x).toList) k w b 0 l.toArray := by
     intro j hj
     have hj' : j < l.length * k := by simpa using hj
     have h3 : (encC enc l)[j]? = some ((flatK (fun x => (enc x).toList) k l.toArray)[j]!) := by
       rw [← flatK_toList E l.toArray, Array.getElem?_toList, Array.getElem?_eq_getElem hj, getElem!_pos _ j hj]
     have h4 := World.ownsRow.cells (base := B) h (g := b) rfl _ _ h3
     have e1 : (⟨b, 0, none⟩ : Addr).add j = ⟨b, 0 + j, none⟩ := by unfold Addr.add; split <;> simp_all
     rw [e1] at h4
     exact ⟨h4, frozen_of_row w b (0 + j) cur _ hg⟩
   have key := Proofs.AnyQ.slices_SortFunc L k aE zE (fun x => (enc x).toList) (fun x => by rw [Array.length_toList, E.size]) E.one cf hO g #[] b 0 cap l.toArray w eg
     (fun m os dk _ x y => (hcmp x y _).mono fun e w' ⟨he, hx⟩ => ⟨he, hx.grow⟩) hH hblk (by simp; omega)
   have hsz : l.toArray.size = l.length := by simp
   rw [hsz] at key
   refine key.mono ?_
   rintro e w' ⟨rfl, d', n, os, hp, hs, rfl⟩
   have hd' : d'.size = l.length := by have := hp.1; simpa using this
   have hperm : l.Perm d'.toList := by
     have h3 := hp.2.2
     have e1 : d'.extract 0 l.length = d' := by rw [← hd']; exact Array.extract_size
     have e2 : l.toArray.extract 0 l.length = l.toArray := by rw [← hsz]; exact Array.extract_size
     rw [e1, e2] at h3
     exact h3.symm
   have hlen' : d'.toList.length = l.length := by simpa using hd'
   have hF' : (flatK (fun x => (enc x).toList) k d').size = l.length * k := by rw [size_flatK, hd']
   have hheap : (sortWorldK (fun x => (enc x).toList) k w b 0 n d' os).heap[b]? = some (.cells (putCells id 0 (flatK (fun x => (enc x).toList) k d') cur) (ρ.t 24) (0, 0)) := by
     unfold sortWorldK putRowK
     rw [heap_grow_old _ _ (by rw [Go.Sort.size_putRow]; exact hblk)]
     unfold putRow mapBlock
     show (w.heap.modify b _)[b]? = _
     rw [Array.getElem?_modify, if_pos rfl, hg]
     rfl
   refine ⟨rfl, d'.toList, hperm, ?_, ?_, ?_⟩
   · rw [List.pairwise_iff_getElem]
     intro i j hi hj hij
     have := hs i j (Nat.zero_le _) hij (by simpa [hd'] using hj)
     simp only [Array.length_toList] at hi hj
     rw [getElem!_pos d' j hj, getElem!_pos d' i hi] at this
     simpa using this
   · refine ⟨encC_length E _, .inr ⟨b, cap, _, by rw [hlen'], hB, hheap, by rw [hlen']; exact hle, hcm, ?_, ?_⟩⟩
     · simp [putCells, hcs]
     · rw [hlen', ← flatK_toList E d', ← hF']
       exact putCells_take _ _ (by rw [hF', hcs]; exact Nat.mul_le_mul_right _ hle)
   · refine ⟨rfl, rfl, rfl, ?_, fun j hj hne => ?_⟩
     · unfold sortWorldK putRowK
       rw [size_grow, Go.Sort.size_putRow]
       exact Nat.le_add_right _ _
     · unfold sortWorldK putRowK
       rw [heap_grow_old _ _ (by rw [Go.Sort.size_putRow]; exact hj)]
       unfold putRow mapBlock
       show (w.heap.modify b _)[j]? = _
       rw [Array.getElem?_modify, if_neg fun e => hne (by rw [e]; rfl)]
end
end Go.Pal
