/-
  Walks of package frame: New's test inside the second callback; slices.DeleteFunc with it.
-/
import Derived.Test.YtkoeeabeoefggaaGreatDoorQFrame1
namespace Go.Proofs.YtkoeeabeoefggaaGreatDoor
open Go Go.RowKit Go.Pal Go.Shelf Go.Sort

theorem new31_any (box gN o : Nat) (k h : Int) (w : World) (h1 : row? w box = some #[.pointer (some ⟨gN, o, none⟩)]) (h2 : w.cell? ⟨gN, o + 3, none⟩ = some (.int .i64 h)) :
    Calls Tryz.prog 50 #[.int .i64 k, .pointer (some ⟨box, 0, none⟩)] w fun e w' => e = .returned (.bool (k == h)) ∧ w' = w := by
  have e1 : w.cell? ⟨box, 0, none⟩ = _ := cell?_row (i := 0) h1
  simp at e1
  clear h1
  go_enter Tryz.func50, Tryz.ntmps50
  go_wp2
  go_ret
  exact ⟨rfl, rfl⟩

theorem deleteNil_any (fv : Value) (w : World) : Calls Tryz.prog 49 #[.slice none 0 0, fv] w fun e w' => e = .returned (.slice none 0 0) ∧ w' = w := by
  have HI := AnyE.slices_IndexFunc_empty (P := Tryz.prog) (ρ := Tryz.laysDeleteFuncI_ren) { Tryz.laysDeleteFuncI with } none 0 fv w
  go_enter Tryz.func49, Tryz.ntmps49
  go_wp2_with (go_at_call 78; refine HI.mono ?_; rintro e w' ⟨rfl, rfl⟩)
  go_ret
  exact ⟨rfl, rfl⟩

theorem heap_sortWorld {α : Type} [Inhabited α] (enc : α → Value) (w : World) (blk off n : Nat) (dk : Array α) (os : Array Obj) (k : Nat) (hk : k < w.heap.size) (hne : k ≠ blk) : (sortWorld enc w blk off n dk os).heap[k]? = w.heap[k]? := by
  unfold sortWorld grow putRow mapBlock Sort.ahead
  simp only
  rw [Array.getElem?_append_left (by simpa using hk), Array.getElem?_modify, if_neg (fun e => hne e.symm)]

theorem take_putCells (fl : List Int) (m : Nat) (cur : Array Value) (h : fl.length ≤ cur.size) : (putCells (Value.int .i64) 0 (fl ++ List.replicate m 0).toArray cur).toList.take (fl.length * 1) = fl.map (Value.int .i64) := by
  apply List.ext_getElem?
  intro j
  rw [List.getElem?_take, List.getElem?_map, Array.getElem?_toList]
  by_cases hj : j < fl.length
  · rw [if_pos (by omega)]
    unfold putCells
    rw [Array.getElem?_mapIdx, Array.getElem?_eq_getElem (by omega), List.getElem?_eq_getElem hj]
    simp only [Option.map_some]
    rw [if_pos ⟨Nat.zero_le _, by simp; omega⟩]
    rw [getElem!_pos _ _ (by simp; omega)]
    simp [List.getElem_append_left hj]
  · rw [if_neg (by omega), List.getElem?_eq_none (by omega)]
    rfl

theorem filter_any (B : Nat) (ns : List Int) (v : Value) (w : World) (hO : OwnI B w v ns) (box gN o : Nat) (h : Int) (hbox : box < B) (hgN : gN < B) (h1 : row? w box = some #[.pointer (some ⟨gN, o, none⟩)]) (h2 : w.cell? ⟨gN, o + 3, none⟩ = some (.int .i64 h)) (hlen : ns.length ≤ 65536) :
    Calls Tryz.prog 49 #[v, .func (.func 50) #[] #[.pointer (some ⟨box, 0, none⟩)]] w fun e w' => ∃ v', e = .returned v' ∧ OwnI B w' v' (ns.filter fun k => !(k == h)) ∧ v'.ownBlock = v.ownBlock ∧ Same (fun k => some k ≠ v.ownBlock) w w' := by
  rcases hO.2 with ⟨rfl, hn⟩ | ⟨g, cap, cur, rfl, hg, hh, hc1, hc2, hc3, hc4⟩
  · have : ns = [] := List.length_eq_zero_iff.1 hn
    subst this
    refine (deleteNil_any _ w).mono ?_
    rintro e w' ⟨rfl, rfl⟩
    exact ⟨_, rfl, OwnI.nil _ _, rfl, Same.refl _ _⟩
  · have hbs := row?_lt h1
    have hgs := (Array.getElem?_eq_some_iff.1 hh).1
    have hgN2 : gN < w.heap.size := by omega
    have hd : ∀ j, j < ns.length → w.cell? ⟨g, 0 + j, none⟩ = some (.int .i64 ns.toArray[j]!) := by
      intro j hj
      obtain ⟨g', e, _, _, hc⟩ := hO.cell (j := j) (z := ns[j]) (by rw [List.getElem?_eq_getElem hj])
      cases e
      rw [Nat.zero_add, hc, getElem!_pos ns.toArray j (by simpa using hj)]
      simp
    have key := AnyE.slices_DeleteFunc Tryz.laysDeleteFuncI (Value.int .i64) (fun _ => rfl) (fun k => k == h) 50 #[.pointer (some ⟨box, 0, none⟩)] (fun args w => by simp [go_sem]) (0 : Int) Tryz.zeroValue3 g 0 cap ns.toArray w
      (fun W x hW => ((new31_any box gN o x h W ((row?_below hW (by omega)).trans h1) ((hW.cell (p := ⟨gN, o + 3, none⟩) hgN2).trans h2)).mono fun e w' he => ⟨he.1, 0, he.2⟩))
      (fun n os dk x _ => ((new31_any box gN o x h _ ((row?_congr (heap_sortWorld _ w g 0 n dk os box (by omega) (by omega))).trans h1) ((World.cell?_of_block (heap_sortWorld _ w g 0 n dk os gN (by omega) (by omega))).trans h2)).mono fun e w' he => ⟨he.1, 0, he.2⟩))
      (fun j hj => ⟨hd j (by simpa using hj), frozen_of_row w g (0 + j) cur _ hh⟩)
      (by simp; omega) (by simpa using hc1)
    simp only [List.size_toArray] at key
    refine key.mono ?_
    rintro e w' ⟨rfl, q, rfl⟩
    have hfl : (ns.filter fun k => !(k == h)).length ≤ ns.length := List.length_filter_le _ _
    refine ⟨_, rfl, ⟨by simp, .inr ⟨g, cap, putCells (Value.int .i64) 0 ((ns.filter fun k => !(k == h)) ++ List.replicate (ns.length - (ns.filter fun k => !(k == h)).length) 0).toArray cur, rfl, hg, ?_, by omega, hc2, by rw [← hc3]; simp [putCells], ?_⟩⟩, rfl, ?_⟩
    · show (mapBlock (Sort.ahead w q) g _).heap[g]? = _
      unfold mapBlock Sort.ahead
      simp only
      rw [Array.getElem?_modify, if_pos rfl, hh]
      rfl
    · exact take_putCells _ _ _ (by rw [hc3]; omega)
    · refine ⟨rfl, rfl, rfl, by simp [putRow, mapBlock, Sort.ahead], fun k _ hk => ?_⟩
      show (mapBlock (Sort.ahead w q) g _).heap[k]? = _
      unfold mapBlock Sort.ahead
      simp only
      rw [Array.getElem?_modify, if_neg (fun e => hk (by rw [← e]; rfl))]
end Go.Proofs.YtkoeeabeoefggaaGreatDoor
