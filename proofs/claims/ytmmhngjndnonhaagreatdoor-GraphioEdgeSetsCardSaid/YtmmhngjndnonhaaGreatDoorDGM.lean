/-
  Walks of package elimination: Steps; an order that does not fit; a nil graph.
-/
import Derived.Test.YtmmhngjndnonhaaGreatDoorDGx
set_option linter.unusedSimpArgs false
set_option linter.unusedVariables false
namespace Go.Pal
open Go
/-- The first k steps. -/
def stepsTo (f : Nat → Nat) (o : List Nat) (k : Nat) : List Bg := (List.range k).map fun i => (((o.getD i 0 : Nat) : Int), gameAt f o i (o.getD i 0))
theorem stepsTo_succ {f : Nat → Nat} {o : List Nat} {k x : Nat} (h : o[k]? = some x) : stepsTo f o (k + 1) = stepsTo f o k ++ [((x : Int), gameAt f o k x)] := by
  unfold stepsTo
  rw [List.range_succ, List.map_append, List.map_singleton]
  have : o.getD k 0 = x := by rw [List.getD_eq_getElem?_getD, h]; rfl
  rw [this]
theorem stepsTo_length (f : Nat → Nat) (o : List Nat) (k : Nat) : (stepsTo f o k).length = k := by simp [stepsTo]
theorem stepsTo_get {f : Nat → Nat} {o : List Nat} {n k x : Nat} (hk : k < n) (h : o[k]? = some x) : (stepsTo f o n)[k]? = some ((x : Int), gameAt f o k x) := by
  unfold stepsTo
  rw [List.getElem?_map, List.getElem?_range hk]
  have : o[k]?.getD 0 = x := by rw [h]; rfl
  simp [this]
end Go.Pal
namespace Go.Proofs.YtmmhngjndnonhaaGreatDoor
open Go Go.RowKit Go.Pal

theorem echeck_nil (v : Value) (w : World) : Calls Tryz.prog 199 #[v, .pointer none] w fun e w' => e = .returned (.int .i64 1) ∧ w' = w := by
  go_enter Tryz.func199, Tryz.ntmps199
  go_wp2_with fail
  go_ret
  exact ⟨rfl, rfl⟩
set_option maxHeartbeats 1000000 in
/-- walk hands on what Check says. -/
theorem ewalk_bad (n : Nat) (hn : n ≠ 0) (gv v fv : Value) (hgv : (∃ p, gv = .pointer p) ∧ ∃ a m c, v = .slice a m c) (w : World) (hc : Calls Tryz.prog 199 #[v, gv] w fun e w' => e = .returned (.int .i64 (n : Int)) ∧ Below w.heap.size w w') :
    Calls Tryz.prog 168 #[gv, v, fv] w fun e w' => e = .returned (.int .i64 (n : Int)) ∧ Below w.heap.size w w' := by
  have HC := Lib.hid hc
  obtain ⟨⟨p, rfl⟩, a, m, c, rfl⟩ := hgv
  have h2 : ((n : Int) != 0) = true := by simpa using hn
  have h3 : ((n : Int) == 0) = false := by simpa using hn
  have h4 : (n != 0) = true := by simpa using hn
  clear hc
  go_enter Tryz.func168, Tryz.ntmps168
  go_wp2_with fail
  refine HC.out.mono ?_
  rintro e w1 ⟨rfl, hb1⟩
  have HB1 := Lib.hid hb1
  clear hb1
  go_wp2_with fail
  go_ret
  exact ⟨rfl, HB1.out⟩
set_option maxHeartbeats 1000000 in
theorem esteps_bad (n : Nat) (hn : n ≠ 0) (gv v : Value) (hgv : (∃ p, gv = .pointer p) ∧ ∃ a m c, v = .slice a m c) (w : World) (hc : ∀ W, Below w.heap.size w W → Calls Tryz.prog 199 #[v, gv] W fun e w' => e = .returned (.int .i64 (n : Int)) ∧ Below W.heap.size W w') :
    Calls Tryz.prog 129 #[gv, v] w fun e w' => e = .returned (.tuple #[.slice none 0 0, .int .i64 (n : Int)]) ∧ Below w.heap.size w w' := by
  have HW := Lib.hid fun W hb fv => ewalk_bad n hn gv v fv hgv W (hc W hb)
  obtain ⟨⟨p, rfl⟩, a, m, c, rfl⟩ := hgv
  clear hc
  go_enter Tryz.func129, Tryz.ntmps129
  go_wp2_with fail
  generalize hW0 : World.alloc w _ = W0
  obtain ⟨hr0, hB0⟩ := alloc_row hW0
  have hl0 := row?_lt hr0
  clear hW0
  refine (HW.out W0 hB0 _).mono ?_
  rintro e w1 ⟨rfl, hb1⟩
  have c0 := cell?_row (i := 0) ((row?_below hb1 hl0).trans hr0)
  simp at c0
  have HB1 := Lib.hid (hB0.trans (hb1.mono hB0.size))
  clear hb1 hr0 hB0
  go_wp2_with fail
  go_ret2
  exact ⟨rfl, HB1.out⟩
set_option maxRecDepth 20000 in
set_option maxHeartbeats 1000000 in
theorem esteps_any (o : List Nat) (g bV bE : Nat) (G : Gr) (hG : G.Ok) (w : World) (v : Value) (hv : RdL w v (o.map fun i : Nat => (i : Int))) (h : GOk w g bV bE G)
    (hord : G.ordE (o.map fun i : Nat => (i : Int)) = 0) (hlt : ∀ x ∈ o, x < 1024) (hnd : o.Nodup) (hcl : Closed (fun x => G.near (x : Int)) o) (hlen : o.length ≤ 1024)
    (hT : TabOk w) (hgT : 0 < w.heap.size) :
    Calls Tryz.prog 129 #[.pointer (some ⟨g, 0, none⟩), v] w fun e w' => ∃ vs, e = .returned (.tuple #[vs, .int .i64 0]) ∧ OwnS w.heap.size w' vs (stepsTo (fun x => G.near (x : Int)) o o.length) ∧ Below w.heap.size w w' := by
  obtain ⟨f0, hf0⟩ : ∃ f0 : Nat → Nat, f0 = fun x : Nat => G.near (x : Int) := ⟨_, rfl⟩
  have hb0 : Below w.heap.size w (w.alloc (.cells #[.slice none 0 0] 190)) := (Below.refl _ w).alloc (Nat.le_refl _) _
  obtain ⟨W0, hW0⟩ : ∃ W0, W0 = w.alloc (.cells #[.slice none 0 0] 190) := ⟨_, rfl⟩
  have hr0 : row? W0 w.heap.size = some #[.slice none 0 0] := by rw [hW0]; exact row?_alloc_at _ _ _ _ rfl
  have hs0 : W0.heap.size = w.heap.size + 1 := by rw [hW0]; simp
  rw [← hW0] at hb0
  have HWalk := Lib.hid (ewalk_any o g bV bE G hG W0 (fun j => j = w.heap.size) v ((hv.rda.keep (A' := fun k => ¬ k = w.heap.size) hb0.size fun k hk hA => ⟨hb0.block k hk, by omega⟩)) (h.below hb0) hord hlt hnd hcl hlen (hT.below hb0 hgT) (by omega) (by omega)
    169 #[.pointer (some ⟨w.heap.size, 0, none⟩)] (fun args w => by simp [go_sem])
    (fun k Y W => ∃ v, row? W w.heap.size = some #[v] ∧ OwnS w.heap.size W v (stepsTo f0 o k) ∧ v.ownBlock ≠ some w.heap.size ∧ w.heap.size < W.heap.size ∧ k ≤ o.length ∧ ∀ j, Y j ↔ (j = w.heap.size ∨ v.ownBlock = some j))
    (fun k Y W W' ⟨v, h1, h2, h3, h4, h5, h6⟩ hs => ⟨v, (row?_congr (hs.block _ h4 ((h6 _).2 (.inl rfl)))).trans h1, h2.same fun j hj => hs.block j (h2.lt j hj) ((h6 j).2 (.inr hj)), h3, Nat.lt_of_lt_of_le h4 hs.size, h5, h6⟩)
    ⟨.slice none 0 0, hr0, OwnR.nil _ _, by simp [Value.ownBlock], by omega, by omega, fun j => by simp [Value.ownBlock]⟩ (fun j hj => by omega)
    (fun k x Y W vc hx ⟨v, h1, h2, h3, h4, h5, h6⟩ hsz => by
      have hk := (List.getElem?_eq_some_iff.1 hx).1
      refine (esteps1_any w.heap.size (k : Int) (x : Int) _ vc w.heap.size _ v W h1 h2 h3 (by rw [stepsTo_length]; omega) (by omega)).mono ?_
      rintro e W' ⟨rfl, v', g1, g2, g3, g4, g5⟩
      refine ⟨rfl, fun j => j = w.heap.size ∨ v'.ownBlock = some j, ⟨v', g1, ?_, g3, Nat.lt_of_lt_of_le h4 g5.size, by omega, fun j => Iff.rfl⟩, ?_, g5.mono fun j _ hn => ⟨fun e => hn ((h6 j).2 (.inl e)), fun e => hn ((h6 j).2 (.inr e))⟩⟩
      · rw [stepsTo_succ hx, hf0]
        rw [hf0] at g2
        exact g2
      · rintro j (rfl | hj)
        · exact ⟨.inl ((h6 _).2 (.inl rfl)), Nat.lt_of_lt_of_le h4 g5.size⟩
        · refine ⟨?_, g2.lt j hj⟩
          rcases g4 with e | ⟨i, e, hi⟩
          · exact .inl ((h6 j).2 (.inr (e ▸ hj)))
          · rw [e] at hj
            cases hj
            exact .inr hi))
  have HB0 := Lib.hid hb0
  rw [← hf0]
  obtain ⟨a, c, rfl, -⟩ := hv
  rw [List.length_map] at HWalk ⊢
  clear hb0 hT h hG
  go_enter Tryz.func129, Tryz.ntmps129
  go_wp2_with fail
  rw [← hW0]
  refine HWalk.out.mono ?_
  rintro e w1 ⟨rfl, Y, ⟨v, h1, h2, h3, h4, h5, h6⟩, h7, h8⟩
  have hB1 : Below w.heap.size w w1 := HB0.out.trans (h8.below (by omega) fun j hj => by omega)
  have c0 := cell?_row (i := 0) h1
  simp at c0
  have HO := Lib.hid h2
  have HB1 := Lib.hid hB1
  clear h1 h2 h3 h6 h7 h8 hB1 hW0 HWalk
  go_wp2_with fail
  go_ret2
  exact ⟨v, rfl, HO.out, HB1.out⟩
end Go.Proofs.YtmmhngjndnonhaaGreatDoor
