/-
  Walks of package treedecomp: roots, tops.
-/
import Derived.Test.YtmmhngjndnonhaaGreatDoorDTree
set_option linter.unusedSimpArgs false
set_option linter.unusedVariables false
namespace Go.Proofs.YtmmhngjndnonhaaGreatDoor
open Go Go.RowKit Go.Pal

theorem infoInt : (Tryz.prog.info? 3).map (fun i => (i.zero, i.size, i.bytes)) = some (some (.int .i64 0), 1, 8) := by kernel_rfl

/-- A row of the call's own that holds integers. -/
def OwnI (B : Nat) (w : World) (v : Value) (ns : List Int) : Prop := w.ownsRow B 3 1 v ns.length (ns.map (Value.int .i64))

theorem OwnI.alloc {B : Nat} {w : World} {v : Value} {ns : List Int} (h : OwnI B w v ns) (o : Obj) : OwnI B (w.alloc o) v ns := World.ownsRow.alloc (base := B) h o
theorem OwnI.nil (B : Nat) (w : World) : OwnI B w (.slice none 0 0) [] := World.ownsRow_nil _ _ _ _
theorem OwnI.block {B : Nat} {w : World} {v : Value} {ns : List Int} (h : OwnI B w v ns) : ∀ k, v.ownBlock = some k → B ≤ k := by
  intro k hk
  rcases h.2 with ⟨rfl, _⟩ | ⟨g, cap, cur, rfl, hg, _⟩
  · cases hk
  · simp only [Value.ownBlock, Option.some.injEq] at hk
    omega
theorem wp_appI {o : Oper} {a : Act} {K : Act → World → Prop} {Q : Exit → Act → World → Prop} {w : World} (s x : Operand)
    (ho : o.op = .call { callee := .builtin .append, args := #[s, x], argTypes := #[47, 47] }) (B : Nat) (v : Value) (ns : List Int) (hs : a.eval s = v) (hown : OwnI B w v ns)
    (g : Nat) (z : Int) (c : Nat) (hx : a.eval x = .slice (some ⟨g, 0, none⟩) 1 c) (hg : w.cell? ⟨g, 0, none⟩ = some (.int .i64 z)) (hlen : ns.length < 1000000) (hB : B ≤ w.heap.size)
    (h : ∀ v' w', OwnI B w' v' (ns ++ [z]) → Below B w w' → w.grownBy w' v.ownBlock → (v'.ownBlock = v.ownBlock ∨ v'.ownBlock = some w.heap.size) → K (a.put o.dst v') w') : o.wp Tryz.prog a w K Q := by
  obtain ⟨i0, hi, hz0, hz1, hz2⟩ := info_parts infoInt
  obtain ⟨v', w', hr, h2, h3, h4⟩ := run_append_own2 (P := Tryz.prog) w B 47 o.type 3 i0 (.int .i64 0) 1 8 Tryz.underlying47 hi hz0 hz1 hz2 rfl (by decide) v ns.length (ns.map (Value.int .i64)) hown ⟨g, 0, none⟩ 1 c (by decide) [.int .i64 z] rfl
    (fun j u hj => by
      cases j with
      | zero => simp at hj; subst hj; simpa [Addr.add] using hg
      | succ j => simp at hj) (fun u hu => by simp at hu; subst hu; rfl) (by unfold maxLen; omega) (by omega) hB
  unfold Oper.wp execOp
  simp only [ho, resolve, invoke, builtin, Sem.run_bind, Sem.run_pure, Result.andThen_ok, List.map_toArray, List.map_cons, List.map_nil, hs, hx, hr]
  refine h v' w' ?_ ((Below.refl B w).grown h3 hB hown.block) h3 h4
  unfold OwnI
  simpa using h2
/-- One integer appended to a row of the call's own. -/
theorem wpList_appI {ops : Array Oper} {rest : List Oper} {o : Oper} {a : Act} {Q : Exit → Act → World → Prop} {w : World} (hgd : o.guard = none) (s x : Operand)
    (ho : o.op = .call { callee := .builtin .append, args := #[s, x], argTypes := #[47, 47] }) (B : Nat) (v : Value) (ns : List Int) (hs : a.eval s = v) (hown : OwnI B w v ns)
    (g : Nat) (z : Int) (c : Nat) (hx : a.eval x = .slice (some ⟨g, 0, none⟩) 1 c) (hg : w.cell? ⟨g, 0, none⟩ = some (.int .i64 z)) (hlen : ns.length < 1000000) (hB : B ≤ w.heap.size)
    (h : ∀ v' w', OwnI B w' v' (ns ++ [z]) → Below B w w' → w.grownBy w' v.ownBlock → (v'.ownBlock = v.ownBlock ∨ v'.ownBlock = some w.heap.size) → wpList Tryz.prog ops Q rest (a.put o.dst v') w') : wpList Tryz.prog ops Q (o :: rest) a w := by
  refine wpList_plain hgd fun K hK => wp_appI s x ho B v ns hs hown g z c hx hg hlen hB fun v' w' h1 h2 h3 h4 => hK _ _ (h v' w' h1 h2 h3 h4)

set_option maxRecDepth 10000 in
set_option maxHeartbeats 1000000 in
theorem roots_any (T : List Bg) (v : Value) (w : World) (hv : Rd bagA 17 w.heap.size w v T) (hlen : T.length ≤ 65536) :
    Calls Tryz.prog 134 #[v] w fun e w' => ∃ v', e = .returned v' ∧ OwnI w.heap.size w' v' (rootsTo T T.length) ∧ Below w.heap.size w w' := by
  obtain ⟨a, c, rfl, hr⟩ := hv
  have HR := Lib.hid hr; clear hr
  go_enter Tryz.func134, Tryz.ntmps134
  go_wp2
  go_loopw [3, 8] (fun o i wr => ∃ k : Nat, k ≤ T.length ∧ i = .int .i64 k ∧ OwnI w.heap.size wr o (rootsTo T k) ∧ Below w.heap.size w wr) (fun _ i _ => T.length - (intOf i).toNat)
  case atStart => exact ⟨0, by omega, rfl, OwnI.nil _ _, Below.refl _ _⟩
  case round =>
    obtain ⟨k, hk, rfl, hown, hb⟩ := hrel
    have HO := Lib.hid hown; clear hown
    have HB := Lib.hid hb; clear hb
    by_cases hlt : k < T.length
    · obtain ⟨x, hx⟩ : ∃ x, T[k]? = some x := ⟨_, List.getElem?_eq_getElem hlt⟩
      have HX := Lib.hid hx
      rcases HR.out with h | ⟨b, off, rfl, hbB, hc⟩
      · rw [h] at hlt; simp at hlt
      have hl : rowLoad Tryz.prog 126 ⟨b, off + k * 17, none⟩ wr = .ok (.agg (bagA x)) wr := load_cells Tryz.isAgg126 Tryz.sizeOf126 wr b _ (bagA x) (bagA_size x) fun j u hu => (HB.out.cell (p := ⟨b, off + k * 17 + j, none⟩) hbB).trans (hc k x hx j u hu)
      have HC := Lib.hid hc
      have hs := rootsTo_succ hx
      have HS := Lib.hid hs; clear hs
      have hle := rootsTo_le T k
      have hsz := HB.out.size
      clear hx hc
      by_cases hp : x.1 = -1
      · have hp1 : (x.1 == -1) = true := by simpa using hp
        have HP := Lib.hid hp; clear hp
        go_wp2_with (at_builtin; refine wpList_appI rfl _ _ rfl (w.heap.size) _ _ rfl ((HO.out.alloc _).alloc _) _ ((k : Int)) _ rfl ?c1 ?c2 ?c3 ?_)
        case c1 => simp [go_sem]
        case c2 => omega
        case c3 => simp; omega
        intro v1 w1 hO1 hb1 hg1 hl1
        have HO1 := Lib.hid hO1
        have hB1 : Below w.heap.size w w1 := (((HB.out.alloc hsz _).alloc (by simp; omega) _)).trans hb1
        have HB1 := Lib.hid hB1
        clear hO1 hb1 hg1 hl1 hB1
        go_wp2
        go_roundw
        case rel => exact ⟨k + 1, by omega, by go_num, by rw [HS.out, if_pos HP.out]; exact HO1.out, HB1.out⟩
        case measure => simp [intOf]; omega
      · have hp1 : (x.1 == -1) = false := by simpa using hp
        have HP := Lib.hid hp; clear hp
        go_wp2
        go_roundw
        case rel => exact ⟨k + 1, by omega, by go_num, by rw [HS.out, if_neg HP.out, List.append_nil]; exact HO.out.alloc _, HB.out.alloc hsz _⟩
        case measure => simp [intOf]; omega
    · have hk' : k = T.length := by omega
      subst hk'
      go_wp2
      go_ret
      exact ⟨_, rfl, HO.out, HB.out⟩

/-- What a bag's field reads in the row of the tree. -/
theorem tree_load {T : List Bg} {b off B : Nat} {w w' : World} {i : Nat} {x : Bg} (hc : ∀ i x, T[i]? = some x → ∀ j u, (bagA x)[j]? = some u → w.cell? ⟨b, off + i * 17 + j, none⟩ = some u) (hb : Below B w w') (hB : b < B) (hx : T[i]? = some x) :
    rowLoad Tryz.prog 126 ⟨b, off + i * 17, none⟩ w' = .ok (.agg (bagA x)) w' ∧ rowLoad Tryz.prog 57 ⟨b, off + i * 17 + 1, none⟩ w' = .ok (.agg (words x.2)) w' ∧ w'.cell? ⟨b, off + i * 17, none⟩ = some (.int .i64 x.1) :=
  ⟨load_cells Tryz.isAgg126 Tryz.sizeOf126 w' b _ (bagA x) (bagA_size x) fun j u hu => (hb.cell (p := ⟨b, off + i * 17 + j, none⟩) hB).trans (hc i x hx j u hu),
   load_cells Tryz.isAgg57 Tryz.sizeOf57 w' b _ (words x.2) (words_size _) fun j u hu => by
     rw [Nat.add_assoc, Nat.add_comm 1 j]
     exact (hb.cell (p := ⟨b, off + i * 17 + (j + 1), none⟩) hB).trans (hc i x hx (j + 1) u (by rw [bagA_succ]; exact hu)),
   (hb.cell (p := ⟨b, off + i * 17, none⟩) hB).trans (by have := hc i x hx 0 _ (bagA_zero x); simpa using this)⟩

set_option maxRecDepth 10000 in
set_option maxHeartbeats 1000000 in
theorem tops_root (T : List Bg) (v : Value) (w : World) (hv : Rd bagA 17 w.heap.size w v T) (_hlen : T.length ≤ 65536) (i : Nat) (x : Bg) (hx : T[i]? = some x) (hp : x.1 = -1) :
    Calls Tryz.prog 71 #[v, .int .i64 (i : Int)] w fun e w' => e = .returned (.agg (words x.2)) ∧ Below w.heap.size w w' := by
  obtain ⟨a, c, rfl, hr⟩ := hv
  have hlt : i < T.length := (List.getElem?_eq_some_iff.1 hx).1
  rcases hr with h | ⟨b, off, rfl, hbB, hc⟩
  · rw [h] at hlt; simp at hlt
  obtain ⟨hl, -, -⟩ := tree_load hc (((Below.refl w.heap.size w).alloc (Nat.le_refl _) (Obj.cells (words 0) 57))) hbB hx
  have HC := Lib.hid hc
  have HX := Lib.hid hx
  have hp1 : (x.1 == -1) = true := by simpa using hp
  have HP := Lib.hid hp
  clear hc hx hp
  go_enter Tryz.func71, Tryz.ntmps71
  go_wp2
  refine ret_row _ (words x.2) rfl Tryz.isAgg57 Tryz.sizeOf57 rfl rfl ?_ (by simp only [words_size]) ?_
  · first | (simp [go_sem]; done) | (simp [go_sem, *]; done)
  refine ⟨rfl, ?_⟩
  (repeat' (first | (with_reducible exact Below.refl _ _) | (with_reducible assumption) | (with_reducible refine Below.alloc ?_ ?_ _) | (with_reducible refine Below.drew ?_) | (with_reducible refine Below.setCell ?_ ?_ _) | (with_reducible refine below_setRow ?_ ?_ _) | (with_reducible exact Nat.le_refl _) | omega | (simp; done) | (simp; omega) | (simp at *; omega)))

set_option maxRecDepth 10000 in
set_option maxHeartbeats 1000000 in
theorem tops_other (T : List Bg) (v : Value) (w : World) (hv : Rd bagA 17 w.heap.size w v T) (_hlen : T.length ≤ 65536) (i p : Nat) (x y : Bg) (hx : T[i]? = some x) (hp : x.1 = (p : Int)) (hy : T[p]? = some y) :
    Calls Tryz.prog 71 #[v, .int .i64 (i : Int)] w fun e w' => e = .returned (.agg (words (sDiff x.2 y.2))) ∧ Below w.heap.size w w' := by
  obtain ⟨a, c, rfl, hr⟩ := hv
  have hlt : i < T.length := (List.getElem?_eq_some_iff.1 hx).1
  have hlt2 : p < T.length := (List.getElem?_eq_some_iff.1 hy).1
  rcases hr with h | ⟨b, off, rfl, hbB, hc⟩
  · rw [h] at hlt; simp at hlt
  have hb0 := ((Below.refl w.heap.size w).alloc (Nat.le_refl _) (Obj.cells (words 0) 57))
  obtain ⟨hl, -, -⟩ := tree_load hc hb0 hbB hx
  obtain ⟨-, hl2, -⟩ := tree_load hc (((hb0.alloc (by simp) (Obj.cells (bagA x) 126))).drew) hbB hy
  have HC := Lib.hid hc
  have HX := Lib.hid hx
  have HY := Lib.hid hy
  have hp1 : (x.1 == -1) = false := by rw [hp]; simp
  obtain ⟨q, S⟩ := x
  simp only at hp
  subst hp
  clear hc hx hy hb0
  go_enter Tryz.func71, Tryz.ntmps71
  go_wp2
  refine wp_region_free_tail (fun w' => w' = ((w.alloc (.cells (words 0) 57)).alloc (.cells (bagA ((p : Int), S)) 126)).drew) 8 (by kernel_rfl) (by kernel_rfl) rfl ?_
  simp only [List.take_succ_cons, List.take_zero, List.drop_succ_cons, List.drop_zero]
  repeat (apply wpFree_still; (intro w hw; subst hw; go_simp; (try go_ints); (first | with_reducible rfl | (go_simp; with_reducible rfl))); with_reducible rfl; (intro K hK; go_simp; (try go_ints); refine hK _ ?_; clear hK K))
  with_reducible refine wpFree_nil ?_
  rintro w' rfl
  go_wp2_with fail
  refine (minus_any _ _ _).mono ?_
  rintro e w1 ⟨rfl, hb1⟩
  have hr1 : row? w1 w.heap.size = some (words 0) := (row?_below hb1 (by simp; omega)).trans (by simp [go_sem])
  have hB1 : Below w.heap.size w w1 := ((((Below.refl w.heap.size w).alloc (Nat.le_refl _) _).alloc (by simp) _).drew).trans (hb1.mono (by simp; omega))
  have HB1 := Lib.hid hB1
  clear hb1 hB1
  go_wp2
  refine ret_row _ (words (sDiff S y.2)) rfl Tryz.isAgg57 Tryz.sizeOf57 rfl rfl ?_ (by simp only [words_size]) ?_
  · first | (simp [go_sem]; done) | (simp [go_sem, *]; done)
  refine ⟨rfl, ?_⟩
  exact below_setRow HB1.out (Nat.le_refl _) _
end Go.Proofs.YtmmhngjndnonhaaGreatDoor
