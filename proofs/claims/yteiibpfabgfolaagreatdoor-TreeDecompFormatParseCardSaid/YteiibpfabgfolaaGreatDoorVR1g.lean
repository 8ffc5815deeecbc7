/- Walks of package treedecomp. Walks of package treedecomp: roots, tops. Walks of the .. -/
import Derived.Test.YteiibpfabgfolaaGreatDoorVSets
import Derived.Test.YteiibpfabgfolaaGreatDoorVPlain
set_option maxHeartbeats 1000000
set_option maxRecDepth 10000
set_option linter.all false
namespace Go.Proofs.YteiibpfabgfolaaGreatDoor
open Go Go.RowKit Go.Pal
@[go_sem ↓ high] theorem loadBag (a : Addr) : loadVar 53 a = loadLater 53 a := rfl
@[go_sem ↓ high] theorem storeBag (a : Addr) (v : Value) : storeVar 53 a v = storeLater 53 a v := rfl
@[go_sem] theorem loadBag_run (w : World) (a : Addr) : (loadLater 53 a).run Tryz.prog w = rowLoad Tryz.prog 53 a w := rfl
@[go_sem] theorem storeBag_run (w : World) (a : Addr) (v : Value) : (storeLater 53 a v).run Tryz.prog w = rowStore Tryz.prog 53 a v w := rfl
@[go_sem] theorem storeBag_at (w : World) (g : Nat) (d : Array Value) : rowStore Tryz.prog 53 ⟨g, 0, none⟩ (.agg d) w = match row? w g with
     | some c => if c.size = 17 ∧ d.size = 17 ∧ allOne d = true then .ok () (w.setRow g d) else laterStore Tryz.prog 53 ⟨g, 0, none⟩ (.agg d) w
     | none => laterStore Tryz.prog 53 ⟨g, 0, none⟩ (.agg d) w := store_row Tryz.sizeOf53 w g d
@[go_sem ↓ high] theorem zeroBag (w : World) : (zeroValue 53).run Tryz.prog w = .ok (.agg (bagA (0, 0))) w := by rw [Tryz.zeroValue53]; rfl
attribute [go_sem] bagA_size bagA_zero bagA_get0 bagA_extract
@[go_sem] theorem allOne_bagA (b : Bg) : allOne (bagA b) = true := by
 unfold allOne
 rw [Array.all_eq_true_iff_forall_mem]
 exact fun v hv => bagA_one b v (by simpa using hv)
theorem indexFuncT (p : Bg → Bool) (g : Nat) (lb : Array Value) (eg : ∀ args w, (callFunc g args).run Tryz.prog w = .ok (.enter g args) w) (T : List Bg) (v : Value) (w : World) (hv : Rd bagA 17 w.heap.size w v T) (hlen : T.length ≤ 9223372036854775807)
   (hp : ∀ W, Below w.heap.size w W → ∀ x ∈ T, Calls Tryz.prog g (#[.agg (bagA x)] ++ lb) W fun e W' => e = .returned (.bool (p x)) ∧ Below W.heap.size W W') :
   Calls Tryz.prog 97 #[v, .func (.func g) #[] lb] w fun e w' => e = .returned (.int .i64 (idx p T)) ∧ Below w.heap.size w w' := by
 obtain ⟨a, c, rfl, hr⟩ := hv
 have HP := Lib.hid hp; clear hp
 have HR := Lib.hid hr; clear hr
 go_enter Tryz.func97, Tryz.ntmps97
 go_wp2
 go_loopw [8] (fun i wr => ∃ k : Nat, k ≤ T.length ∧ i = .int .i64 k ∧ (∀ j x, j < k → T[j]? = some x → p x = false) ∧ Below w.heap.size w wr) (fun i _ => T.length - (intOf i).toNat)
 case atStart => exact ⟨0, by omega, rfl, fun j x hj => by omega, Below.refl _ _⟩
 case round =>
   obtain ⟨k, hk, rfl, hno, hb⟩ := hrel
   have HN := Lib.hid hno; clear hno
   by_cases hlt : k < T.length
   · obtain ⟨x, hx⟩ : ∃ x, T[k]? = some x := ⟨_, List.getElem?_eq_getElem hlt⟩
     have HX := Lib.hid hx
     rcases HR.out with h | ⟨b, off, rfl, hbB, hc⟩
     · rw [h] at hlt; simp at hlt
     have hl : rowLoad Tryz.prog 53 ⟨b, off + k * 17, none⟩ wr = .ok (.agg (bagA x)) wr := load_cells Tryz.isAgg53 Tryz.sizeOf53 wr b _ (bagA x) (bagA_size x) fun j u hu => (hb.cell (p := ⟨b, off + k * 17 + j, none⟩) hbB).trans (hc k x hx j u hu)
     have HC := Lib.hid hc
     have HB := Lib.hid hb
     clear hx hc
     go_wp2_with fail
     refine (HP.out wr HB.out x (List.mem_of_getElem? HX.out)).mono ?_
     rintro e w1 ⟨rfl, hb1⟩
     have hB1 : Below w.heap.size w w1 := HB.out.trans (hb1.mono HB.out.size)
     cases hpx : p x with
     | true =>
       go_wp2
       go_ret
       refine ⟨?_, hB1⟩
       rw [idx_some HX.out hpx HN.out]
       rfl
     | false =>
       have HPX := Lib.hid hpx; clear hpx
       go_wp2
       go_roundw
       case rel => exact ⟨k + 1, by omega, by go_num, fun j y hj hy => by
         by_cases h : j = k
         · subst h
           have := HX.out
           rw [hy] at this
           cases this
           exact HPX.out
         · exact HN.out j y (by omega) hy, hB1⟩
       case measure => simp [intOf]; omega
   · have hk' : k = T.length := by omega
     have HK := Lib.hid hk'; clear hk'
     have HR2 := HR
     go_wp2
     go_ret
     refine ⟨?_, hb⟩
     rw [idx_none fun j x hx => HN.out j x (by have := (List.getElem?_eq_some_iff.1 hx).1; have := HK.out; omega) hx]
     rfl
theorem containsFuncT (p : Bg → Bool) (g : Nat) (lb : Array Value) (eg : ∀ args w, (callFunc g args).run Tryz.prog w = .ok (.enter g args) w) (T : List Bg) (v : Value) (w : World) (hv : Rd bagA 17 w.heap.size w v T) (hlen : T.length ≤ 9223372036854775807)
   (hp : ∀ W, Below w.heap.size w W → ∀ x ∈ T, Calls Tryz.prog g (#[.agg (bagA x)] ++ lb) W fun e W' => e = .returned (.bool (p x)) ∧ Below W.heap.size W W') :
   Calls Tryz.prog 49 #[v, .func (.func g) #[] lb] w fun e w' => e = .returned (.bool (T.any p)) ∧ Below w.heap.size w w' := by
 have HC := Lib.hid (indexFuncT p g lb eg T v w hv hlen hp)
 clear hv hp eg
 go_enter Tryz.func49, Tryz.ntmps49
 go_wp2_with (go_at_call 97; refine HC.out.mono ?_; rintro e w' ⟨rfl, hb⟩)
 go_ret
 refine ⟨?_, hb⟩
 rw [← idx_nonneg]
 rfl
theorem check1_any (b : Bg) (g : Nat) (v : Value) (n : Nat) (w : World) (hv : row? w g = some #[v]) (hn : ∃ a c, v = .slice a n c) :
   Calls Tryz.prog 52 #[.agg (bagA b), .pointer (some ⟨g, 0, none⟩)] w fun e w' => e = .returned (.bool (decide (b.1 < -1) || decide ((n : Int) ≤ b.1))) ∧ Below w.heap.size w w' := by
 obtain ⟨a, c, rfl⟩ := hn
 have hg := row?_lt hv
 have c0 := (cell?_row (i := 0) hv)
 simp at c0
 have Hv := Lib.hid hv; clear hv
 by_cases h1 : b.1 < -1
 · go_enter Tryz.func52, Tryz.ntmps52
   have h1' : decide (b.1 < -1) = true := by simpa using h1
   go_wp2
   go_ret
   refine ⟨by simp [h1], ?_⟩
   (repeat' (first | (with_reducible first | exact Below.refl _ _ | assumption | refine Below.alloc ?_ ?_ _ | refine Below.drew ?_ | refine Below.setCell ?_ ?_ _ | refine below_setRow ?_ ?_ _ | exact Nat.le_refl _) | omega | (simp; done) | (simp; omega) | (simp at *; omega)))
 · have h1' : decide (b.1 < -1) = false := by simpa using h1
   go_enter Tryz.func52, Tryz.ntmps52
   go_wp2
   go_ret
   refine ⟨by simp, ?_⟩
   (repeat' (first | (with_reducible first | exact Below.refl _ _ | assumption | refine Below.alloc ?_ ?_ _ | refine Below.drew ?_ | refine Below.setCell ?_ ?_ _ | refine below_setRow ?_ ?_ _ | exact Nat.le_refl _) | omega | (simp; done) | (simp; omega) | (simp at *; omega)))
theorem infoInt : (Tryz.prog.info? 3).map (fun i => (i.zero, i.size, i.bytes)) = some (some (.int .i64 0), 1, 8) := by kernel_rfl
def OwnI (B : Nat) (w : World) (v : Value) (ns : List Int) : Prop := w.ownsRow B 3 1 v ns.length (ns.map (Value.int .i64))
theorem OwnI.alloc {B : Nat} {w : World} {v : Value} {ns : List Int} (h : OwnI B w v ns) (o : Obj) : OwnI B (w.alloc o) v ns := World.ownsRow.alloc (base := B) h o
theorem OwnI.nil (B : Nat) (w : World) : OwnI B w (.slice none 0 0) [] := World.ownsRow_nil _ _ _ _
theorem OwnI.block {B : Nat} {w : World} {v : Value} {ns : List Int} (h : OwnI B w v ns) : ∀ k, v.ownBlock = some k → B ≤ k := by
 intro k hk
 rcases h.2 with ⟨rfl, _⟩ | ⟨g, cap, cur, rfl, hg, _⟩
 · cases hk
 · simp only [Value.ownBlock, Option.some.injEq] at hk
   omega
theorem wp_appI {o : Oper} {a : Act} {K : Act → World → Prop} {Q : Exit → Act → World → Prop} {w : World} (s x : Operand)
   (ho : o.op = .call { callee := .builtin .append, args := #[s, x], argTypes := #[46, 46] }) (B : Nat) (v : Value) (ns : List Int) (hs : a.eval s = v) (hown : OwnI B w v ns)
   (g : Nat) (z : Int) (c : Nat) (hx : a.eval x = .slice (some ⟨g, 0, none⟩) 1 c) (hg : w.cell? ⟨g, 0, none⟩ = some (.int .i64 z)) (hlen : ns.length < 1000000) (hB : B ≤ w.heap.size)
   (h : ∀ v' w', OwnI B w' v' (ns ++ [z]) → Below B w w' → w.grownBy w' v.ownBlock → (v'.ownBlock = v.ownBlock ∨ v'.ownBlock = some w.heap.size) → K (a.put o.dst v') w') : o.wp Tryz.prog a w K Q := by
 obtain ⟨i0, hi, hz0, hz1, hz2⟩ := info_parts infoInt
 obtain ⟨v', w', hr, h2, h3, h4⟩ := run_append_own2 (P := Tryz.prog) w B 46 o.type 3 i0 (.int .i64 0) 1 8 Tryz.underlying46 hi hz0 hz1 hz2 rfl (by decide) v ns.length (ns.map (Value.int .i64)) hown ⟨g, 0, none⟩ 1 c (by decide) [.int .i64 z] rfl
   (fun j u hj => by
     cases j with
     | zero => simp at hj; subst hj; simpa [Addr.add] using hg
     | succ j => simp at hj) (fun u hu => by simp at hu; subst hu; rfl) (by unfold maxLen; omega) (by omega) hB
 unfold Oper.wp execOp
 simp only [ho, resolve, invoke, builtin, Sem.run_bind, Sem.run_pure, Result.andThen_ok, List.map_toArray, List.map_cons, List.map_nil, hs, hx, hr]
 refine h v' w' ?_ ((Below.refl B w).grown h3 hB hown.block) h3 h4
 unfold OwnI
 simpa using h2
theorem wpList_appI {ops : Array Oper} {rest : List Oper} {o : Oper} {a : Act} {Q : Exit → Act → World → Prop} {w : World} (hgd : o.guard = none) (s x : Operand)
   (ho : o.op = .call { callee := .builtin .append, args := #[s, x], argTypes := #[46, 46] }) (B : Nat) (v : Value) (ns : List Int) (hs : a.eval s = v) (hown : OwnI B w v ns)
   (g : Nat) (z : Int) (c : Nat) (hx : a.eval x = .slice (some ⟨g, 0, none⟩) 1 c) (hg : w.cell? ⟨g, 0, none⟩ = some (.int .i64 z)) (hlen : ns.length < 1000000) (hB : B ≤ w.heap.size)
   (h : ∀ v' w', OwnI B w' v' (ns ++ [z]) → Below B w w' → w.grownBy w' v.ownBlock → (v'.ownBlock = v.ownBlock ∨ v'.ownBlock = some w.heap.size) → wpList Tryz.prog ops Q rest (a.put o.dst v') w') : wpList Tryz.prog ops Q (o :: rest) a w := by
 refine wpList_plain hgd fun K hK => wp_appI s x ho B v ns hs hown g z c hx hg hlen hB fun v' w' h1 h2 h3 h4 => hK _ _ (h v' w' h1 h2 h3 h4)
theorem roots_any (T : List Bg) (v : Value) (w : World) (hv : Rd bagA 17 w.heap.size w v T) (hlen : T.length ≤ 65536) :
   Calls Tryz.prog 53 #[v] w fun e w' => ∃ v', e = .returned v' ∧ OwnI w.heap.size w' v' (rootsTo T T.length) ∧ Below w.heap.size w w' := by
 obtain ⟨a, c, rfl, hr⟩ := hv
 have HR := Lib.hid hr; clear hr
 go_enter Tryz.func53, Tryz.ntmps53
 go_wp2
 go_loopw [3, 8] (fun o i wr => ∃ k : Nat, k ≤ T.length ∧ i = .int .i64 k ∧ OwnI w.heap.size wr o (rootsTo T k) ∧ Below w.heap.size w wr) (fun _ i _ => T.length - (intOf i).toNat)
 case atStart => exact ⟨0, by omega, rfl, OwnI.nil _ _, Below.refl _ _⟩
 case round =>
   obtain ⟨k, hk, rfl, hown, hb⟩ := hrel
   have HO := Lib.hid hown; clear hown
   have HB := Lib.hid hb; clear hb
   by_cases hlt : k < T.length
   · obtain ⟨x, hx⟩ : ∃ x, T[k]? = some x := ⟨_, List.getElem?_eq_getElem hlt⟩
     have HX := Lib.hid hx
     rcases HR.out with h | ⟨b, off, rfl, hbB, hc⟩
     · rw [h] at hlt; simp at hlt
     have hl : rowLoad Tryz.prog 53 ⟨b, off + k * 17, none⟩ wr = .ok (.agg (bagA x)) wr := load_cells Tryz.isAgg53 Tryz.sizeOf53 wr b _ (bagA x) (bagA_size x) fun j u hu => (HB.out.cell (p := ⟨b, off + k * 17 + j, none⟩) hbB).trans (hc k x hx j u hu)
     have HC := Lib.hid hc
     have hs := rootsTo_succ hx
     have HS := Lib.hid hs; clear hs
     have hle := rootsTo_le T k
     have hsz := HB.out.size
     clear hx hc
     by_cases hp : x.1 = -1
     · have hp1 : (x.1 == -1) = true := by simpa using hp
       have HP := Lib.hid hp; clear hp
       go_wp2_with (at_builtin; refine wpList_appI rfl _ _ rfl (w.heap.size) _ _ rfl ((HO.out.alloc _).alloc _) _ ((k : Int)) _ rfl ?c1 ?c2 ?c3 ?_)
       case c1 => simp [go_sem]
       case c2 => omega
       case c3 => simp; omega
       intro v1 w1 hO1 hb1 hg1 hl1
       have HO1 := Lib.hid hO1
       have hB1 : Below w.heap.size w w1 := (((HB.out.alloc hsz _).alloc (by simp; omega) _)).trans hb1
       have HB1 := Lib.hid hB1
       clear hO1 hb1 hg1 hl1 hB1
       go_wp2
       go_roundw
       case rel => exact ⟨k + 1, by omega, by go_num, by rw [HS.out, if_pos HP.out]; exact HO1.out, HB1.out⟩
       case measure => simp [intOf]; omega
     · have hp1 : (x.1 == -1) = false := by simpa using hp
       have HP := Lib.hid hp; clear hp
       go_wp2
       go_roundw
       case rel => exact ⟨k + 1, by omega, by go_num, by rw [HS.out, if_neg HP.out, List.append_nil]; exact HO.out.alloc _, HB.out.alloc hsz _⟩
       case measure => simp [intOf]; omega
   · have hk' : k = T.length := by omega
     subst hk'
     go_wp2
     go_ret
     exact ⟨_, rfl, HO.out, HB.out⟩
theorem tree_load {T : List Bg} {b off B : Nat} {w w' : World} {i : Nat} {x : Bg} (hc : ∀ i x, T[i]? = some x → ∀ j u, (bagA x)[j]? = some u → w.cell? ⟨b, off + i * 17 + j, none⟩ = some u) (hb : Below B w w') (hB : b < B) (hx : T[i]? = some x) :
   rowLoad Tryz.prog 53 ⟨b, off + i * 17, none⟩ w' = .ok (.agg (bagA x)) w' ∧ rowLoad Tryz.prog 51 ⟨b, off + i * 17 + 1, none⟩ w' = .ok (.agg (words x.2)) w' ∧ w'.cell? ⟨b, off + i * 17, none⟩ = some (.int .i64 x.1) :=
 ⟨load_cells Tryz.isAgg53 Tryz.sizeOf53 w' b _ (bagA x) (bagA_size x) fun j u hu => (hb.cell (p := ⟨b, off + i * 17 + j, none⟩) hB).trans (hc i x hx j u hu),
  load_cells Tryz.isAgg51 Tryz.sizeOf51 w' b _ (words x.2) (words_size _) fun j u hu => by
    rw [Nat.add_assoc, Nat.add_comm 1 j]
    exact (hb.cell (p := ⟨b, off + i * 17 + (j + 1), none⟩) hB).trans (hc i x hx (j + 1) u (by rw [bagA_succ]; exact hu)),
  (hb.cell (p := ⟨b, off + i * 17, none⟩) hB).trans (by have := hc i x hx 0 _ (bagA_zero x); simpa using this)⟩
theorem tops_root (T : List Bg) (v : Value) (w : World) (hv : Rd bagA 17 w.heap.size w v T) (_hlen : T.length ≤ 65536) (i : Nat) (x : Bg) (hx : T[i]? = some x) (hp : x.1 = -1) :
   Calls Tryz.prog 55 #[v, .int .i64 (i : Int)] w fun e w' => e = .returned (.agg (words x.2)) ∧ Below w.heap.size w w' := by
 obtain ⟨a, c, rfl, hr⟩ := hv
 have hlt : i < T.length := (List.getElem?_eq_some_iff.1 hx).1
 rcases hr with h | ⟨b, off, rfl, hbB, hc⟩
 · rw [h] at hlt; simp at hlt
 obtain ⟨hl, -, -⟩ := tree_load hc (((Below.refl w.heap.size w).alloc (Nat.le_refl _) (Obj.cells (words 0) 51))) hbB hx
 have HC := Lib.hid hc
 have HX := Lib.hid hx
 have hp1 : (x.1 == -1) = true := by simpa using hp
 have HP := Lib.hid hp
 clear hc hx hp
 go_enter Tryz.func55, Tryz.ntmps55
 go_wp2
 refine ret_row _ (words x.2) rfl Tryz.isAgg51 Tryz.sizeOf51 rfl rfl ?_ (by simp only [words_size]) ?_
 · first | (simp [go_sem]; done) | (simp [go_sem, *]; done)
 refine ⟨rfl, ?_⟩
 (repeat' (first | (with_reducible first | exact Below.refl _ _ | assumption | refine Below.alloc ?_ ?_ _ | refine Below.drew ?_ | refine Below.setCell ?_ ?_ _ | refine below_setRow ?_ ?_ _ | exact Nat.le_refl _) | omega | (simp; done) | (simp; omega) | (simp at *; omega)))
theorem tops_other (T : List Bg) (v : Value) (w : World) (hv : Rd bagA 17 w.heap.size w v T) (_hlen : T.length ≤ 65536) (i p : Nat) (x y : Bg) (hx : T[i]? = some x) (hp : x.1 = (p : Int)) (hy : T[p]? = some y) :
   Calls Tryz.prog 55 #[v, .int .i64 (i : Int)] w fun e w' => e = .returned (.agg (words (sDiff x.2 y.2))) ∧ Below w.heap.size w w' := by
 obtain ⟨a, c, rfl, hr⟩ := hv
 have hlt : i < T.length := (List.getElem?_eq_some_iff.1 hx).1
 have hlt2 : p < T.length := (List.getElem?_eq_some_iff.1 hy).1
 rcases hr with h | ⟨b, off, rfl, hbB, hc⟩
 · rw [h] at hlt; simp at hlt
 have hb0 := ((Below.refl w.heap.size w).alloc (Nat.le_refl _) (Obj.cells (words 0) 51))
 obtain ⟨hl, -, -⟩ := tree_load hc hb0 hbB hx
 obtain ⟨-, hl2, -⟩ := tree_load hc (((hb0.alloc (by simp) (Obj.cells (bagA x) 53))).drew) hbB hy
 have HC := Lib.hid hc
 have HX := Lib.hid hx
 have HY := Lib.hid hy
 have hp1 : (x.1 == -1) = false := by rw [hp]; simp
 obtain ⟨q, S⟩ := x
 simp only at hp
 subst hp
 clear hc hx hy hb0
 go_enter Tryz.func55, Tryz.ntmps55
 go_wp2
 refine wp_region_free_tail (fun w' => w' = ((w.alloc (.cells (words 0) 51)).alloc (.cells (bagA ((p : Int), S)) 53)).drew) 8 (by kernel_rfl) (by kernel_rfl) rfl ?_
 simp only [List.take_succ_cons, List.take_zero, List.drop_succ_cons, List.drop_zero]
 repeat (apply wpFree_still; (intro w hw; subst hw; go_simp; (try go_ints); (first | with_reducible rfl | (go_simp; with_reducible rfl))); with_reducible rfl; (intro K hK; go_simp; (try go_ints); refine hK _ ?_; clear hK K))
 with_reducible refine wpFree_nil ?_
 rintro w' rfl
 go_wp2_with fail
 refine (minus_any _ _ _).mono ?_
 rintro e w1 ⟨rfl, hb1⟩
 have hr1 : row? w1 w.heap.size = some (words 0) := (row?_below hb1 (by simp; omega)).trans (by simp [go_sem])
 have hB1 : Below w.heap.size w w1 := ((((Below.refl w.heap.size w).alloc (Nat.le_refl _) _).alloc (by simp) _).drew).trans (hb1.mono (by simp; omega))
 have HB1 := Lib.hid hB1
 clear hb1 hB1
 go_wp2
 refine ret_row _ (words (sDiff S y.2)) rfl Tryz.isAgg51 Tryz.sizeOf51 rfl rfl ?_ (by simp only [words_size]) ?_
 · first | (simp [go_sem]; done) | (simp [go_sem, *]; done)
 refine ⟨rfl, ?_⟩
 exact below_setRow HB1.out (Nat.le_refl _) _
end Go.Proofs.YteiibpfabgfolaaGreatDoor
namespace Go.Pal
open Go Go.RowKit
def RdL (w : World) (v : Value) (ns : List Int) : Prop :=
 ∃ a c, v = .slice a ns.length c ∧ (ns = [] ∨ ∃ b off, a = some ⟨b, off, none⟩ ∧ b < w.heap.size ∧ ∀ (i : Nat) (z : Int), ns[i]? = some z → w.cell? ⟨b, off + i, none⟩ = some (.int .i64 z))
theorem RdL.below {w w' : World} {v : Value} {ns : List Int} (h : RdL w v ns) (hb : Below w.heap.size w w') : RdL w' v ns := by
 obtain ⟨a, c, hv, h⟩ := h
 refine ⟨a, c, hv, h.imp id ?_⟩
 rintro ⟨b, off, ha, hbB, hc⟩
 exact ⟨b, off, ha, Nat.lt_of_lt_of_le hbB hb.size, fun i z hz => (hb.cell (p := ⟨b, off + i, none⟩) hbB).trans (hc i z hz)⟩
theorem RdL.nil (w : World) : RdL w (.slice none 0 0) [] := ⟨none, 0, rfl, .inl rfl⟩
theorem RdL.at {w : World} {v : Value} {ns : List Int} (h : RdL w v ns) {k : Nat} (hk : k < ns.length) :
   ∃ b off c z, v = .slice (some ⟨b, off, none⟩) ns.length c ∧ ns[k]? = some z ∧ ∀ w', Below w.heap.size w w' → w'.cell? ⟨b, off + k, none⟩ = some (.int .i64 z) := by
 obtain ⟨a, c, hv, h⟩ := h
 rcases h with h | ⟨b, off, ha, hbB, hc⟩
 · rw [h] at hk; simp at hk
 · subst ha
   have hz : ns[k]? = some ns[k] := List.getElem?_eq_getElem hk
   exact ⟨b, off, c, _, hv, hz, fun w' hb => (hb.cell (p := ⟨b, off + k, none⟩) hbB).trans (hc k _ hz)⟩
def vLen : Value → Nat
 | .slice _ n _ => n
 | _ => 0
def RdS (w : World) (v : Value) (S : Nat) : Prop := RdL w v (elemsI S) ∧ IsSet S
theorem RdS.below {w w' : World} {v : Value} {S : Nat} (h : RdS w v S) (hb : Below w.heap.size w w') : RdS w' v S := ⟨h.1.below hb, h.2⟩
def RdA (A : Nat → Prop) (w : World) (v : Value) (ns : List Int) : Prop :=
 ∃ a c, v = .slice a ns.length c ∧ (ns = [] ∨ ∃ b off, a = some ⟨b, off, none⟩ ∧ b < w.heap.size ∧ A b ∧ ∀ (i : Nat) (z : Int), ns[i]? = some z → w.cell? ⟨b, off + i, none⟩ = some (.int .i64 z))
theorem RdA.rdl {A : Nat → Prop} {w : World} {v : Value} {ns : List Int} (h : RdA A w v ns) : RdL w v ns := by
 obtain ⟨a, c, hv, h⟩ := h
 exact ⟨a, c, hv, h.imp id fun ⟨b, off, h1, h2, _, h3⟩ => ⟨b, off, h1, h2, h3⟩⟩
theorem RdL.rda {w : World} {v : Value} {ns : List Int} (h : RdL w v ns) : RdA (fun k => k < w.heap.size) w v ns := by
 obtain ⟨a, c, hv, h⟩ := h
 exact ⟨a, c, hv, h.imp id fun ⟨b, off, h1, h2, h3⟩ => ⟨b, off, h1, h2, h2, h3⟩⟩
theorem RdA.keep {A A' : Nat → Prop} {w w' : World} {v : Value} {ns : List Int} (h : RdA A w v ns) (hs : w.heap.size ≤ w'.heap.size) (hk : ∀ k, k < w.heap.size → A k → w'.heap[k]? = w.heap[k]? ∧ A' k) : RdA A' w' v ns := by
 obtain ⟨a, c, hv, h⟩ := h
 refine ⟨a, c, hv, h.imp id ?_⟩
 rintro ⟨b, off, h1, h2, hA, h3⟩
 obtain ⟨h5, h6⟩ := hk b h2 hA
 exact ⟨b, off, h1, by omega, h6, fun i z hz => (World.cell?_of_block h5).trans (h3 i z hz)⟩
theorem RdA.sl {A : Nat → Prop} {w : World} {v : Value} {ns : List Int} (h : RdA A w v ns) : ∃ a c, v = .slice a ns.length c := by
 obtain ⟨a, c, hv, _⟩ := h
 exact ⟨a, c, hv⟩
theorem RdA.below {A : Nat → Prop} {w w' : World} {v : Value} {ns : List Int} (h : RdA A w v ns) (hb : Below w.heap.size w w') : RdA A w' v ns := h.keep hb.size fun k hk hA => ⟨hb.block k hk, hA⟩
theorem RdA.mono {A A' : Nat → Prop} {w : World} {v : Value} {ns : List Int} (h : RdA A w v ns) (hA : ∀ k, A k → A' k) : RdA A' w v ns := h.keep (Nat.le_refl _) fun k _ hk => ⟨rfl, hA k hk⟩
theorem RdL.top {w : World} {v : Value} {ns : List Int} (h : RdL w v ns) : RdA (fun _ => True) w v ns := by
 obtain ⟨a, c, hv, h⟩ := h
 exact ⟨a, c, hv, h.imp id fun ⟨b, off, h1, h2, h3⟩ => ⟨b, off, h1, h2, trivial, h3⟩⟩
end Go.Pal
namespace Go.Proofs.YteiibpfabgfolaaGreatDoor
open Go Go.RowKit Go.Pal
theorem OwnI.rdl {B : Nat} {w : World} {v : Value} {ns : List Int} (h : OwnI B w v ns) : RdL w v ns := by
 rcases h.2 with ⟨rfl, h2⟩ | ⟨g, cap, cur, rfl, hB, hg, _⟩
 · have := List.length_eq_zero_iff.1 h2
   subst this
   exact RdL.nil w
 · refine ⟨_, cap, rfl, .inr ⟨g, 0, rfl, (Array.getElem?_eq_some_iff.1 hg).1, fun i z hz => ?_⟩⟩
   have := World.ownsRow.cells (base := B) h (g := g) rfl i (.int .i64 z) (by rw [List.getElem?_map, hz]; rfl)
   have e : (⟨g, 0, none⟩ : Addr).add i = ⟨g, 0 + i, none⟩ := by unfold Addr.add; split <;> simp_all
   rwa [e] at this
theorem OwnI.empty {B : Nat} {w : World} (hB : B ≤ w.heap.size) : OwnI B (w.alloc (.cells #[] 3)) (.slice (some ⟨w.heap.size, 0, none⟩) 0 0) [] :=
 ⟨rfl, .inr ⟨w.heap.size, 0, #[], rfl, hB, heap_alloc_new _ _, Nat.le_refl _, by decide, rfl, rfl⟩⟩
theorem OwnI.sl {B : Nat} {w : World} {v : Value} {ns : List Int} (h : OwnI B w v ns) : ∃ a c, v = .slice a ns.length c := by
 obtain ⟨a, c, hv, _⟩ := h.rdl
 exact ⟨a, c, hv⟩
theorem OwnI.below {B C : Nat} {w w' : World} {v : Value} {ns : List Int} (h : OwnI B w v ns) (hb : Below C w w') (hC : w.heap.size ≤ C) : OwnI B w' v ns := by
 rcases h.2 with ⟨h1, h2⟩ | ⟨g, cap, cur, h1, hB, hg, r⟩
 · exact ⟨h.1, .inl ⟨h1, h2⟩⟩
 · have hlt := (Array.getElem?_eq_some_iff.1 hg).1
   exact ⟨h.1, .inr ⟨g, cap, cur, h1, hB, (hb.block g (by omega)).trans hg, r⟩⟩
theorem OwnI.rda {B : Nat} {w : World} {v : Value} {ns : List Int} (h : OwnI B w v ns) : RdA (fun k => B ≤ k) w v ns := by
 rcases h.2 with ⟨rfl, h2⟩ | ⟨g, cap, cur, rfl, hB, hg, _⟩
 · have := List.length_eq_zero_iff.1 h2
   subst this
   exact ⟨none, 0, rfl, .inl rfl⟩
 · refine ⟨_, cap, rfl, .inr ⟨g, 0, rfl, (Array.getElem?_eq_some_iff.1 hg).1, hB, fun i z hz => ?_⟩⟩
   have := World.ownsRow.cells (base := B) h (g := g) rfl i (.int .i64 z) (by rw [List.getElem?_map, hz]; rfl)
   have e : (⟨g, 0, none⟩ : Addr).add i = ⟨g, 0 + i, none⟩ := by unfold Addr.add; split <;> simp_all
   rwa [e] at this
theorem OwnI.lower {B B' : Nat} {w : World} {v : Value} {ns : List Int} (h : OwnI B w v ns) (hB : B' ≤ B) : OwnI B' w v ns := by
 obtain ⟨h1, h2⟩ := h
 refine ⟨h1, h2.imp id ?_⟩
 rintro ⟨g, cap, cur, hv, hb, r⟩
 exact ⟨g, cap, cur, hv, by omega, r⟩
theorem wp_appT {o : Oper} {a : Act} {K : Act → World → Prop} {Q : Exit → Act → World → Prop} {w : World} (st : TypeId) (hst : Tryz.prog.underlying st = some (.slice 3)) (s x : Operand)
   (ho : o.op = .call { callee := .builtin .append, args := #[s, x], argTypes := #[st, st] }) (B : Nat) (v : Value) (ns : List Int) (hs : a.eval s = v) (hown : OwnI B w v ns)
   (g : Nat) (z : Int) (c : Nat) (hx : a.eval x = .slice (some ⟨g, 0, none⟩) 1 c) (hg : w.cell? ⟨g, 0, none⟩ = some (.int .i64 z)) (hlen : ns.length < 1000000) (hB : B ≤ w.heap.size)
   (h : ∀ v' w', OwnI B w' v' (ns ++ [z]) → Below B w w' → K (a.put o.dst v') w') : o.wp Tryz.prog a w K Q := by
 obtain ⟨i0, hi, hz0, hz1, hz2⟩ := info_parts infoInt
 obtain ⟨v', w', hr, h2, h3, h4⟩ := run_append_own2 (P := Tryz.prog) w B st o.type 3 i0 (.int .i64 0) 1 8 hst hi hz0 hz1 hz2 rfl (by decide) v ns.length (ns.map (Value.int .i64)) hown ⟨g, 0, none⟩ 1 c (by decide) [.int .i64 z] rfl
   (fun j u hj => by
     cases j with
     | zero => simp at hj; subst hj; simpa [Addr.add] using hg
     | succ j => simp at hj) (fun u hu => by simp at hu; subst hu; rfl) (by unfold maxLen; omega) (by omega) hB
 unfold Oper.wp execOp
 simp only [ho, resolve, invoke, builtin, Sem.run_bind, Sem.run_pure, Result.andThen_ok, List.map_toArray, List.map_cons, List.map_nil, hs, hx, hr]
 refine h v' w' ?_ ((Below.refl B w).grown h3 hB hown.block)
 unfold OwnI
 simpa using h2
theorem wpList_appT {ops : Array Oper} {rest : List Oper} {o : Oper} {a : Act} {Q : Exit → Act → World → Prop} {w : World} (hgd : o.guard = none) (st : TypeId) (hst : Tryz.prog.underlying st = some (.slice 3)) (s x : Operand)
   (ho : o.op = .call { callee := .builtin .append, args := #[s, x], argTypes := #[st, st] }) (B : Nat) (v : Value) (ns : List Int) (hs : a.eval s = v) (hown : OwnI B w v ns)
   (g : Nat) (z : Int) (c : Nat) (hx : a.eval x = .slice (some ⟨g, 0, none⟩) 1 c) (hg : w.cell? ⟨g, 0, none⟩ = some (.int .i64 z)) (hlen : ns.length < 1000000) (hB : B ≤ w.heap.size)
   (h : ∀ v' w', OwnI B w' v' (ns ++ [z]) → Below B w w' → wpList Tryz.prog ops Q rest (a.put o.dst v') w') : wpList Tryz.prog ops Q (o :: rest) a w :=
 wpList_plain hgd fun _ hK => wp_appT st hst s x ho B v ns hs hown g z c hx hg hlen hB fun v' w' h1 h2 => hK _ _ (h v' w' h1 h2)
theorem rhas_any (ns : List Int) (v : Value) (n : Int) (w : World) (hv : RdL w v ns) (hlen : ns.length ≤ 1000000) :
   Calls Tryz.prog 61 #[v, .int .i64 n] w fun e w' => e = .returned (.bool (decide (n ∈ ns))) ∧ w' = w := by
 obtain ⟨a, c, rfl, hr⟩ := hv
 have HR := Lib.hid hr; clear hr
 go_enter Tryz.func61, Tryz.ntmps61
 go_wp2_with fail
 go_loop [5] (fun i => ∃ k : Nat, k ≤ ns.length ∧ i = .int .i64 (k : Int) ∧ n ∉ ns.take k) (fun i => ns.length - (intOf i).toNat)
 case atStart => exact ⟨0, by omega, rfl, by simp⟩
 case round =>
   obtain ⟨k, hk, rfl, hno⟩ := hrel
   have HN := Lib.hid hno; clear hno
   by_cases hlt : k < ns.length
   · obtain ⟨z, hz⟩ : ∃ z, ns[k]? = some z := ⟨_, List.getElem?_eq_getElem hlt⟩
     rcases HR.out with h | ⟨b, off, rfl, hbB, hc⟩
     · rw [h] at hlt; simp at hlt
     have hcell := hc k z hz
     have HZ := Lib.hid hz
     clear hc hz
     by_cases hzn : z = n
     · subst hzn
       go_wp2
       go_ret
       exact ⟨by rw [decide_eq_true (List.mem_of_getElem? HZ.out)]; rfl, rfl⟩
     · go_wp2
       go_round
       case rel => exact ⟨k + 1, by omega, by go_num, by rw [List.take_add_one, HZ.out]; simp [HN.out]; omega⟩
       case measure => simp [intOf]; omega
   · go_wp2
     go_ret
     have : k = ns.length := by omega
     rw [this, List.take_length] at HN
     exact ⟨by rw [decide_eq_false HN.out]; rfl, rfl⟩
theorem undR : Tryz.prog.underlying 57 = some (.slice 3) := Tryz.underlying57
end Go.Proofs.YteiibpfabgfolaaGreatDoor
