/-
  Walks of package elimination: Width.
  Plain: an order that eliminates by depths of top bags is not wider than its decomposition; the width of an order's decomposition. No program.
-/
import Derived.Test.YtpflnkedolmamaaGreatDoorQGrM
import Derived.Test.YtpflnkedolmamaaGreatDoorQLp
import Derived.Test.YtpflnkedolmamaaGreatDoorQSt
set_option linter.unusedSimpArgs false
set_option linter.unusedVariables false
namespace Go.Pal
open Go
/-- The width of the first k steps of an order's game. -/
def gwid (f : Nat → Nat) (o : List Nat) (k : Nat) : Int := (List.range k).foldl (fun m i => max m (lenS (gameAt f o i (o.getD i 0)) : Int)) (-1)
theorem gwid_succ {f : Nat → Nat} {o : List Nat} {k x : Nat} (h : o[k]? = some x) : gwid f o (k + 1) = max (gwid f o k) (lenS (gameAt f o k x) : Int) := by
  unfold gwid
  rw [List.range_succ, List.foldl_append]
  have : o.getD k 0 = x := by rw [List.getD_eq_getElem?_getD, h]; rfl
  simp only [List.foldl_cons, List.foldl_nil, this]
end Go.Pal
namespace Go.Proofs.YtpflnkedolmamaaGreatDoor
open Go Go.RowKit Go.Pal
attribute [local go_sem] Oper.semAt_some

set_option maxRecDepth 10000 in
set_option maxHeartbeats 1000000 in
theorem ewidth1_any (b : Nat) (m : Int) (k x : Int) (S : Nat) (vc : Value) (W : World) (hr : row? W b = some #[.int .i64 m]) :
    Calls Tryz.prog 94 #[.int .i64 k, .agg (bagA (x, S)), vc, .pointer (some ⟨b, 0, none⟩)] W fun e W' => e = .returned (.tuple #[]) ∧ row? W' b = some #[.int .i64 (max m (lenS S : Int))] ∧ Same (fun j => j ≠ b) W W' := by
  have hl := row?_lt hr
  have HR := Lib.hid hr
  have HL := Lib.hid fun W' => len_any S W'
  clear hr
  go_enter Tryz.func94, Tryz.ntmps94
  go_wp2_with fail
  obtain ⟨q, hq⟩ : ∃ q, q = W.heap.size := ⟨_, rfl⟩
  generalize hW0 : World.alloc W _ = W0
  have hB0 : Below W.heap.size W W0 := by rw [← hW0]; exact (Below.refl _ W).alloc (Nat.le_refl _) _
  have hr0 : row? W0 q = some (bagA (x, S)) := by rw [← hW0, hq]; exact row?_alloc_at _ _ _ _ rfl
  have HF := Lib.hid fun W' (hw : Below W0.heap.size W0 W') => (⟨(cell?_row (i := 0) ((row?_below hw (by have := hB0.size; omega)).trans ((row?_below hB0 hl).trans HR.out))).trans rfl, (row?_below hw (row?_lt hr0)).trans hr0⟩ : W'.cell? ⟨b, 0, none⟩ = some (.int .i64 m) ∧ row? W' q = some (bagA (x, S)))
  have HB0 := Lib.hid hB0
  rw [← hq]
  have hs0 := hB0.size
  clear hW0 hB0 hr0 hq
  refine wp_region_free_tail (fun W' => Below W0.heap.size W0 W') 5 (by kernel_rfl) (by kernel_rfl) (Below.refl _ _).drew ?_
  simp only [List.take_succ_cons, List.take_zero, List.drop_succ_cons, List.drop_zero]
  repeat (apply wpFree_still; (intro w hw; obtain ⟨k1, k2⟩ := HF.out w hw; clear hw; go_simp; (try go_ints); (first | with_reducible rfl | (go_simp; with_reducible rfl))); with_reducible rfl; (intro K hK; go_simp; (try go_ints); refine hK _ ?_; clear hK K))
  apply wpFree_call
  · intro w hw; go_simp; first | with_reducible rfl | with_reducible exact ⟨rfl, rfl⟩
  · with_reducible rfl
  · intro w hw; exact (HL.out w).mono fun e w' ⟨h1, h2⟩ => ⟨h1, hw.trans (h2.mono hw.size)⟩
  intro K hK; go_simp; (try go_ints); refine hK _ ?_; clear hK K
  repeat (apply wpFree_still; (intro w hw; obtain ⟨k1, k2⟩ := HF.out w hw; clear hw; go_simp; (try go_ints); (first | with_reducible rfl | (go_simp; with_reducible rfl))); with_reducible rfl; (intro K hK; go_simp; (try go_ints); refine hK _ ?_; clear hK K))
  with_reducible refine wpFree_nil ?_
  intro w' hb'
  have hr' := (row?_below hb' (by omega)).trans ((row?_below HB0.out hl).trans HR.out)
  have f0 := frozen?_row (i := 0) hr'
  have c0 := cell?_row (i := 0) hr'
  simp at c0
  have HR' := Lib.hid hr'
  have HB' := Lib.hid hb'
  have hlw := row?_lt hr'
  clear hr' hb'
  go_wp2_with fail
  go_end0
  refine ⟨rfl, by rw [row?_setCell_same, HR'.out]; simp, (((Same.of_below HB0.out).mono fun j hj _ => hj).trans ((Same.of_below HB'.out).mono fun j hj _ => hj)).trans (Same.setCell _ _ _ _ (by simp))⟩
set_option maxHeartbeats 400000 in
theorem ewidth_walk (o : List Nat) (g bV bE : Nat) (G : Gr) (hG : G.Ok) (B : Nat) (W0 : World) (v : Value) (hv : RdA (fun j => ¬ j = B) W0 v (o.map fun i : Nat => (i : Int))) (h : GOk W0 g bV bE G)
    (hord : G.ordE (o.map fun i : Nat => (i : Int)) = 0) (hlt : ∀ x ∈ o, x < 1024) (hnd : o.Nodup) (hcl : Closed (fun x => G.near (x : Int)) o) (hlen : o.length ≤ 1024)
    (hT : TabOk W0) (hgT : 0 < W0.heap.size) (hne : 0 ≠ B) (hr0 : row? W0 B = some #[.int .i64 (-1)]) :
    Calls Tryz.prog 93 #[.pointer (some ⟨g, 0, none⟩), v, .func (.func 94) #[] #[.pointer (some ⟨B, 0, none⟩)]] W0 fun e w' => e = .returned (.int .i64 0) ∧ row? w' B = some #[.int .i64 (gwid (fun x => G.near (x : Int)) o o.length)] ∧ Same (fun j => j < W0.heap.size ∧ ¬ j = B) W0 w' := by
  refine (ewalk_any o g bV bE G hG W0 (fun j => j = B) v hv h hord hlt hnd hcl hlen hT hgT hne
    94 #[.pointer (some ⟨B, 0, none⟩)] (fun args w => by simp [go_sem])
    (fun k Y W => row? W B = some #[.int .i64 (gwid (fun x : Nat => G.near (x : Int)) o k)] ∧ ∀ j, Y j ↔ j = B) ?_ ?_ ?_ ?_).mono ?_
  · intro k Y W W' h1 hs
    exact ⟨(row?_congr (hs.block _ (row?_lt h1.1) ((h1.2 _).2 rfl))).trans h1.1, h1.2⟩
  · exact ⟨hr0, fun j => Iff.rfl⟩
  · intro j hj
    have := row?_lt hr0
    omega
  · intro k x Y W vc hx h1 hsz
    refine (ewidth1_any B _ (k : Int) (x : Int) _ vc W h1.1).mono ?_
    rintro e W' ⟨rfl, g1, g5⟩
    refine ⟨rfl, fun j => j = B, ⟨?_, fun j => Iff.rfl⟩, ?_, g5.mono fun j _ hn => fun e => hn ((h1.2 j).2 e)⟩
    · rw [gwid_succ hx]
      exact g1
    · rintro j rfl
      exact ⟨.inl ((h1.2 _).2 rfl), Nat.lt_of_lt_of_le (row?_lt h1.1) g5.size⟩
  · rintro e w1 ⟨rfl, Y, h1, h7, h8⟩
    exact ⟨rfl, h1.1, h8⟩
set_option maxRecDepth 20000 in
set_option maxHeartbeats 1000000 in
theorem ewidth_any (o : List Nat) (g bV bE : Nat) (G : Gr) (hG : G.Ok) (w : World) (v : Value) (hv : RdL w v (o.map fun i : Nat => (i : Int))) (h : GOk w g bV bE G)
    (hord : G.ordE (o.map fun i : Nat => (i : Int)) = 0) (hlt : ∀ x ∈ o, x < 1024) (hnd : o.Nodup) (hcl : Closed (fun x => G.near (x : Int)) o) (hlen : o.length ≤ 1024)
    (hT : TabOk w) (hgT : 0 < w.heap.size) :
    Calls Tryz.prog 43 #[.pointer (some ⟨g, 0, none⟩), v] w fun e w' => e = .returned (.tuple #[.int .i64 (gwid (fun x => G.near (x : Int)) o o.length), .int .i64 0]) ∧ Below w.heap.size w w' := by
  have hb0 : Below w.heap.size w (w.alloc (.cells #[.int .i64 (-1)] 3)) := (Below.refl _ w).alloc (Nat.le_refl _) _
  obtain ⟨W0, hW0⟩ : ∃ W0, W0 = w.alloc (.cells #[.int .i64 (-1)] 3) := ⟨_, rfl⟩
  have hr0 : row? W0 w.heap.size = some #[.int .i64 (-1)] := by rw [hW0]; exact row?_alloc_at _ _ _ _ rfl
  have hs0 : W0.heap.size = w.heap.size + 1 := by rw [hW0]; simp
  rw [← hW0] at hb0
  have HWalk := Lib.hid (ewidth_walk o g bV bE G hG w.heap.size W0 v ((hv.rda.keep (A' := fun k => ¬ k = w.heap.size) hb0.size fun k hk hA => ⟨hb0.block k hk, by omega⟩)) (h.below hb0) hord hlt hnd hcl hlen (hT.below hb0 hgT) (by omega) (by omega) hr0)
  have HB0 := Lib.hid hb0
  obtain ⟨a, c, rfl, -⟩ := hv
  obtain ⟨M, hM⟩ : ∃ M, M = gwid (fun x : Nat => G.near (x : Int)) o o.length := ⟨_, rfl⟩
  rw [← hM] at HWalk ⊢
  rw [List.length_map] at HWalk ⊢
  clear hb0 hT h hG hM hr0 hcl hnd hlt hord
  go_enter Tryz.func43, Tryz.ntmps43
  go_wp2_with fail
  rw [← hW0]
  refine HWalk.out.mono ?_
  rintro e w1 ⟨rfl, h1, h8⟩
  have hB1 : Below w.heap.size w w1 := HB0.out.trans (h8.below (by omega) fun j hj => by omega)
  have c0 := cell?_row (i := 0) h1
  simp at c0
  have HB1 := Lib.hid hB1
  clear h1 h8 hB1 hW0 HWalk
  go_wp2_with fail
  go_ret2
  exact ⟨rfl, HB1.out⟩
end Go.Proofs.YtpflnkedolmamaaGreatDoor
namespace Go.Pal
open Go
theorem TOk.rooted {T : List Bg} {r : Nat} (h : TOk T r) : Rooted T r := by
  obtain ⟨rk, M, h1⟩ := h.rk
  exact ⟨h1.lt, h1.head, fun c hc hr => by
    obtain ⟨p, h2, h3, -⟩ := h1.par c hc hr
    exact ⟨p, h2, h3⟩⟩
theorem TOk.all {T : List Bg} {r : Nat} (h : TOk T r) : ∀ x, x < T.length → ∃ m, Steps (parU T) m x r := by
  obtain ⟨rk, M, h1⟩ := h.rk
  exact fun x hx => h1.steps_root _ x (Nat.le_refl _) hx
/-- A vertex of a bag: its top bag lies above, and every bag on the way holds it. -/
theorem up_top {T : List Bg} {r : Nat} (h : Rooted T r) : ∀ (d b n : Nat), Steps (parU T) d b r → b < T.length → (bagN T b).testBit n = true →
    ∃ i m, i < T.length ∧ Steps (parU T) m b i ∧ (topS T i).testBit n = true ∧ ∀ j m', m' ≤ m → Steps (parU T) m' b j → (bagN T j).testBit n = true := by
  intro d
  induction d with
  | zero =>
    intro b n hs hb hn
    cases hs
    refine ⟨r, 0, hb, .zero, by rw [top_root hb h.head]; exact hn, fun j m' hm hj => ?_⟩
    obtain rfl : m' = 0 := by omega
    cases hj
    exact hn
  | succ d ih =>
    intro b n hs hb hn
    cases hs with
    | @succ _ _ p _ h1 h2 =>
    have hp := h.inn b p hb h1
    cases hpn : (bagN T p).testBit n with
    | true =>
      obtain ⟨i, m, k1, k2, k3, k4⟩ := ih p n h2 hp hpn
      refine ⟨i, m + 1, k1, .succ h1 k2, k3, fun j m' hm hj => ?_⟩
      cases hj with
      | zero => exact hn
      | @succ m'' _ p' _ h3 h4 =>
        obtain rfl : p' = p := by omega
        exact k4 j m'' (by omega) h4
    | false =>
      refine ⟨b, 0, hb, .zero, by rw [top_other hb h1 hp, hn, hpn]; rfl, fun j m' hm hj => ?_⟩
      obtain rfl : m' = 0 := by omega
      cases hj
      exact hn
theorem top_in {T : List Bg} {r i n : Nat} (h : Rooted T r) (hi : i < T.length) (ht : (topS T i).testBit n = true) : (bagN T i).testBit n = true := by
  by_cases hir : i = r
  · subst hir
    rwa [top_root hi h.head] at ht
  · obtain ⟨p, h1, h2⟩ := h.par i hi hir
    rw [top_other hi h1 h2, Bool.and_eq_true] at ht
    exact ht.1
/-- Two vertices of a bag: the one whose top bag is not deeper lies in the other's top bag. -/
theorem up_share {T : List Bg} {r : Nat} (h : TOk T r) {b u v iu iv : Nat} (hb : b < T.length) (hu : (bagN T b).testBit u = true) (hv : (bagN T b).testBit v = true) (hiu : iu < T.length) (htu : (topS T iu).testBit u = true)
    (hiv : iv < T.length) (htv : (topS T iv).testBit v = true) (hd : deepAt T iu ≤ deepAt T iv) : (bagN T iv).testBit u = true := by
  have hr := h.rooted
  obtain ⟨d, hs⟩ := h.all b hb
  obtain ⟨i, m, k1, k2, k3, k4⟩ := up_top hr d b u hs hb hu
  obtain ⟨i', m', j1, j2, j3, j4⟩ := up_top hr d b v hs hb hv
  obtain rfl := h.top i iu u k1 hiu k3 htu
  obtain rfl := h.top i' iv v j1 hiv j3 htv
  obtain ⟨e, he⟩ := h.all i hiu
  obtain ⟨e', he'⟩ := h.all i' hiv
  have h1 := hr.deepAt he hiu
  have h2 := hr.deepAt he' hiv
  have h3 := hr.deepAt (k2.trans' he) hb
  have h4 := hr.deepAt (j2.trans' he') hb
  exact k4 i' m' (by omega) j2
/-- Two vertices share a bag. -/
def Sh (T : List Bg) (u v : Nat) : Prop := ∃ b, b < T.length ∧ (bagN T b).testBit u = true ∧ (bagN T b).testBit v = true
theorem near_share {G : Gr} {T : List Bg} (hG : G.Ok) (hf : G.fitT T = 0) {u v : Nat} (h : (G.near (u : Int)).testBit v = true) : Sh T u v := by
  rw [hG.near_bit] at h
  obtain ⟨e, he, hk⟩ := look_some.1 h
  obtain ⟨x, hx, h1, h2⟩ := (fitT_cov hG hf).2 e he
  obtain ⟨b, hb, rfl⟩ := List.mem_iff_getElem.1 hx
  have hbn : bagN T b = T[b].2 := bagN_of (List.getElem?_eq_getElem hb)
  refine ⟨b, hb, ?_⟩
  rw [hbn]
  unfold btw at hk
  rcases Nat.le_total u v with huv | huv
  · rw [show min (u : Int) (v : Int) = (u : Int) by omega, show max (u : Int) (v : Int) = (v : Int) by omega] at hk
    rw [hk] at h1 h2
    simpa using ⟨h1, h2⟩
  · rw [show min (u : Int) (v : Int) = (v : Int) by omega, show max (u : Int) (v : Int) = (u : Int) by omega] at hk
    rw [hk] at h1 h2
    simpa using ⟨h2, h1⟩
/-- An order by depths of top bags, the deepest first. -/
def Deepest (T : List Bg) (o : List Nat) : Prop := ∀ i j x u iu ix : Nat, i < j → o[i]? = some x → o[j]? = some u → iu < T.length → (topS T iu).testBit u = true → ix < T.length → (topS T ix).testBit x = true → deepAt T iu ≤ deepAt T ix
section
variable {G : Gr} {T : List Bg} {r : Nat} {o : List Nat}
theorem top_ex (h : TOk T r) {b n : Nat} (hb : b < T.length) (hn : (bagN T b).testBit n = true) : ∃ i, i < T.length ∧ (topS T i).testBit n = true := by
  obtain ⟨d, hs⟩ := h.all b hb
  obtain ⟨i, m, k1, -, k3, -⟩ := up_top h.rooted d b n hs hb hn
  exact ⟨i, k1, k3⟩
theorem near_top (hG : G.Ok) (h : TOk T r) (hnd : o.Nodup) (hcl : Closed (fun x : Nat => G.near (x : Int)) o) (hD : Deepest T o) {k x u ix : Nat} (hx : o[k]? = some x) (hix : ix < T.length) (htx : (topS T ix).testBit x = true)
    (hu : (gameAt (fun x : Nat => G.near (x : Int)) o k x).testBit u = true) (hs : Sh T x u) : (bagN T ix).testBit u = true := by
  have hk := (List.getElem?_eq_some_iff.1 hx).1
  obtain ⟨b, hb, hbx, hbu⟩ := hs
  obtain ⟨iu, hiu, htu⟩ := top_ex h hb hbu
  have hg := gnow hG hnd hcl (Nat.le_of_lt hk)
  obtain ⟨h1, h2⟩ := hg.sup x (by rw [drop_cons hx]; simp) u hu
  rw [drop_cons hx] at h1
  have h3 : u ∈ o.drop (k + 1) := by
    rcases List.mem_cons.1 h1 with e | e
    · exact absurd e h2
    · exact e
  obtain ⟨j, hj⟩ := List.mem_iff_getElem?.1 h3
  rw [List.getElem?_drop] at hj
  exact up_share h hb hbu hbx hiu htu hix htx (hD k (k + 1 + j) x u iu ix (by omega) hx hj hiu htu hix htx)
theorem game_share (hG : G.Ok) (h : TOk T r) (hf : G.fitT T = 0) (hnd : o.Nodup) (hcl : Closed (fun x : Nat => G.near (x : Int)) o) (hD : Deepest T o) :
    ∀ k, k ≤ o.length → ∀ u ∈ o.drop k, ∀ v, (gameAt (fun x : Nat => G.near (x : Int)) o k u).testBit v = true → Sh T u v := by
  intro k
  induction k with
  | zero => intro _ u _ v hv; exact near_share hG hf hv
  | succ k ih =>
    intro hk u hu v hv
    obtain ⟨x, hx⟩ : ∃ x, o[k]? = some x := ⟨_, List.getElem?_eq_getElem (by omega)⟩
    have hu' : u ∈ o.drop k := by rw [drop_cons hx]; simp [hu]
    have hx' : x ∈ o.drop k := by rw [drop_cons hx]; simp
    rw [gameAt_succ hx, gstep_bit] at hv
    split at hv
    · rename_i hxu
      simp only [Bool.and_eq_true, Bool.or_eq_true] at hv
      rcases hv.1.1 with h1 | h1
      · exact ih (by omega) u hu' v h1
      · have s1 := ih (by omega) x hx' u hxu
        have s2 := ih (by omega) x hx' v h1
        obtain ⟨b, hb, hbx, -⟩ := id s1
        obtain ⟨ix, hix, htx⟩ := top_ex h hb hbx
        exact ⟨ix, hix, near_top hG h hnd hcl hD hx hix htx hxu s1, near_top hG h hnd hcl hD hx hix htx h1 s2⟩
    · exact ih (by omega) u hu' v hv
theorem gwid_le (f : Nat → Nat) (W : Int) (hW : -1 ≤ W) : ∀ k, k ≤ o.length → (∀ i x, i < k → o[i]? = some x → (lenS (gameAt f o i x) : Int) ≤ W) → gwid f o k ≤ W := by
  intro k
  induction k with
  | zero => intro _ _; simpa [gwid] using hW
  | succ k ih =>
    intro hk h
    obtain ⟨x, hx⟩ : ∃ x, o[k]? = some x := ⟨_, List.getElem?_eq_getElem (by omega)⟩
    rw [gwid_succ hx]
    have h1 := ih (by omega) fun i x hi hx => h i x (by omega) hx
    have h2 := h k x (by omega) hx
    omega
theorem lenS_ins {S n : Nat} (hS : IsSet S) (hn : n < 1024) (h : S.testBit n = false) : lenS (sIns S n) = lenS S + 1 := by
  rw [lenS_elems, lenS_elems]
  have hI : IsSet (sIns S n) := isSet_ins hS hn
  have hnot : n ∉ elems S := fun hm => by rw [mem_elems hS, h] at hm; cases hm
  have e1 : ∀ x, x ∈ elems (sIns S n) ↔ x ∈ n :: elems S := fun x => by
    rw [mem_elems hI, sIns_testBit, List.mem_cons, mem_elems hS, Bool.or_eq_true, decide_eq_true_eq]
    constructor
    · rintro (h | h)
      · exact .inr h
      · exact .inl h.symm
    · rintro (h | h)
      · exact .inr h.symm
      · exact .inl h
  have a := nodup_length (elems_nodup (sIns S n)) fun x hx => (e1 x).1 hx
  have b := nodup_length (List.nodup_cons.2 ⟨hnot, elems_nodup S⟩) fun x hx => (e1 x).2 hx
  simp only [List.length_cons] at a b
  omega
/-- The law: the order's width is not above the decomposition's. -/
theorem deepest_width (hG : G.Ok) (h : TOk T r) (hS : ∀ x ∈ T, IsSet x.2) (hf : G.fitT T = 0) (hnd : o.Nodup) (hlt : ∀ x ∈ o, x < 1024) (hcl : Closed (fun x : Nat => G.near (x : Int)) o) (hids : ∀ x : Nat, x ∈ o → (x : Int) ∈ G.ids') (hD : Deepest T o) :
    gwid (fun x : Nat => G.near (x : Int)) o o.length ≤ widTo T T.length := by
  obtain ⟨w1, w2, -⟩ := widTo_all T T.length (Nat.le_refl _)
  refine gwid_le _ _ w2 _ (Nat.le_refl _) fun k x hk hx => ?_
  have hxm := List.mem_of_getElem? hx
  obtain ⟨y, hy, hyx⟩ := (fitT_cov hG hf).1 x (hids x hxm)
  obtain ⟨b, hb, rfl⟩ := List.mem_iff_getElem.1 hy
  have hbn : bagN T b = T[b].2 := bagN_of (List.getElem?_eq_getElem hb)
  rw [← hbn] at hyx
  obtain ⟨ix, hix, htx⟩ := top_ex h hb hyx
  have hgs : IsSet (gameAt (fun x : Nat => G.near (x : Int)) o k x) := isSet_gameAt (fun u => hG.isSet_near _) o k x
  have hxx : (gameAt (fun x : Nat => G.near (x : Int)) o k x).testBit x = false := by
    cases hc : (gameAt (fun x : Nat => G.near (x : Int)) o k x).testBit x with
    | false => rfl
    | true => exact absurd rfl ((gnow hG hnd hcl (Nat.le_of_lt hk)).sup x (by rw [drop_cons hx]; simp) x hc).2
  have hle := lenS_mono (A := sIns (gameAt (fun x : Nat => G.near (x : Int)) o k x) x) (isSet_bagN hS ix) fun n hn => by
    rw [sIns_testBit, Bool.or_eq_true, decide_eq_true_eq] at hn
    rcases hn with hn | hn
    · exact near_top hG h hnd hcl hD hx hix htx hn (game_share hG h hf hnd hcl hD k (Nat.le_of_lt hk) x (by rw [drop_cons hx]; simp) n hn)
    · subst hn
      exact top_in h.rooted hix htx
  rw [lenS_ins hgs (hlt x hxm) hxx] at hle
  have := w1 ix hix
  omega
/-- The decomposition of an order has the order's width. -/
theorem foTree_wid (hG : G.Ok) (hnd : o.Nodup) (hlt : ∀ x ∈ o, x < 1024) (hcl : Closed (fun x : Nat => G.near (x : Int)) o) :
    widTo (foTree (fun x : Nat => G.near (x : Int)) o) (foTree (fun x : Nat => G.near (x : Int)) o).length = gwid (fun x : Nat => G.near (x : Int)) o o.length := by
  by_cases h0 : o.length = 0
  · have h1 : foTree (fun x : Nat => G.near (x : Int)) o = [(-1, 0)] := by unfold foTree; rw [if_pos h0]
    rw [h1, h0]
    have h2 : lenS 0 = 0 := by rw [lenS_elems, elems_zero]; rfl
    simp [widTo, gwid, h2]
  · have h1 : foTree (fun x : Nat => G.near (x : Int)) o = foTo (fun x : Nat => G.near (x : Int)) o o.length := by unfold foTree; rw [if_neg h0]
    rw [h1, foTo_length]
    have key : ∀ k, k ≤ o.length → widTo (foTo (fun x : Nat => G.near (x : Int)) o o.length) k = gwid (fun x : Nat => G.near (x : Int)) o k := by
      intro k
      induction k with
      | zero => intro _; simp [widTo, gwid]
      | succ k ih =>
        intro hk
        obtain ⟨x, hx⟩ : ∃ x, o[k]? = some x := ⟨_, List.getElem?_eq_getElem (by omega)⟩
        rw [widTo_succ (foTo_get _ (by omega)), gwid_succ hx, ih (by omega)]
        have hgd : o.getD k 0 = x := by rw [List.getD_eq_getElem?_getD, hx]; rfl
        have hgs : IsSet (gameAt (fun x : Nat => G.near (x : Int)) o k x) := isSet_gameAt (fun u => hG.isSet_near _) o k x
        have hxx : (gameAt (fun x : Nat => G.near (x : Int)) o k x).testBit x = false := by
          cases hc : (gameAt (fun x : Nat => G.near (x : Int)) o k x).testBit x with
          | false => rfl
          | true => exact absurd rfl ((gnow hG hnd hcl (by omega : k ≤ o.length)).sup x (by rw [drop_cons hx]; simp) x hc).2
        have hb : (foBag (fun x : Nat => G.near (x : Int)) o k).2 = sIns (gameAt (fun x : Nat => G.near (x : Int)) o k x) x := by
          unfold foBag
          simp only [hgd]
        rw [hb, lenS_ins hgs (hlt x (List.mem_of_getElem? hx)) hxx]
        omega
    exact key _ (Nat.le_refl _)
theorem foTree_length (f : Nat → Nat) : ((foTree f o).length : Int) = max 1 (o.length : Int) := by
  unfold foTree
  split
  · simp; omega
  · rw [foTo_length]; omega
end
/-! ### the depths by vertices -/
def dpTo (T : List Bg) (k : Nat) : List (Int × Int) := (List.range k).flatMap fun i => (elems (topS T i)).map fun u : Nat => ((u : Int), (deepAt T i : Int))
theorem dpTo_succ (T : List Bg) (k : Nat) : dpTo T (k + 1) = dpTo T k ++ (elems (topS T k)).map fun u : Nat => ((u : Int), (deepAt T k : Int)) := by
  unfold dpTo
  rw [List.range_succ, List.flatMap_append]
  simp
theorem mem_dpTo {T : List Bg} (hS : ∀ x ∈ T, IsSet x.2) {k : Nat} {p : Int × Int} : p ∈ dpTo T k ↔ ∃ i u : Nat, i < k ∧ (topS T i).testBit u = true ∧ p = ((u : Int), (deepAt T i : Int)) := by
  unfold dpTo
  simp only [List.mem_flatMap, List.mem_range, List.mem_map]
  constructor
  · rintro ⟨i, hi, u, hu, rfl⟩
    exact ⟨i, u, hi, (mem_elems (isSet_topS hS i)).1 hu, rfl⟩
  · rintro ⟨i, u, hi, hu, rfl⟩
    exact ⟨i, hi, u, (mem_elems (isSet_topS hS i)).2 hu, rfl⟩
theorem dpTo_len (T : List Bg) (k : Nat) : (dpTo T k).length ≤ k * 1024 := by
  induction k with
  | zero => simp [dpTo]
  | succ k ih =>
    rw [dpTo_succ, List.length_append, List.length_map]
    have := elemsI_length (topS T k)
    unfold elemsI at this
    rw [List.length_map] at this
    omega
/-- A vertex whose turn it is has no depth yet. -/
theorem dp_fresh {T : List Bg} {r k u : Nat} (h : TOk T r) (hS : ∀ x ∈ T, IsSet x.2) (hk : k < T.length) {pre rest : List Nat} (he : elems (topS T k) = pre ++ u :: rest) :
    ∀ p ∈ dpTo T k ++ pre.map (fun u : Nat => ((u : Int), (deepAt T k : Int))), p.1 ≠ (u : Int) := by
  have hu : (topS T k).testBit u = true := (mem_elems (isSet_topS hS k)).1 (by rw [he]; simp)
  intro p hp e
  rcases List.mem_append.1 hp with h1 | h1
  · obtain ⟨i, v, hi, hv, rfl⟩ := (mem_dpTo hS).1 h1
    have e : (v : Int) = (u : Int) := e
    obtain rfl : v = u := by omega
    have := h.top i k v (by omega) hk hv hu
    omega
  · obtain ⟨v, hv, rfl⟩ := List.mem_map.1 h1
    have e : (v : Int) = (u : Int) := e
    obtain rfl : v = u := by omega
    have hn := elems_nodup (topS T k)
    rw [he, List.nodup_append] at hn
    exact hn.2.2 v hv v (by simp) rfl
theorem dp_nodup {T : List Bg} {r : Nat} (h : TOk T r) (hS : ∀ x ∈ T, IsSet x.2) : NoDup (dpTo T T.length) := by
  have key : ∀ k, k ≤ T.length → NoDup (dpTo T k) := by
    intro k
    induction k with
    | zero => intro _; simp [dpTo, NoDup]
    | succ k ih =>
      intro hk
      rw [dpTo_succ]
      unfold NoDup
      rw [List.pairwise_append]
      refine ⟨ih (by omega), ?_, fun a ha b hb e => ?_⟩
      · rw [List.pairwise_map]
        exact (elems_nodup (topS T k)).imp fun h e => h (by have e : (_ : Int) = _ := e; omega)
      · obtain ⟨i, v, hi, hv, rfl⟩ := (mem_dpTo hS).1 ha
        obtain ⟨u, hu, rfl⟩ := List.mem_map.1 hb
        have e : (v : Int) = (u : Int) := e
        obtain rfl : v = u := by omega
        have := h.top i k v (by omega) (by omega) hv ((mem_elems (isSet_topS hS k)).1 hu)
        omega
  exact key _ (Nat.le_refl _)
theorem dp_look {T : List Bg} {r i u : Nat} (h : TOk T r) (hS : ∀ x ∈ T, IsSet x.2) (hi : i < T.length) (hu : (topS T i).testBit u = true) : look (dpTo T T.length) (u : Int) = some (deepAt T i : Int) :=
  (look_mem (dp_nodup h hS)).2 ((mem_dpTo hS).2 ⟨i, u, hi, hu, rfl⟩)
theorem deepest_of {T : List Bg} {r : Nat} {o : List Nat} (h : TOk T r) (hS : ∀ x ∈ T, IsSet x.2) (hs : (o.map fun i : Nat => (i : Int)).Pairwise (ltK fun x => -((look (dpTo T T.length) x).getD 0))) : Deepest T o := by
  intro i j x u iu ix hij hx hu hiu htu hix htx
  rw [List.pairwise_map, List.pairwise_iff_getElem] at hs
  obtain ⟨hi, rfl⟩ := List.getElem?_eq_some_iff.1 hx
  obtain ⟨hj, rfl⟩ := List.getElem?_eq_some_iff.1 hu
  have h1 := hs i j hi hj hij
  unfold ltK at h1
  simp only [dp_look h hS hiu htu, dp_look h hS hix htx, Option.getD_some] at h1
  omega
end Go.Pal
