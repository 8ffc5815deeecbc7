/- Walks of package elimination: Check. Variables of the elimination's type Step in memory: .. -/
import Derived.Test.YteiibpfabgfolaaGreatDoorVGrH
import Derived.Test.YteiibpfabgfolaaGreatDoorVS3
import Derived.Test.YteiibpfabgfolaaGreatDoorVOwS
import Derived.Test.YteiibpfabgfolaaGreatDoorVR1g
set_option maxHeartbeats 1000000
set_option linter.all false
namespace Go.Pal
open Go
theorem isSet_insR {S : Nat} (h : IsSet S) (n : Int) : IsSet (insR S n) := by
 unfold insR
 split
 · exact isSet_ins h (by omega)
 · exact h
theorem isSet_ofTo (l : List Int) (k : Nat) : IsSet (ofTo l k) := by
 unfold ofTo
 generalize l.take k = m
 suffices ∀ (m : List Int) S, IsSet S → IsSet (m.foldl insR S) from this m 0 isSet_zero
 intro m
 induction m with
 | nil => exact fun S h => h
 | cons x r ih => exact fun S h => ih _ (isSet_insR h x)
theorem Gr.Ok.isSet_vset {G : Gr} (h : G.Ok) : IsSet G.vset := by
 unfold Gr.vset
 have key : ∀ k, k ≤ G.V.length → IsSet (vsetTo G.V k) := by
   intro k
   induction k with
   | zero => intro _; exact isSet_zero
   | succ k ih =>
     intro hk
     obtain ⟨x, hx⟩ : ∃ x, G.V[k]? = some x := ⟨_, List.getElem?_eq_getElem hk⟩
     rw [vsetTo_succ hx]
     have := h.ids x (List.mem_of_getElem? hx)
     exact isSet_ins (ih (by omega)) (by omega)
 exact key _ (Nat.le_refl _)
theorem Gr.Ok.isSet_near {G : Gr} (h : G.Ok) (n : Int) : IsSet (G.near n) := by
 unfold Gr.near
 have key : ∀ k, k ≤ G.E.length → IsSet (nearTo G.E n k) := by
   intro k
   induction k with
   | zero => intro _; exact isSet_zero
   | succ k ih =>
     intro hk
     obtain ⟨x, hx⟩ : ∃ x, G.E[k]? = some x := ⟨_, List.getElem?_eq_getElem hk⟩
     rw [nearTo_succ hx]
     have := h.endsI x (List.mem_of_getElem? hx)
     split
     · exact isSet_ins (ih (by omega)) (by omega)
     · split
       · exact isSet_ins (ih (by omega)) (by omega)
       · exact ih (by omega)
 exact key _ (Nat.le_refl _)
def Gr.ordE (G : Gr) (o : List Int) : Nat := if o.length = G.V.length ∧ ofTo o o.length = G.vset then 0 else 3
end Go.Pal
namespace Go.Proofs.YteiibpfabgfolaaGreatDoor
open Go Go.RowKit Go.Pal
set_option maxRecDepth 20000 in
theorem echeck_any (o : List Int) (v : Value) (g bV bE : Nat) (G : Gr) (hG : G.Ok) (w : World) (hv : RdL w v o) (h : GOk w g bV bE G) (hlen : o.length ≤ 1000000) :
   Calls Tryz.prog 118 #[v, .pointer (some ⟨g, 0, none⟩)] w fun e w' => e = .returned (.int .i64 (G.ordE o : Int)) ∧ Below w.heap.size w w' := by
 have HG := Lib.hid hG
 have HV := Lib.hid hv
 have H0 := Lib.hid h
 have hlenV := hG.len
 obtain ⟨a, c, rfl, -⟩ := hv
 clear h hG
 go_enter Tryz.func118, Tryz.ntmps118
 go_wp2_with fail
 refine (glen_any g bV bE G w H0.out).mono ?_
 rintro e w1 ⟨rfl, hb1⟩
 have HB1 := Lib.hid hb1
 clear hb1
 by_cases hn : o.length = G.V.length
 · have hn1 : ((o.length : Int) != (G.V.length : Int)) = false := by simp [hn]
   have hn2 : (o.length != G.V.length) = false := by simp [hn]
   have HN := Lib.hid hn
   have hof := of_any o (.slice a o.length c) w1 (HV.out.below HB1.out) hlen
   have HOF := Lib.hid hof
   obtain ⟨S, hS⟩ : ∃ S, S = ofTo o o.length := ⟨_, rfl⟩
   have hSS : IsSet S := by rw [hS]; exact isSet_ofTo _ _
   have hgv := fun W hb => gvertexSet_any g bV bE G HG.out W (H0.out.below hb)
   obtain ⟨T, hT⟩ : ∃ T, T = G.vset := ⟨_, rfl⟩
   have hTT : IsSet T := by rw [hT]; exact HG.out.isSet_vset
   rw [← hS] at HOF
   rw [← hT] at hgv
   have HGV := Lib.hid hgv
   have hord : G.ordE o = if S = T then 0 else 3 := by
     unfold Gr.ordE
     rw [hS, hT]
     simp [hn]
   have HORD := Lib.hid hord
   have hq := eqW_iff hSS hTT
   clear hof hS hT hgv hord hn
   go_wp2_with fail
   refine HOF.out.mono ?_
   rintro e w2 ⟨rfl, hb2⟩
   have HB2 := Lib.hid (HB1.out.trans (hb2.mono HB1.out.size))
   clear hb2
   go_wp2_with fail
   refine (HGV.out w2 HB2.out).mono ?_
   rintro e w3 ⟨rfl, hb3⟩
   have HB3 := Lib.hid (HB2.out.trans (hb3.mono HB2.out.size))
   clear hb3
   by_cases hST : S = T
   · subst hST
     have hq2 : eqW S S = true := by rw [hq]; simp
     clear hq
     go_wp2_with fail
     go_ret
     refine ⟨?_, HB3.out⟩
     rw [HORD.out]
     simp
   · have hq2 : eqW S T = false := by rw [hq]; simp [hST]
     clear hq
     go_wp2_with fail
     go_ret
     refine ⟨?_, HB3.out⟩
     rw [HORD.out, if_neg hST]
     rfl
 · have hn1 : ((o.length : Int) != (G.V.length : Int)) = true := by simp; omega
   have hn2 : (o.length != G.V.length) = true := by simp; omega
   go_wp2_with fail
   go_ret
   refine ⟨?_, HB1.out⟩
   unfold Gr.ordE
   rw [if_neg fun h => hn h.1]
   rfl
@[go_sem ↓ high] theorem loadST (a : Addr) : loadVar 97 a = loadLater 97 a := rfl
@[go_sem ↓ high] theorem storeST (a : Addr) (v : Value) : storeVar 97 a v = storeLater 97 a v := rfl
@[go_sem] theorem loadST_run (w : World) (a : Addr) : (loadLater 97 a).run Tryz.prog w = rowLoad Tryz.prog 97 a w := rfl
@[go_sem] theorem storeST_run (w : World) (a : Addr) (v : Value) : (storeLater 97 a v).run Tryz.prog w = rowStore Tryz.prog 97 a v w := rfl
@[go_sem] theorem loadST_at (w : World) (g : Nat) : rowLoad Tryz.prog 97 ⟨g, 0, none⟩ w = match row? w g with
     | some c => if c.size = 17 then .ok (.agg c) w else laterLoad Tryz.prog 97 ⟨g, 0, none⟩ w
     | none => laterLoad Tryz.prog 97 ⟨g, 0, none⟩ w := load_row Tryz.isAgg97 Tryz.sizeOf97 w g
@[go_sem] theorem storeST_at (w : World) (g : Nat) (d : Array Value) : rowStore Tryz.prog 97 ⟨g, 0, none⟩ (.agg d) w = match row? w g with
     | some c => if c.size = 17 ∧ d.size = 17 ∧ allOne d = true then .ok () (w.setRow g d) else laterStore Tryz.prog 97 ⟨g, 0, none⟩ (.agg d) w
     | none => laterStore Tryz.prog 97 ⟨g, 0, none⟩ (.agg d) w := store_row Tryz.sizeOf97 w g d
@[go_sem ↓ high] theorem zeroST (w : World) : (zeroValue 97).run Tryz.prog w = .ok (.agg (bagA (0, 0))) w := by rw [Tryz.zeroValue97]; rfl
theorem wordsLit (S : Nat) : words S = #[.int .u64 (wd S 0 : Int), .int .u64 (wd S 1 : Int), .int .u64 (wd S 2 : Int), .int .u64 (wd S 3 : Int), .int .u64 (wd S 4 : Int), .int .u64 (wd S 5 : Int), .int .u64 (wd S 6 : Int), .int .u64 (wd S 7 : Int), .int .u64 (wd S 8 : Int), .int .u64 (wd S 9 : Int), .int .u64 (wd S 10 : Int), .int .u64 (wd S 11 : Int), .int .u64 (wd S 12 : Int), .int .u64 (wd S 13 : Int), .int .u64 (wd S 14 : Int), .int .u64 (wd S 15 : Int)] := by
 apply Array.ext'
 simp [words, List.ofFn_succ, Fin.succ]
theorem stepA_lit (p : Int) (S : Nat) : bagA (p, S) = #[.int .i64 p, .int .u64 (wd S 0 : Int), .int .u64 (wd S 1 : Int), .int .u64 (wd S 2 : Int), .int .u64 (wd S 3 : Int), .int .u64 (wd S 4 : Int), .int .u64 (wd S 5 : Int), .int .u64 (wd S 6 : Int), .int .u64 (wd S 7 : Int), .int .u64 (wd S 8 : Int), .int .u64 (wd S 9 : Int), .int .u64 (wd S 10 : Int), .int .u64 (wd S 11 : Int), .int .u64 (wd S 12 : Int), .int .u64 (wd S 13 : Int), .int .u64 (wd S 14 : Int), .int .u64 (wd S 15 : Int)] := by
 unfold bagA
 rw [wordsLit]
 apply Array.ext'
 simp
theorem buildS0 (a : Int) (p0 p1 p2 p3 p4 p5 p6 p7 p8 p9 p10 p11 p12 p13 p14 p15 : Int) (w : World) : (Instr.build 97 #[(0, .int .i64 a), (1, .agg #[.int .u64 p0, .int .u64 p1, .int .u64 p2, .int .u64 p3, .int .u64 p4, .int .u64 p5, .int .u64 p6, .int .u64 p7, .int .u64 p8, .int .u64 p9, .int .u64 p10, .int .u64 p11, .int .u64 p12, .int .u64 p13, .int .u64 p14, .int .u64 p15])]).run Tryz.prog w = .ok (.agg #[.int .i64 a, .int .u64 p0, .int .u64 p1, .int .u64 p2, .int .u64 p3, .int .u64 p4, .int .u64 p5, .int .u64 p6, .int .u64 p7, .int .u64 p8, .int .u64 p9, .int .u64 p10, .int .u64 p11, .int .u64 p12, .int .u64 p13, .int .u64 p14, .int .u64 p15]) w := by kernel_rfl
@[go_sem ↓ high] theorem build_Step (a : Int) (S : Nat) (w : World) : (Instr.build 97 #[(0, .int .i64 a), (1, .agg (words S))]).run Tryz.prog w = .ok (.agg (bagA (a, S))) w := by
 rw [stepA_lit, wordsLit]
 exact buildS0 _ _ _ _ _ _ _ _ _ _ _ _ _ _ _ _ _ _
theorem buildSs1 (a : Int) (p0 p1 p2 p3 p4 p5 p6 p7 p8 p9 p10 p11 p12 p13 p14 p15 : Int) (w : World) : (Instr.buildSlice 92 1 #[(0, .agg #[.int .i64 a, .int .u64 p0, .int .u64 p1, .int .u64 p2, .int .u64 p3, .int .u64 p4, .int .u64 p5, .int .u64 p6, .int .u64 p7, .int .u64 p8, .int .u64 p9, .int .u64 p10, .int .u64 p11, .int .u64 p12, .int .u64 p13, .int .u64 p14, .int .u64 p15])]).run Tryz.prog w = .ok (.slice (some ⟨w.heap.size, 0, none⟩) 1 1) (w.alloc (.cells #[.int .i64 a, .int .u64 p0, .int .u64 p1, .int .u64 p2, .int .u64 p3, .int .u64 p4, .int .u64 p5, .int .u64 p6, .int .u64 p7, .int .u64 p8, .int .u64 p9, .int .u64 p10, .int .u64 p11, .int .u64 p12, .int .u64 p13, .int .u64 p14, .int .u64 p15] 97)) := by kernel_rfl
theorem build_Steps1 (a : Int) (S : Nat) (w : World) : (Instr.buildSlice 92 1 #[(0, .agg (bagA (a, S)))]).run Tryz.prog w = .ok (.slice (some ⟨w.heap.size, 0, none⟩) 1 1) (w.alloc (.cells (bagA (a, S)) 97)) := by
 rw [stepA_lit]
 exact buildSs1 _ _ _ _ _ _ _ _ _ _ _ _ _ _ _ _ _ _
theorem wpList_bStep {ops : Array Oper} {rest : List Oper} {o : Oper} {a : Act} {Q : Exit → Act → World → Prop} {w : World} (hg : o.guard = none) (x0 x1 : Operand) (ho : o.op = .build 97 #[(0, x0), (1, x1)])
   (p : Int) (S : Nat) (h0 : a.eval x0 = .int .i64 p) (h1 : a.eval x1 = .agg (words S)) (h : wpList Tryz.prog ops Q rest (a.put o.dst (.agg (bagA (p, S)))) w) : wpList Tryz.prog ops Q (o :: rest) a w := by
 refine wpList_plain hg fun K hK => ?_
 unfold Oper.wp execOp
 simp only [ho, List.map_toArray, List.map_cons, List.map_nil, h0, h1, Sem.run_bind, build_Step, Result.andThen_ok]
 exact hK _ _ h
theorem wpList_bSteps1 {ops : Array Oper} {rest : List Oper} {o : Oper} {a : Act} {Q : Exit → Act → World → Prop} {w : World} (hg : o.guard = none) (x0 : Operand) (ho : o.op = .buildSlice 92 1 #[(0, x0)])
   (p : Int) (S : Nat) (h0 : a.eval x0 = .agg (bagA (p, S))) (h : wpList Tryz.prog ops Q rest (a.put o.dst (.slice (some ⟨w.heap.size, 0, none⟩) 1 1)) (w.alloc (.cells (bagA (p, S)) 97))) : wpList Tryz.prog ops Q (o :: rest) a w := by
 refine wpList_plain hg fun K hK => ?_
 unfold Oper.wp execOp
 simp only [ho, List.map_toArray, List.map_cons, List.map_nil, h0, Sem.run_bind, build_Steps1, Result.andThen_ok]
 exact hK _ _ h
def elS : ElT Tryz.prog 97 17 bagA where
 bytes := 136
 zero := .agg (bagA (0, 0))
 info := by kernel_rfl
 zc := by simp [Value.cells, bagA_size]
 pos := by decide
 small := by decide
 size := bagA_size
 one x u hu := bagA_one x u hu
abbrev OwnS := OwnR 97 17 bagA
def pairA (x : Int × Int) : Array Value := #[.int .i64 x.1, .int .i64 x.2]
def elP : ElT Tryz.prog 166 2 pairA where
 bytes := 16
 zero := .agg #[.int .i64 0, .int .i64 0]
 info := by kernel_rfl
 zc := rfl
 pos := by decide
 small := by decide
 size _ := rfl
 one x u hu := by simp [pairA] at hu; rcases hu with rfl | rfl <;> rfl
abbrev OwnP := OwnR 166 2 pairA
theorem esteps1_any (b6 : Nat) (k : Int) (x : Int) (S : Nat) (vc : Value) (B : Nat) (l : List Bg) (v : Value) (W : World) (hr : row? W b6 = some #[v]) (hO : OwnS B W v l) (hb : v.ownBlock ≠ some b6) (hlen : l.length ≤ 1000000) (hB : B ≤ W.heap.size) :
   Calls Tryz.prog 90 #[.int .i64 k, .agg (bagA (x, S)), vc, .pointer (some ⟨b6, 0, none⟩)] W fun e W' => e = .returned (.tuple #[]) ∧ ∃ v', row? W' b6 = some #[v'] ∧ OwnS B W' v' (l ++ [(x, S)]) ∧ v'.ownBlock ≠ some b6 ∧ (v'.ownBlock = v.ownBlock ∨ ∃ j, v'.ownBlock = some j ∧ W.heap.size ≤ j) ∧ Same (fun j => j ≠ b6 ∧ v.ownBlock ≠ some j) W W' := by
 have hl6 := row?_lt hr
 have HR := Lib.hid hr
 have HO := Lib.hid hO
 obtain ⟨a, c, rfl⟩ := hO.sl
 have c0 : ∀ o, (W.alloc o).cell? ⟨b6, 0, none⟩ = some (.slice a l.length c) := fun o => (cell?_row (i := 0) ((row?_alloc_past _ _ _ hl6).trans hr)).trans rfl
 clear hr hO
 go_enter Tryz.func90, Tryz.ntmps90
 go_wp2_with (first | (refine wpList_bSteps1 rfl _ rfl x S rfl ?_) | (at_builtin; refine wpList_appO elS 92 Tryz.underlying92 rfl _ _ rfl B _ l rfl ((HO.out.alloc _).alloc _) _ (x, S) _ rfl (row?_alloc_at _ _ _ _ (by simp)) (by omega) (by simp; omega) ?_))
 intro v' w5 hO5 hb5 hg5 hl5
 have hs5 : W.heap.size ≤ w5.heap.size := by have := hg5.size; simp at this; omega
 have hk5 : ∀ j, j < W.heap.size → (Value.slice a l.length c).ownBlock ≠ some j → w5.heap[j]? = W.heap[j]? := fun j hj hne => (hg5.block j (by simp; omega) (fun e => hne e.symm)).trans ((Below.heap_alloc _ _ _ (by simp; omega)).trans (Below.heap_alloc _ _ _ hj))
 have hr5 : row? w5 b6 = some #[.slice a l.length c] := (row?_congr (hk5 b6 hl6 hb)).trans HR.out
 have hfz := frozen?_row (i := 0) hr5
 have k5 := cell?_row (i := 0) hr5
 simp at k5
 have hl65 := row?_lt hr5
 have hne5 : v'.ownBlock ≠ some b6 := by
   rcases hl5 with e | e
   · rw [e]; exact hb
   · rw [e]; simp; omega
 have HR5 := Lib.hid hr5
 have HO5 := Lib.hid hO5
 have HL5 : Hid (v'.ownBlock = (Value.slice a l.length c).ownBlock ∨ ∃ j, v'.ownBlock = some j ∧ W.heap.size ≤ j) := Lib.hid (hl5.imp id fun e => ⟨_, e, by first | omega | (simp; done) | (simp; omega)⟩)
 have HS5 : Hid (Same (fun j => j ≠ b6 ∧ (Value.slice a l.length c).ownBlock ≠ some j) W w5) := Lib.hid ⟨hb5.os, hb5.tape, hb5.output, hs5, fun j hj h => hk5 j hj h.2⟩
 obtain ⟨q5, c5, rfl⟩ := hO5.sl
 have HN5 := Lib.hid hne5
 clear hr5 hO5 hb5 hg5 hl5 hk5 hne5 c0
 go_wp2_with fail
 go_end0
 refine ⟨rfl, .slice q5 (l ++ [(x, S)]).length c5, by rw [row?_setCell_same, HR5.out]; simp, HO5.out.same fun j hj => heap_setCell_other _ _ j _ (fun e => HN5.out (by rw [hj]; exact congrArg some e)), HN5.out, HL5.out, HS5.out.trans (Same.setCell _ _ _ _ (by simp))⟩
end Go.Proofs.YteiibpfabgfolaaGreatDoor
namespace Go.Pal
open Go
def gstep (f : Nat → Nat) (x : Nat) : Nat → Nat := fun u => if (f x).testBit u then sDel (sDel (f u ||| f x) u) x else f u
def gameAt (f : Nat → Nat) (o : List Nat) (k : Nat) : Nat → Nat := (o.take k).foldl gstep f
theorem gameAt_succ {f : Nat → Nat} {o : List Nat} {k x : Nat} (h : o[k]? = some x) : gameAt f o (k + 1) = gstep (gameAt f o k) x := by
 unfold gameAt
 rw [List.take_add_one, h, List.foldl_append]
 rfl
theorem isSet_gstep {f : Nat → Nat} (h : ∀ u, IsSet (f u)) (x : Nat) : ∀ u, IsSet (gstep f x u) := by
 intro u
 unfold gstep
 split
 · exact isSet_del (isSet_del (isSet_or (h u) (h x)))
 · exact h u
theorem isSet_gameAt {f : Nat → Nat} (h : ∀ u, IsSet (f u)) (o : List Nat) (k : Nat) : ∀ u, IsSet (gameAt f o k u) := by
 unfold gameAt
 generalize o.take k = m
 induction m generalizing f with
 | nil => exact h
 | cons x r ih => exact ih (isSet_gstep h x)
def gpart (f : Nat → Nat) (x : Nat) (l : List Nat) : Nat → Nat := fun u => if u ∈ l then sDel (sDel (f u ||| f x) u) x else f u
theorem gpart_nil (f : Nat → Nat) (x : Nat) : gpart f x [] = f := by funext u; simp [gpart]
theorem gpart_all {f : Nat → Nat} {x : Nat} (h : IsSet (f x)) : gpart f x (elems (f x)) = gstep f x := by
 funext u
 unfold gpart gstep
 by_cases hu : (f x).testBit u = true
 · rw [if_pos ((mem_elems h).2 hu), if_pos hu]
 · rw [if_neg fun hm => hu ((mem_elems h).1 hm), if_neg hu]
theorem isSet_gpart {f : Nat → Nat} (h : ∀ u, IsSet (f u)) (x : Nat) (l : List Nat) : ∀ u, IsSet (gpart f x l u) := by
 intro u
 unfold gpart
 split
 · exact isSet_del (isSet_del (isSet_or (h u) (h x)))
 · exact h u
abbrev BS := {S : Nat // IsSet S}
open Classical in
noncomputable def toBS (S : Nat) : BS := if h : IsSet S then ⟨S, h⟩ else ⟨0, isSet_zero⟩
theorem toBS_val {S : Nat} (h : IsSet S) : (toBS S).1 = S := by
 unfold toBS
 rw [dif_pos h]
noncomputable def mp (f : Nat → Nat) (o : List Nat) : List (Int × BS) := o.map fun x : Nat => ((x : Int), toBS (f x))
theorem mp_length (f : Nat → Nat) (o : List Nat) : (mp f o).length = o.length := by simp [mp]
theorem look_mp {f : Nat → Nat} {o : List Nat} {u : Nat} (h : u ∈ o) : look (mp f o) (u : Int) = some (toBS (f u)) := by
 induction o with
 | nil => simp at h
 | cons a r ih =>
   unfold look mp
   rw [List.map_cons, List.find?_cons]
   by_cases ha : a = u
   · subst ha
     simp
   · have : decide ((a : Int) = (u : Int)) = false := by simp; omega
     rw [this]
     exact ih (List.mem_of_ne_of_mem (fun e => ha e.symm) h)
def updF (f : Nat → Nat) (u S : Nat) : Nat → Nat := fun v => if v = u then S else f v
theorem mp_congr {f g : Nat → Nat} {o : List Nat} (h : ∀ x ∈ o, f x = g x) : mp f o = mp g o := by
 unfold mp
 apply List.map_congr_left
 intro x hx
 rw [h x hx]
theorem del_mp {f : Nat → Nat} {o : List Nat} {u : Nat} (h : u ∉ o) : del (u : Int) (mp f o) = mp f o := del_all fun p hp e => by
 unfold mp at hp
 obtain ⟨x, hx, rfl⟩ := List.mem_map.1 hp
 simp only at e
 exact h (by rw [show u = x by omega]; exact hx)
theorem mp_upd {f : Nat → Nat} {u S : Nat} : ∀ {o : List Nat}, o.Nodup → u ∈ o → (((u : Int), toBS S) :: del (u : Int) (mp f o)).Perm (mp (updF f u S) o)
 | [], _, h => by simp at h
 | a :: r, hn, h => by
   rw [List.nodup_cons] at hn
   by_cases ha : a = u
   · subst ha
     have e1 : del (a : Int) (mp f (a :: r)) = mp f r := by
       show del (a : Int) (((a : Int), toBS (f a)) :: mp f r) = _
       unfold del
       rw [List.filter_cons, if_neg (by simp)]
       exact del_mp hn.1
     have e2 : mp (updF f a S) (a :: r) = ((a : Int), toBS S) :: mp f r := by
       show ((a : Int), toBS (updF f a S a)) :: mp (updF f a S) r = _
       rw [show updF f a S a = S by simp [updF], mp_congr fun x hx => show updF f a S x = f x by unfold updF; rw [if_neg fun e => hn.1 (by rw [← e]; exact hx)]]
     rw [e1, e2]
   · have hm := List.mem_of_ne_of_mem (fun e => ha e.symm) h
     have e1 : del (u : Int) (mp f (a :: r)) = ((a : Int), toBS (f a)) :: del (u : Int) (mp f r) := by
       show del (u : Int) (((a : Int), toBS (f a)) :: mp f r) = _
       unfold del
       rw [List.filter_cons, if_pos (by simp; omega)]
     have e2 : mp (updF f u S) (a :: r) = ((a : Int), toBS (f a)) :: mp (updF f u S) r := by
       show ((a : Int), toBS (updF f u S a)) :: mp (updF f u S) r = _
       rw [show updF f u S a = f a by simp [updF, ha]]
     rw [e1, e2]
     exact (List.Perm.swap _ _ _).trans ((mp_upd hn.2 hm).cons _)
theorem mp_snoc {f : Nat → Nat} {o : List Nat} {k x : Nat} (hn : o.Nodup) (h : o[k]? = some x) : (((x : Int), toBS (f x)) :: del (x : Int) (mp f (o.take k))).Perm (mp f (o.take (k + 1))) := by
 have hx : x ∉ o.take k := by
   intro hm
   obtain ⟨i, hi, he⟩ := List.mem_iff_getElem.1 hm
   rw [List.getElem_take] at he
   rw [List.length_take] at hi
   obtain ⟨hk, hke⟩ := List.getElem?_eq_some_iff.1 h
   exact List.pairwise_iff_getElem.1 hn i k (by omega) hk (by omega) (he.trans hke.symm)
 rw [del_mp hx, List.take_add_one, h]
 unfold mp
 rw [List.map_append]
 exact (List.perm_append_comm (l₁ := [((x : Int), toBS (f x))]))
theorem gpart_snoc {f : Nat → Nat} {x u : Nat} {l : List Nat} (h : u ∉ l) : gpart f x (l ++ [u]) = updF (gpart f x l) u (sDel (sDel (gpart f x l u ||| f x) u) x) := by
 funext v
 unfold gpart updF
 by_cases hv : v = u
 · subst hv
   simp [h]
 · simp [hv]
end Go.Pal
namespace Go.Proofs.YteiibpfabgfolaaGreatDoor
open Go Go.RowKit Go.Pal
def CN : Cod Int BS := { key := fun n => .int .i64 n, kl := fun n => .int .i64 n, ok := InI, val := fun S => .agg (words S.1), dat := fun S => .agg ((List.range 16).map fun i => .lit (.int .u64 (wd S.1 i : Int))) }
theorem goodN : CN.Good Tryz.prog 3 where
 keyed := Maps.int_keyed Tryz.underlying3
 kinj x y _ _ h := by simpa [CN] using h
 isk x _ := trivial
 keyOf x hx := Maps.keyOf_int_mk Tryz.underlying3 (wf_i64 hx)
 vinj a b h := by
   simp only [CN, Value.agg.injEq] at h
   refine Subtype.ext (set_ext a.2 b.2 fun i hi => ?_)
   have h1 := words_get a.1 hi
   rw [h, words_get b.1 hi] at h1
   simp only [Option.some.injEq, Value.int.injEq, true_and] at h1
   omega
 dinj a b h := by
   simp only [CN, DataW.agg.injEq] at h
   refine Subtype.ext (set_ext a.2 b.2 fun i hi => ?_)
   have h1 := congrArg (fun l => l[i]?) h
   simp only [List.getElem?_map, List.getElem?_range hi, Option.map_some, Option.some.injEq, DataW.lit.injEq, Lit.int.injEq, true_and] at h1
   omega
end Go.Proofs.YteiibpfabgfolaaGreatDoor
