/- A graph that may be nil; walks of package graph: Vertices and Edges of it, Vertex, Edge; .. -/
import Derived.Test.YtglnhnjmelilmaaGreatDoorRVh
import Derived.Test.YtglnhnjmelilmaaGreatDoorRJg
set_option maxHeartbeats 2000000
set_option maxRecDepth 10000
set_option linter.all false
namespace Go.Pal
open Go Go.RowKit
section
variable {α : Type} {P : Program} {e : TypeId} {k : Nat} {enc : α → Array Value}
theorem wpList_appOL {ops : Array Oper} {rest : List Oper} {o : Oper} {a : Act} {Q : Exit → Act → World → Prop} {w : World} (E : ElT P e k enc) (st : TypeId) (hst : P.underlying st = some (.slice e)) (hgd : o.guard = none) (s x : Operand)
   (ho : o.op = .call { callee := .builtin .append, args := #[s, x], argTypes := #[st, st] }) (B : Nat) (v : Value) (l : List α) (hs : a.eval s = v) (hown : OwnR e k enc B w v l)
   (B' : Nat) (u : Value) (m : List α) (hx : a.eval x = u) (hu : OwnR e k enc B' w u m) (hne : m = [] → u = .slice none 0 0) (hlen : l.length + m.length < 1000000) (hB : B ≤ w.heap.size)
   (h : ∀ v' w', OwnR e k enc B w' v' (l ++ m) → Below B w w' → w.grownBy w' v.ownBlock → (v'.ownBlock = v.ownBlock ∨ v'.ownBlock = some w.heap.size) → wpList P ops Q rest (a.put o.dst v') w') : wpList P ops Q (o :: rest) a w := by
 obtain ⟨i0, hi, hz0, hz1, hz2⟩ := info_parts E.info
 refine wpList_plain hgd fun K hK => ?_
 by_cases hm : m = []
 · obtain rfl := hne hm
   subst hm
   have hr := run_append_owned_none (P := P) (w := w) B st o.type e i0 k hst hi v l.length _ hown
   unfold Oper.wp execOp
   simp only [ho, resolve, invoke, builtin, Sem.run_bind, Sem.run_pure, Result.andThen_ok, List.map_toArray, List.map_cons, List.map_nil, hs, hx, hr]
   exact hK _ _ (h v w (by rw [List.append_nil]; exact hown) (Below.refl _ _) ⟨rfl, rfl, rfl, Nat.le_refl _, fun _ _ _ => rfl⟩ (.inl rfl))
 rcases hu.2 with ⟨rfl, h2⟩ | ⟨g, cap, cur, rfl, hB', hg, h3⟩
 · exact absurd (List.length_eq_zero_iff.1 h2) hm
 · obtain ⟨v', w', hr, h4, h5, h6⟩ := run_append_own2 (P := P) w B st o.type e i0 E.zero k E.bytes hst hi hz0 hz1 hz2 E.zc E.pos v l.length (encC enc l) hown ⟨g, 0, none⟩ m.length cap (List.length_pos_iff.2 hm) (encC enc m) (encC_length E m)
     (fun j z hj => World.ownsRow.cells (base := B') hu (g := g) rfl _ _ hj) (fun z hz => by
       obtain ⟨y, -, hy⟩ := List.mem_flatMap.1 hz
       exact E.one y z hy) (by unfold maxLen; omega) (by
       have := E.small
       refine Nat.le_trans (Nat.mul_le_mul (Nat.le_of_lt hlen) this) (by decide)) hB
   unfold Oper.wp execOp
   simp only [ho, resolve, invoke, builtin, Sem.run_bind, Sem.run_pure, Result.andThen_ok, List.map_toArray, List.map_cons, List.map_nil, hs, hx, hr]
   refine hK _ _ (h v' w' ?_ ((Below.refl B w).grown h5 hB hown.block) h5 h6)
   unfold OwnR
   rw [List.length_append, encC_append]
   exact h4
end
theorem idx_get2 {α : Type} {p : α → Bool} {l : List α} (h : ¬ idx p l < 0) : ∃ (k : Nat) (x : α), idx p l = k ∧ l[k]? = some x ∧ p x = true := by
 unfold idx at h ⊢
 cases hf : l.findIdx? p with
 | none => rw [hf] at h; simp at h
 | some k =>
   obtain ⟨h1, h2, h3⟩ := List.findIdx?_eq_some_iff_getElem.1 hf
   exact ⟨k, _, rfl, List.getElem?_eq_getElem h1, h2⟩
theorem results_c3 {P : Program} {fn : Func} {q s t : Tmp} {ty n : Nat} (h : fn.results = #[.cell q ty, .tmp s, .tmp t]) (hagg : ∀ w, (isAgg ty).run P w = .ok true w) (hn : ∀ w, (sizeOf ty).run P w = .ok n w)
   (tmps : Array Value) (w : World) (g : Nat) (c : Array Value) (hp : tmps.getD q undef = .pointer (some ⟨g, 0, none⟩)) (hg : row? w g = some c) (hc : c.size = n) :
   (results fn tmps).run P w = .ok (.tuple #[.agg c, tmps.getD s undef, tmps.getD t undef]) w := by
 have hp' : tmps[q]?.getD undef = .pointer (some ⟨g, 0, none⟩) := by simpa using hp
 have hl := load_row (P := P) hagg hn w g
 rw [hg] at hl
 simp only [hc, if_true] at hl
 unfold rowLoad at hl
 simp [results, h, hp', asAddr, hl]
theorem ret_c3 {P : Program} {fn : Func} {R : Ending → World → Prop} {a : Act} {w : World} {q s t : Tmp} {ty n : Nat} (g : Nat) (c : Array Value) (h : fn.results = #[.cell q ty, .tmp s, .tmp t]) (hagg : ∀ w, (isAgg ty).run P w = .ok true w) (hn : ∀ w, (sizeOf ty).run P w = .ok n w)
   (hp : a.tmps.getD q undef = .pointer (some ⟨g, 0, none⟩)) (hd : a.defers = []) (hg : row? w g = some c) (hc : c.size = n) (hR : R (.returned (.tuple #[.agg c, a.tmps.getD s undef, a.tmps.getD t undef])) w) : bodyPost P fn R .ret a w :=
 bodyPost_ret (results_c3 h hagg hn a.tmps w g c hp hg hc) hd hR
end Go.Pal
namespace Go.Proofs.YtglnhnjmelilmaaGreatDoor
open Go Go.RowKit Go.Pal
attribute [local go_sem] Oper.semAt_some
def GPtr (w : World) (p : Value) (G : Gr) : Prop := (p = .pointer none ∧ G = Gr.none) ∨ ∃ g bV bE, p = .pointer (some ⟨g, 0, none⟩) ∧ GOk w g bV bE G
theorem GPtr.below {w w' : World} {p : Value} {G : Gr} (h : GPtr w p G) (hb : Below w.heap.size w w') : GPtr w' p G := h.imp id fun ⟨g, bV, bE, h1, h2⟩ => ⟨g, bV, bE, h1, h2.below hb⟩
theorem GPtr.of {w : World} {g bV bE : Nat} {G : Gr} (h : GOk w g bV bE G) : GPtr w (.pointer (some ⟨g, 0, none⟩)) G := .inr ⟨g, bV, bE, rfl, h⟩
theorem gverticesP_any (p : Value) (G : Gr) (hG : G.Ok) (w : World) (h : GPtr w p G) : Calls Tryz.prog 59 #[p] w fun r w' => ∃ v, r = .returned v ∧ OwnV w.heap.size w' v G.V ∧ Below w.heap.size w w' := by
 rcases h with ⟨rfl, rfl⟩ | ⟨g, bV, bE, rfl, h⟩
 · go_enter Tryz.func59, Tryz.ntmps59
   go_wp2_with fail
   go_ret
   exact ⟨_, rfl, OwnR.nil _ _, Below.refl _ _⟩
 · exact gvertices_any g bV bE G hG w h
theorem gedgesP_any (p : Value) (G : Gr) (hG : G.Ok) (w : World) (h : GPtr w p G) : Calls Tryz.prog 61 #[p] w fun r w' => ∃ v, r = .returned v ∧ OwnE w.heap.size w' v G.E ∧ Below w.heap.size w w' := by
 rcases h with ⟨rfl, rfl⟩ | ⟨g, bV, bE, rfl, h⟩
 · go_enter Tryz.func61, Tryz.ntmps61
   go_wp2_with fail
   go_ret
   exact ⟨_, rfl, OwnR.nil _ _, Below.refl _ _⟩
 · exact gedges_any g bV bE G hG w h
def vtxOf (G : Gr) (u : Int) : Int × Th := match Pal.look G.V u with | some t => (u, t) | none => (0, (0, 0))
theorem gvertex_any (p : Value) (G : Gr) (u : Int) (hu : InI u) (w : World) (h : GPtr w p G) : Calls Tryz.prog 80 #[p, .int .i64 u] w fun r w' => r = .returned (.tuple #[.agg (vtxA (vtxOf G u)), .bool (Pal.look G.V u).isSome]) ∧ Below w.heap.size w w' := by
 rcases h with ⟨rfl, rfl⟩ | ⟨g, bV, bE, rfl, h⟩
 · go_enter Tryz.func80, Tryz.ntmps80
   go_wp2_with fail
   refine ret_c2 w.heap.size #[.int .i64 0, .int .u8 0, .int .i64 0] rfl Tryz.isAgg126 Tryz.sizeOf126 rfl rfl (by simp [go_sem]) rfl ⟨rfl, ?_⟩
   (repeat' (first | (with_reducible first | exact Below.refl _ _ | assumption | refine Below.alloc ?_ ?_ _ | refine Below.drew ?_ | refine Below.setCell ?_ ?_ _ | refine below_setRow ?_ ?_ _ | exact Nat.le_refl _) | omega | (simp; done) | (simp; omega) | (simp at *; omega)))
 · have H0 := Lib.hid h
   have hgl := h.lt
   have hB0 : Below w.heap.size w (w.alloc (.cells #[.int .i64 0, .int .u8 0, .int .i64 0] 126)) := (Below.refl _ w).alloc (Nat.le_refl _) _
   have k0 := cell?_row (i := 0) (h.below hB0).row
   simp at k0
   have hlk : (Instr.lookup 151 (.map (some bV)) (.int .i64 u) true).run Tryz.prog (w.alloc (.cells #[.int .i64 0, .int .u8 0, .int .i64 0] 126)) = .ok (.tuple #[.agg #[.int .u8 (((Pal.look G.V u).getD (0, 0)).1 : Int), .int .i64 ((Pal.look G.V u).getD (0, 0)).2], .bool (Pal.look G.V u).isSome]) (w.alloc (.cells #[.int .i64 0, .int .u8 0, .int .i64 0] 126)) :=
     (h.below hB0).V.look_ok goodV Tryz.underlying151 (b0 := (0, 0)) zeroThing hu
   unfold vtxOf
   clear h hB0
   cases hl : Pal.look G.V u with
   | none =>
     rw [hl] at hlk
     simp only [Option.getD_none, Option.isSome_none] at hlk
     go_enter Tryz.func80, Tryz.ntmps80
     go_wp2_with fail
     refine ret_c2 w.heap.size #[.int .i64 0, .int .u8 0, .int .i64 0] rfl Tryz.isAgg126 Tryz.sizeOf126 rfl rfl (by simp [go_sem]) rfl ⟨rfl, ?_⟩
     (repeat' (first | (with_reducible first | exact Below.refl _ _ | assumption | refine Below.alloc ?_ ?_ _ | refine Below.drew ?_ | refine Below.setCell ?_ ?_ _ | refine below_setRow ?_ ?_ _ | exact Nat.le_refl _) | omega | (simp; done) | (simp; omega) | (simp at *; omega)))
   | some t =>
     rw [hl] at hlk
     simp only [Option.getD_some, Option.isSome_some] at hlk
     obtain ⟨tl, tw⟩ := t
     go_enter Tryz.func80, Tryz.ntmps80
     go_wp2_with fail
     refine ret_c2 w.heap.size #[.int .i64 u, .int .u8 (tl : Int), .int .i64 tw] rfl Tryz.isAgg126 Tryz.sizeOf126 rfl rfl (by simp [go_sem]) rfl ⟨rfl, ?_⟩
     (repeat' (first | (with_reducible first | exact Below.refl _ _ | assumption | refine Below.alloc ?_ ?_ _ | refine Below.drew ?_ | refine Below.setCell ?_ ?_ _ | refine below_setRow ?_ ?_ _ | exact Nat.le_refl _) | omega | (simp; done) | (simp; omega) | (simp at *; omega)))
theorem gedge1_any (x : (Int × Int) × Th) (u v : Int) (gx : Nat) (w : World) (hr : row? w gx = some #[.int .i64 u, .int .i64 v]) :
   Calls Tryz.prog 134 #[.agg (edgA x), .pointer (some ⟨gx, 0, none⟩)] w fun e w' => e = .returned (.bool (decide (x.1 = (u, v)))) ∧ Below w.heap.size w w' := by
 obtain ⟨⟨a, b⟩, l, t⟩ := x
 have hl := row?_lt hr
 have c0 : ∀ o, (w.alloc o).cell? ⟨gx, 0, none⟩ = some (.int .i64 u) := fun o => (cell?_row (i := 0) ((row?_alloc_past _ _ _ hl).trans hr)).trans rfl
 have c1 : ∀ o, (w.alloc o).cell? ⟨gx, 1, none⟩ = some (.int .i64 v) := fun o => (cell?_row (i := 1) ((row?_alloc_past _ _ _ hl).trans hr)).trans rfl
 have hd : decide (((a, b), l, t).1 = (u, v)) = (decide (a = u) && decide (b = v)) := by rw [Bool.eq_iff_iff]; simp
 rw [hd]
 unfold edgA
 clear hr hd
 by_cases h1 : a = u
 · subst h1
   go_enter Tryz.func134, Tryz.ntmps134
   go_wp2_with fail
   go_ret
   exact ⟨by simp; rfl, (Below.refl _ w).alloc (Nat.le_refl _) _⟩
 · go_enter Tryz.func134, Tryz.ntmps134
   go_wp2_with fail
   go_ret
   exact ⟨by simp [h1], (Below.refl _ w).alloc (Nat.le_refl _) _⟩
theorem indexE_any (L : List ((Int × Int) × Th)) (u v : Int) (gx : Nat) (vl : Value) (w : World) (hl : Rd edgA 4 w.heap.size w vl L) (hlen : L.length ≤ 1000000) (hr : row? w gx = some #[.int .i64 u, .int .i64 v]) :
   Calls Tryz.prog 133 #[vl, .func (.func 134) #[] #[.pointer (some ⟨gx, 0, none⟩)]] w fun e w' => e = .returned (.int .i64 (idx (fun p => decide (p.1 = (u, v))) L)) ∧ Below w.heap.size w w' := by
 have HL := Lib.hid hl
 have hgx := row?_lt hr
 have HR := Lib.hid hr
 obtain ⟨a, c, rfl⟩ := hl.sl
 clear hl hr
 go_enter Tryz.func133, Tryz.ntmps133
 go_wp2
 go_loopw [8] (fun i wr => ∃ k : Nat, k ≤ L.length ∧ i = .int .i64 k ∧ noHit (fun p : (Int × Int) × Th => decide (p.1 = (u, v))) L k ∧ Below w.heap.size w wr) (fun i _ => L.length - (intOf i).toNat)
 case atStart => exact ⟨0, by omega, rfl, fun j x hj => by omega, Below.refl _ _⟩
 case round =>
   obtain ⟨k, hk, rfl, hno, hb⟩ := hrel
   have HN := Lib.hid hno; clear hno
   by_cases hlt : k < L.length
   · obtain ⟨b, off, c', x, h1, hbb, hx, hc⟩ := HL.out.at hlt
     simp only [Value.slice.injEq] at h1
     obtain ⟨rfl, -, rfl⟩ := h1
     have hld : rowLoad Tryz.prog 134 ⟨b, off + k * 4, none⟩ wr = .ok (.agg (edgA x)) wr := load_cells Tryz.isAgg134 Tryz.sizeOf134 wr b _ (edgA x) rfl fun j u hu => hc wr hb j u hu
     have HX := Lib.hid hx
     have HB := Lib.hid hb
     clear hx hc hbb
     go_wp2_with fail
     refine (gedge1_any x u v gx wr ((row?_below HB.out hgx).trans HR.out)).mono ?_
     rintro e w1 ⟨rfl, hb1⟩
     have hB1 : Below w.heap.size w w1 := HB.out.trans (hb1.mono HB.out.size)
     clear hb1
     by_cases hpx : x.1 = (u, v)
     · rw [decide_eq_true hpx]
       go_wp2
       go_ret
       refine ⟨?_, hB1⟩
       rw [idx_some HX.out (by simp [hpx]) HN.out]
       rfl
     · rw [decide_eq_false hpx]
       have HPX := Lib.hid hpx; clear hpx
       go_wp2
       go_roundw
       case rel => exact ⟨k + 1, by omega, by go_num, fun j y hj hy => by
         by_cases h : j = k
         · subst h
           have := HX.out
           rw [hy] at this
           cases this
           exact decide_eq_false HPX.out
         · exact HN.out j y (by omega) hy, hB1⟩
       case measure => simp [intOf]; omega
   · have hk' : k = L.length := by omega
     have HK := Lib.hid hk'; clear hk'
     go_wp2
     go_ret
     refine ⟨?_, hb⟩
     rw [idx_none fun j x hx => HN.out j x (by have := (List.getElem?_eq_some_iff.1 hx).1; have := HK.out; omega) hx]
     rfl
def EdgeAt (G : Gr) (x : Int × Int) (r : Ending) : Prop := (Pal.look G.E x = none ∧ r = .returned (.tuple #[.agg #[.int .i64 0, .int .i64 0, .int .u8 0, .int .i64 0], .int .i64 0, .bool false])) ∨ ∃ (k : Nat) (t : Th), G.E[k]? = some (x, t) ∧ Pal.look G.E x = some t ∧ r = .returned (.tuple #[.agg #[.int .i64 x.1, .int .i64 x.2, .int .u8 (t.1 : Int), .int .i64 t.2], .int .i64 (k : Int), .bool true])
theorem gedge_any (p : Value) (G : Gr) (hG : G.Ok) (u v : Int) (w : World) (h : GPtr w p G) : Calls Tryz.prog 85 #[p, .int .i64 u, .int .i64 v] w fun r w' => EdgeAt G (btw u v) r ∧ Below w.heap.size w w' := by
 have H0 := Lib.hid h
 have HG := Lib.hid hG
 have hm := hG.most
 have HBT := Lib.hid fun W => gbetween_any u v W
 obtain ⟨⟨x1, x2⟩, hx⟩ : ∃ x, x = btw u v := ⟨_, rfl⟩
 rw [← hx] at HBT ⊢
 have hev : endsV (x1, x2) = .agg #[.int .i64 x1, .int .i64 x2] := rfl
 rw [hev] at HBT
 clear h hG hx hev
 go_enter Tryz.func85, Tryz.ntmps85
 go_wp2_with fail
 generalize hW0 : World.alloc w _ = W0
 obtain ⟨hr6, hB0⟩ := alloc_row hW0
 have hs0 := row?_lt hr6
 have HR6 := Lib.hid hr6
 have HB0 := Lib.hid hB0
 clear hW0 hr6 hB0
 refine (HBT.out W0).mono ?_
 rintro r W1 ⟨rfl, hb1⟩
 have HB1 := Lib.hid (HB0.out.trans (hb1.mono HB0.out.size))
 have HR61 := Lib.hid ((row?_below hb1 hs0).trans HR6.out)
 have hs1 := hb1.size
 clear hb1 HR6 HBT
 go_wp2_with fail
 generalize hW2 : World.alloc W1 _ = W2
 obtain ⟨hrx, hb12⟩ := alloc_row hW2
 have HB2 := Lib.hid (HB1.out.trans (hb12.mono HB1.out.size))
 have HR62 := Lib.hid ((row?_below hb12 (by omega)).trans HR61.out)
 have HRX := Lib.hid hrx
 have hs2 := row?_lt hrx
 clear hW2 hrx hb12 HR61
 refine (gedgesP_any p G HG.out W2 (H0.out.below HB2.out)).mono ?_
 rintro r W3 ⟨vl, rfl, hO, hb3⟩
 have HB3 := Lib.hid (HB2.out.trans (hb3.mono HB2.out.size))
 have HR63 := Lib.hid ((row?_below hb3 (by omega)).trans HR62.out)
 have HRX3 := Lib.hid ((row?_below hb3 hs2).trans HRX.out)
 have hs3 := hb3.size
 have HO := Lib.hid hO
 obtain ⟨qa, ca, rfl⟩ := hO.sl
 clear hO hb3 HRX HR62
 go_wp2_with fail
 refine (indexE_any G.E x1 x2 W1.heap.size _ W3 (HO.out.rd elE) (by omega) HRX3.out).mono ?_
 rintro r W4 ⟨rfl, hb4⟩
 have HB4 := Lib.hid (HB3.out.trans (hb4.mono HB3.out.size))
 have hr64 := (row?_below hb4 (by omega)).trans HR63.out
 have hs4 := hb4.size
 by_cases hneg : idx (fun p : (Int × Int) × Th => decide (p.1 = (x1, x2))) G.E < 0
 · have hno : Pal.look G.E (x1, x2) = none := look_none.2 fun q hq e => by
     have : 0 ≤ idx (fun p : (Int × Int) × Th => decide (p.1 = (x1, x2))) G.E := idx_nonneg'.2 ⟨q, hq, by simp [e]⟩
     omega
   have HNo := Lib.hid hno
   obtain ⟨i, hi⟩ : ∃ i, i = idx (fun p : (Int × Int) × Th => decide (p.1 = (x1, x2))) G.E := ⟨_, rfl⟩
   rw [← hi] at hneg ⊢
   clear hb4 hno hi HO
   go_wp2_with fail
   refine ret_c3 w.heap.size #[.int .i64 0, .int .i64 0, .int .u8 0, .int .i64 0] rfl Tryz.isAgg134 Tryz.sizeOf134 rfl rfl (row?_setRow_same _ _ _ (by rw [hr64]; rfl)) rfl ⟨.inl ⟨HNo.out, rfl⟩, ?_⟩
   exact below_setRow HB4.out (Nat.le_refl _) _
 · obtain ⟨k, ⟨y, t⟩, hk, hy, hyx⟩ := idx_get2 hneg
   simp only [decide_eq_true_eq] at hyx
   subst hyx
   rw [hk]
   obtain ⟨b, off, c', y', h1, hbb, hx, hc⟩ := (HO.out.rd elE).at (List.getElem?_eq_some_iff.1 hy).1
   rw [hy] at hx
   cases hx
   simp only [Value.slice.injEq] at h1
   obtain ⟨rfl, -, rfl⟩ := h1
   have hkl := (List.getElem?_eq_some_iff.1 hy).1
   have hld : rowLoad Tryz.prog 134 ⟨b, off + k * 4, none⟩ W4 = .ok (.agg #[.int .i64 x1, .int .i64 x2, .int .u8 (t.1 : Int), .int .i64 t.2]) W4 := load_cells Tryz.isAgg134 Tryz.sizeOf134 W4 b _ _ rfl fun j u hu => hc W4 hb4 j u hu
   have HY := Lib.hid hy
   obtain ⟨n, hn⟩ : ∃ n, n = G.E.length := ⟨_, rfl⟩
   rw [← hn] at hkl hm ⊢
   clear hb4 hc hbb hk hneg hy HO hn
   go_wp2_with fail
   refine ret_c3 w.heap.size #[.int .i64 x1, .int .i64 x2, .int .u8 (t.1 : Int), .int .i64 t.2] rfl Tryz.isAgg134 Tryz.sizeOf134 rfl rfl (row?_setRow_same _ _ _ (by rw [hr64]; rfl)) rfl ⟨.inr ⟨k, t, HY.out, (look_mem (HG.out.sE.nd Go.Pal.ordE)).2 (List.mem_of_getElem? HY.out), rfl⟩, ?_⟩
   exact below_setRow HB4.out (Nat.le_refl _) _
theorem place_any (p : Value) (G : Gr) (hG : G.Ok) (u v : Int) (w : World) (h : GPtr w p G) : Calls Tryz.prog 83 #[p, .int .i64 u, .int .i64 v] w fun r w' => r = .returned (.bool (Pal.look G.E (btw u v)).isSome) ∧ Below w.heap.size w w' := by
 have HE := Lib.hid (gedge_any p G hG u v w h)
 obtain ⟨q, hq⟩ : ∃ q, q = (Pal.look G.E (btw u v)).isSome := ⟨_, rfl⟩
 have HQ := Lib.hid hq
 rw [← hq]
 clear h hG hq
 go_enter Tryz.func83, Tryz.ntmps83
 go_wp2_with fail
 refine HE.out.mono ?_
 rintro r w1 ⟨h1, hb⟩
 have HB := Lib.hid hb
 clear hb
 rcases h1 with ⟨h2, rfl⟩ | ⟨k, t, -, h2, rfl⟩
 · obtain rfl : q = false := by rw [HQ.out, h2]; rfl
   go_wp2_with fail
   go_ret
   refine ⟨rfl, ?_⟩
   have hb := HB.out
   have hs := hb.size
   exact hb.alloc hs _
 · obtain rfl : q = true := by rw [HQ.out, h2]; rfl
   go_wp2_with fail
   go_ret
   refine ⟨rfl, ?_⟩
   have hb := HB.out
   have hs := hb.size
   exact hb.alloc hs _
end Go.Proofs.YtglnhnjmelilmaaGreatDoor
