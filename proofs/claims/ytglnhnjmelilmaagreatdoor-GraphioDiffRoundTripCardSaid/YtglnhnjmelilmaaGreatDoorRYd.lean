/- Walks of graphio: changes, Diff. -/
import Derived.Test.YtglnhnjmelilmaaGreatDoorRYC
import Derived.Test.YtglnhnjmelilmaaGreatDoorRJm
set_option maxHeartbeats 16000000
set_option maxRecDepth 10000
set_option linter.all false
namespace Go.Pal
open Go Go.RowKit
section
variable {α : Type} {enc : α → Array Value} {k : Nat} {w w' : World} {xs : List α}
theorem Rd.keep {qa : Option Addr} {n c : Nat} (h : Rd enc k w.heap.size w (.slice qa n c) xs) (hs : w.heap.size ≤ w'.heap.size) (hk : ∀ a, qa = some a → w'.heap[a.block]? = w.heap[a.block]?) : Rd enc k w'.heap.size w' (.slice qa n c) xs := by
 obtain ⟨q, cq, hv, h⟩ := h
 refine ⟨q, cq, hv, h.imp id ?_⟩
 rintro ⟨b, off, ha, hb, hc⟩
 refine ⟨b, off, ha, by omega, fun i x hi j u hu => ?_⟩
 rw [← hc i x hi j u hu]
 simp only [Value.slice.injEq] at hv
 have := hk ⟨b, off, none⟩ (hv.1.trans ha)
 unfold World.cell?
 rw [this]
def NB (v : Value) (qa : Option Addr) : Prop := ∀ j, v.ownBlock = some j → ∀ a, qa = some a → a.block ≠ j
end
theorem flatMap_snoc {α β : Type} {f : α → List β} {l : List α} {k : Nat} {x : α} (h : l[k]? = some x) : (l.take (k + 1)).flatMap f = (l.take k).flatMap f ++ f x := by
 rw [take_snoc h]
 simp
theorem flatMap_le {α β : Type} {f : α → List β} {b : Nat} : ∀ {l : List α}, (∀ x, (f x).length ≤ b) → (l.flatMap f).length ≤ b * l.length
 | [], _ => by simp
 | x :: r, h => by
   have ih := flatMap_le (f := f) (b := b) (l := r) h
   have h1 := h x
   simp only [List.flatMap_cons, List.length_append, List.length_cons]
   rw [Nat.mul_add]
   omega
theorem filter_map_flat {α β : Type} (q : α → Bool) (g : α → β) : ∀ l : List α, (l.filter q).map g = l.flatMap fun x => if q x = true then [g x] else []
 | [] => rfl
 | x :: r => by
   rw [List.flatMap_cons, List.filter_cons, ← filter_map_flat q g r]
   by_cases h : q x = true
   · rw [if_pos h, if_pos h]; rfl
   · rw [if_neg h, if_neg h]; rfl
def dA (H : Gr) (p : Int × Th) : List Ed := if goneV H p = true then [eRm p.1] else []
def dB (H : Gr) (p : (Int × Int) × Th) : List Ed := if goneE H p = true then [ePt p.1] else []
def dC (G : Gr) (p : Int × Th) : List Ed := if goneV G p = true then [vEd p] else []
def dD (G : Gr) (p : Int × Th) : List Ed := chgOfV (look G.V) p
def dE (G : Gr) (p : (Int × Int) × Th) : List Ed := chgOfE (look G.E) p
theorem diffL_flat (G H : Gr) : diffL G H = (((G.V.flatMap (dA H) ++ G.E.flatMap (dB H)) ++ H.V.flatMap (dC G)) ++ H.V.flatMap (dD G)) ++ H.E.flatMap (dE G) := by
 unfold diffL
 rw [filter_map_flat, filter_map_flat, filter_map_flat]
 rfl
theorem chgs_len (a b : Ed) (t : Th) : (chgs a b t).length ≤ 2 := by
 unfold chgs
 rw [List.length_append]
 split <;> split <;> simp
theorem dA_len (H : Gr) (p) : (dA H p).length ≤ 1 := by unfold dA; split <;> simp
theorem dB_len (H : Gr) (p) : (dB H p).length ≤ 1 := by unfold dB; split <;> simp
theorem dC_len (H : Gr) (p) : (dC H p).length ≤ 1 := by unfold dC; split <;> simp
theorem dD_len (H : Gr) (p) : (dD H p).length ≤ 2 := by
 unfold dD chgOfV
 split
 · simp
 · exact chgs_len _ _ _
theorem dE_len (H : Gr) (p) : (dE H p).length ≤ 2 := by
 unfold dE chgOfE
 split
 · simp
 · exact chgs_len _ _ _
theorem flat_take_le {α β : Type} {f : α → List β} {b : Nat} {l : List α} (h : ∀ x, (f x).length ≤ b) (k m : Nat) (hl : l.length ≤ m) : ((l.take k).flatMap f).length ≤ b * m := by
 refine Nat.le_trans (flatMap_le (f := f) (b := b) h) (Nat.mul_le_mul_left _ ?_)
 rw [List.length_take]
 omega
end Go.Pal
namespace Go.Proofs.YtglnhnjmelilmaaGreatDoor
open Go Go.RowKit Go.Pal
attribute [local go_sem] Oper.semAt_some
def elED : ElT Tryz.prog 23 5 edC where
 bytes := 40
 zero := .agg #[.int .i64 0, .int .i64 0, .int .i64 0, .int .u8 0, .int .i64 0]
 info := by kernel_rfl
 zc := rfl
 pos := by decide
 small := by decide
 size _ := rfl
 one x u hu := by simp [edC] at hu; rcases hu with rfl | rfl | rfl | rfl | rfl <;> rfl
abbrev OwnED := OwnR 23 5 edC
@[go_sem] theorem loadED_at (w : World) (g : Nat) : rowLoad Tryz.prog 23 ⟨g, 0, none⟩ w = match row? w g with
     | some c => if c.size = 5 then .ok (.agg c) w else laterLoad Tryz.prog 23 ⟨g, 0, none⟩ w
     | none => laterLoad Tryz.prog 23 ⟨g, 0, none⟩ w := load_row Tryz.isAgg23 Tryz.sizeOf23 w g
@[go_sem ↓ high] theorem bs_ED (a b c d e : Int) (w : World) : (Instr.buildSlice 37 1 #[(0, .agg #[.int .i64 a, .int .i64 b, .int .i64 c, .int .u8 d, .int .i64 e])]).run Tryz.prog w = .ok (.slice (some ⟨w.heap.size, 0, none⟩) 1 1) (w.alloc (.cells #[.int .i64 a, .int .i64 b, .int .i64 c, .int .u8 d, .int .i64 e] 23)) := by kernel_rfl
theorem changes_any (a b : Ed) (t : Th) (w : World) : Calls Tryz.prog 84 #[.agg (edC a), .agg (edC b), .int .u8 (t.1 : Int), .int .i64 t.2] w fun r w' => ∃ v, r = .returned v ∧ OwnED w.heap.size w' v (chgs a b t) ∧ (chgs a b t = [] → v = .slice none 0 0) ∧ Below w.heap.size w w' := by
 obtain ⟨ao, au, av, al, aw⟩ := a
 obtain ⟨bo, bu, bv, bl, bw⟩ := b
 obtain ⟨tl, tw⟩ := t
 have ha : edC ⟨ao, au, av, al, aw⟩ = #[.int .i64 ao, .int .i64 au, .int .i64 av, .int .u8 (al : Int), .int .i64 aw] := rfl
 have hb : edC ⟨bo, bu, bv, bl, bw⟩ = #[.int .i64 bo, .int .i64 bu, .int .i64 bv, .int .u8 (bl : Int), .int .i64 bw] := rfl
 have hc : chgs ⟨ao, au, av, al, aw⟩ ⟨bo, bu, bv, bl, bw⟩ (tl, tw) = (if al ≠ tl then [⟨ao, au, av, al, aw⟩] else []) ++ (if bw ≠ tw then [⟨bo, bu, bv, bl, bw⟩] else []) := rfl
 rw [ha, hb, hc]
 simp only
 have HA := Lib.hid ha
 have HBb := Lib.hid hb
 clear ha hb hc
 by_cases h1 : al = tl
 · have e1 : ((al : Int) != (tl : Int)) = false := by simp [h1]
   have e1' : ((al : Int) == (tl : Int)) = true := by simp [h1]
   rw [if_neg (by simp [h1]), List.nil_append]
   by_cases h2 : bw = tw
   · have e2 : (bw != tw) = false := by simp [h2]
     have e2' : (bw == tw) = true := by simp [h2]
     rw [if_neg (by simp [h2])]
     clear h1 h2
     go_enter Tryz.func84, Tryz.ntmps84
     go_wp2_with fail
     go_ret
     refine ⟨_, rfl, OwnR.nil _ _, fun _ => rfl, ?_⟩
     (repeat' (first | (with_reducible first | exact Below.refl _ _ | assumption | refine Below.alloc ?_ ?_ _ | refine Below.drew ?_ | refine Below.setCell ?_ ?_ _ | refine below_setRow ?_ ?_ _ | exact Nat.le_refl _) | omega | (simp; done) | (simp; omega) | (simp at *; omega)))
   · have e2 : (bw != tw) = true := by simp [h2]
     have e2' : (bw == tw) = false := by simp [h2]
     rw [if_pos h2]
     clear h1 h2
     go_enter Tryz.func84, Tryz.ntmps84
     go_wp2_with (at_builtin; refine wpList_appO elED 37 Tryz.underlying37 rfl _ _ rfl w.heap.size _ [] rfl (OwnR.nil _ _) _ ⟨bo, bu, bv, bl, bw⟩ _ rfl (by rw [HBb.out]; simp [go_sem]) (by simp) (by simp <;> omega) ?_)
     intro v3 w3 hO3 hb3 hg3 hl3
     have HO3 := Lib.hid hO3
     have HB3 : Hid (Below w.heap.size w w3) := Lib.hid (((((Below.refl _ w).alloc (Nat.le_refl _) _).alloc (by simp) _).alloc (by simp; omega) _).trans hb3)
     clear hO3 hb3 hg3 hl3
     go_wp2_with fail
     go_ret
     exact ⟨_, rfl, HO3.out, fun h => (by simp at h), HB3.out⟩
 · have e1 : ((al : Int) != (tl : Int)) = true := by simp; omega
   have e1' : ((al : Int) == (tl : Int)) = false := by simp; omega
   rw [if_pos h1]
   by_cases h2 : bw = tw
   · have e2 : (bw != tw) = false := by simp [h2]
     have e2' : (bw == tw) = true := by simp [h2]
     rw [if_neg (by simp [h2])]
     clear h1 h2
     go_enter Tryz.func84, Tryz.ntmps84
     go_wp2_with (at_builtin; refine wpList_appO elED 37 Tryz.underlying37 rfl _ _ rfl w.heap.size _ [] rfl (OwnR.nil _ _) _ ⟨ao, au, av, al, aw⟩ _ rfl (by rw [HA.out]; simp [go_sem]) (by simp) (by simp <;> omega) ?_)
     intro v3 w3 hO3 hb3 hg3 hl3
     have hb5 : row? (((w.alloc (.cells #[.int .i64 ao, .int .i64 au, .int .i64 av, .int .u8 (al : Int), .int .i64 aw] 23)).alloc (.cells #[.int .i64 bo, .int .i64 bu, .int .i64 bv, .int .u8 (bl : Int), .int .i64 bw] 23)).alloc (.cells #[.int .i64 ao, .int .i64 au, .int .i64 av, .int .u8 (al : Int), .int .i64 aw] 23)) (w.heap.size + 1) = some #[.int .i64 bo, .int .i64 bu, .int .i64 bv, .int .u8 (bl : Int), .int .i64 bw] := by simp [go_sem]
     have hr5 : row? w3 (w.heap.size + 1) = some #[.int .i64 bo, .int .i64 bu, .int .i64 bv, .int .u8 (bl : Int), .int .i64 bw] := (row?_congr (hg3.block _ (by simp <;> omega) (by simp [Value.ownBlock]))).trans hb5
     have hs3 : w.heap.size + 3 ≤ w3.heap.size := by have := hg3.size; simp at this; omega
     have k5 := cell?_row (i := 4) hr5
     simp at k5
     obtain ⟨q3, c3, rfl⟩ := hO3.sl
     have HO3 := Lib.hid hO3
     have HB3 : Hid (Below w.heap.size w w3) := Lib.hid (((((Below.refl _ w).alloc (Nat.le_refl _) _).alloc (by simp) _).alloc (by simp; omega) _).trans hb3)
     clear hO3 hb3 hg3 hl3 hb5
     go_wp2_with fail
     go_ret
     exact ⟨_, rfl, HO3.out, fun h => (by simp at h), HB3.out⟩
   · have e2 : (bw != tw) = true := by simp [h2]
     have e2' : (bw == tw) = false := by simp [h2]
     rw [if_pos h2]
     clear h1 h2
     go_enter Tryz.func84, Tryz.ntmps84
     go_wp2_with (at_builtin; refine wpList_appO elED 37 Tryz.underlying37 rfl _ _ rfl w.heap.size _ [] rfl (OwnR.nil _ _) _ ⟨ao, au, av, al, aw⟩ _ rfl (by rw [HA.out]; simp [go_sem]) (by simp) (by simp <;> omega) ?_)
     intro v3 w3 hO3 hb3 hg3 hl3
     have hb5 : row? (((w.alloc (.cells #[.int .i64 ao, .int .i64 au, .int .i64 av, .int .u8 (al : Int), .int .i64 aw] 23)).alloc (.cells #[.int .i64 bo, .int .i64 bu, .int .i64 bv, .int .u8 (bl : Int), .int .i64 bw] 23)).alloc (.cells #[.int .i64 ao, .int .i64 au, .int .i64 av, .int .u8 (al : Int), .int .i64 aw] 23)) (w.heap.size + 1) = some #[.int .i64 bo, .int .i64 bu, .int .i64 bv, .int .u8 (bl : Int), .int .i64 bw] := by simp [go_sem]
     have hr5 : row? w3 (w.heap.size + 1) = some #[.int .i64 bo, .int .i64 bu, .int .i64 bv, .int .u8 (bl : Int), .int .i64 bw] := (row?_congr (hg3.block _ (by simp <;> omega) (by simp [Value.ownBlock]))).trans hb5
     have hs3 : w.heap.size + 3 ≤ w3.heap.size := by have := hg3.size; simp at this; omega
     have k5 := cell?_row (i := 4) hr5
     simp at k5
     obtain ⟨q3, c3, rfl⟩ := hO3.sl
     have HO3 := Lib.hid hO3
     have HB3 : Hid (Below w.heap.size w w3) := Lib.hid (((((Below.refl _ w).alloc (Nat.le_refl _) _).alloc (by simp) _).alloc (by simp; omega) _).trans hb3)
     clear hO3 hb3 hg3 hl3 hb5
     go_wp2_with (at_builtin; refine wpList_appO elED 37 Tryz.underlying37 rfl _ _ rfl w.heap.size _ [⟨ao, au, av, al, aw⟩] rfl (HO3.out.alloc _) _ ⟨bo, bu, bv, bl, bw⟩ _ rfl (row?_alloc_at _ _ _ _ rfl) (by simp) (by simp; omega) ?_)
     intro v4 w4 hO4 hb4 hg4 hl4
     have HO4 := Lib.hid hO4
     have HB4 := Lib.hid ((HB3.out.alloc (by omega) _).trans hb4)
     clear hO4 hb4 hg4 hl4
     go_wp2_with fail
     go_ret
     exact ⟨_, rfl, HO4.out, fun h => (by simp at h), HB4.out⟩
@[go_sem ↓ high] theorem b_EdR (u : Int) (w : World) : (Instr.build 23 #[(0, .int .i64 1), (1, .int .i64 u)]).run Tryz.prog w = .ok (.agg #[.int .i64 1, .int .i64 u, .int .i64 0, .int .u8 0, .int .i64 0]) w := by kernel_rfl
@[go_sem ↓ high] theorem b_EdP (u v : Int) (w : World) : (Instr.build 23 #[(0, .int .i64 3), (1, .int .i64 u), (2, .int .i64 v)]).run Tryz.prog w = .ok (.agg #[.int .i64 3, .int .i64 u, .int .i64 v, .int .u8 0, .int .i64 0]) w := by kernel_rfl
@[go_sem ↓ high] theorem b_Ed4V (u l : Int) (w : World) : (Instr.build 23 #[(0, .int .i64 4), (1, .int .i64 u), (3, .int .u8 l)]).run Tryz.prog w = .ok (.agg #[.int .i64 4, .int .i64 u, .int .i64 0, .int .u8 l, .int .i64 0]) w := by kernel_rfl
@[go_sem ↓ high] theorem b_Ed5V (u t : Int) (w : World) : (Instr.build 23 #[(0, .int .i64 5), (1, .int .i64 u), (4, .int .i64 t)]).run Tryz.prog w = .ok (.agg #[.int .i64 5, .int .i64 u, .int .i64 0, .int .u8 0, .int .i64 t]) w := by kernel_rfl
@[go_sem ↓ high] theorem b_Ed6E (u v l : Int) (w : World) : (Instr.build 23 #[(0, .int .i64 6), (1, .int .i64 u), (2, .int .i64 v), (3, .int .u8 l)]).run Tryz.prog w = .ok (.agg #[.int .i64 6, .int .i64 u, .int .i64 v, .int .u8 l, .int .i64 0]) w := by kernel_rfl
@[go_sem ↓ high] theorem b_Ed7E (u v t : Int) (w : World) : (Instr.build 23 #[(0, .int .i64 7), (1, .int .i64 u), (2, .int .i64 v), (4, .int .i64 t)]).run Tryz.prog w = .ok (.agg #[.int .i64 7, .int .i64 u, .int .i64 v, .int .u8 0, .int .i64 t]) w := by kernel_rfl
theorem has_vset {H : Gr} (hH : H.Ok) (n : Int) : (decide (0 ≤ n ∧ n < 1024) && H.vset.testBit n.toNat) = (Pal.look H.V n).isSome := by
 have key : (Pal.look H.V n).isSome = true ↔ n ∈ H.ids' := by
   rw [look_some]
   unfold Gr.ids'
   simp
 rw [Bool.eq_iff_iff, key, hH.vset_bit]
 constructor
 · intro h
   simp only [Bool.and_eq_true, decide_eq_true_eq] at h
   have e : ((n.toNat : Nat) : Int) = n := by omega
   rw [e] at h
   exact h.2
 · intro h
   have h1 := hH.ids_range n h
   simp only [Bool.and_eq_true, decide_eq_true_eq]
   have e : ((n.toNat : Nat) : Int) = n := by omega
   rw [e]
   exact ⟨h1, h⟩
theorem vtxOf_some {G : Gr} {u : Int} {t : Th} (h : Pal.look G.V u = some t) : vtxOf G u = (u, t) := by unfold vtxOf; rw [h]
theorem diff_any (pf pt : Value) (G H : Gr) (hG : G.Ok) (hH : H.Ok) (w : World) (hf : GPtr w pf G) (ht : GPtr w pt H) (hto : G.E = [] ∨ ∃ g bV bE, pt = .pointer (some ⟨g, 0, none⟩) ∧ GOk w g bV bE H) :
   Calls Tryz.prog 34 #[pf, pt] w fun r w' => ∃ v, r = .returned v ∧ OwnED w.heap.size w' v (diffL G H) ∧ Below w.heap.size w w' := by
 have HF := Lib.hid fun W (h : Below w.heap.size w W) => hf.below h
 have HT := Lib.hid fun W (h : Below w.heap.size w W) => ht.below h
 have HG := Lib.hid hG
 have HH := Lib.hid hH
 have HVx : Hid (G.E ≠ [] → ∀ W, Below w.heap.size w W → Calls Tryz.prog 81 #[pt] W fun r w' => r = .returned (.agg (words H.vset)) ∧ Below W.heap.size W w') := Lib.hid fun hne W hW => by
   rcases hto with h | ⟨g, bV, bE, rfl, hgo⟩
   · exact absurd h hne
   · exact gvertexSet_any g bV bE H hH W (hgo.below hW)
 have HHas : Hid (∀ (n : Int) (W : World), Calls Tryz.prog 82 #[.agg (words H.vset), .int .i64 n] W fun e w' => e = .returned (.bool (Pal.look H.V n).isSome) ∧ Below W.heap.size W w') := Lib.hid fun n W => by
   have := has_any H.vset n W
   rwa [has_vset hH] at this
 obtain ⟨D0, hD0⟩ : ∃ D : List Ed, D = [] := ⟨_, rfl⟩
 have hfin : diffL G H = ((((D0 ++ G.V.flatMap (dA H)) ++ G.E.flatMap (dB H)) ++ H.V.flatMap (dC G)) ++ H.V.flatMap (dD G)) ++ H.E.flatMap (dE G) := by rw [diffL_flat, hD0, List.nil_append]
 have HFin := Lib.hid hfin
 have hD0l : D0.length ≤ 0 := by rw [hD0]; simp
 have HOc : Hid (OwnED w.heap.size w (.slice none 0 0) D0) := Lib.hid (by rw [hD0]; exact OwnR.nil _ _)
 have HBc : Hid (Below w.heap.size w w) := Lib.hid (Below.refl _ _)
 clear hf ht hG hH hto hfin hD0
 go_enter Tryz.func34, Tryz.ntmps34
 go_wp2_with fail
 refine (gverticesP_any pf G HG.out _ (HF.out _ HBc.out)).mono ?_
 rintro r w1 ⟨va, rfl, hOV, hb1⟩
 have HO1 := Lib.hid (HOc.out.below hb1 (Nat.le_refl _))
 have HB1 := Lib.hid (HBc.out.trans (hb1.mono HBc.out.size))
 have hs1 := HB1.out.size
 obtain ⟨qa, ca, rfl⟩ := hOV.sl
 have HN1 : Hid (NB (.slice none 0 0) qa) := Lib.hid fun j hj a ha e => by
   have h1 := hOV.block a.block (by rw [ha]; rfl)
   have h2 := HOc.out.lt j hj
   omega
 have HR1 := Lib.hid (hOV.rd elV)
 obtain ⟨LL, hLL⟩ : ∃ n, n = (G.V).length := ⟨_, rfl⟩
 have HLL := Lib.hid hLL
 have hLe : LL ≤ 1024 := by rw [hLL]; exact HG.out.len
 rw [← hLL] at HR1 ⊢
 clear hOV hb1 HOc HBc hLL
 go_wp2_with fail
 go_loopw [5, 28] (fun v i wr => ∃ k : Nat, k ≤ LL ∧ i = .int .i64 (k : Int) ∧ OwnED w.heap.size wr v (D0 ++ (G.V.take k).flatMap (dA H)) ∧ Below w.heap.size w wr ∧ Rd vtxA 3 wr.heap.size wr (.slice qa LL ca) G.V ∧ NB v qa) (fun _ i _ => LL - (intOf i).toNat)
 case atStart => exact ⟨0, by omega, rfl, by simpa using HO1.out, HB1.out, HR1.out, HN1.out⟩
 case round =>
   obtain ⟨k, hk, rfl, hO, hb, hR, hN⟩ := hrel
   obtain ⟨acc, hacc⟩ : ∃ acc, acc = D0 ++ ((G.V).take k).flatMap (dA H) := ⟨_, rfl⟩
   rw [← hacc] at hO
   have hal : acc.length < 100000 := by
     have h1 := flat_take_le (dA_len H) k LL (by rw [HLL.out]; exact Nat.le_refl _)
     rw [hacc, List.length_append]
     omega
   have HACC := Lib.hid hacc
   obtain ⟨qv, cv, rfl⟩ := hO.sl
   have HO := Lib.hid hO
   have HB := Lib.hid hb
   have HR := Lib.hid hR
   have HN := Lib.hid hN
   have hsz := hb.size
   clear hacc hO hb hR hN
   by_cases hlt : k < LL
   · obtain ⟨b, off, c', x, h1, hbb, hx, hc⟩ := HR.out.at (by rw [← HLL.out]; exact hlt)
     simp only [Value.slice.injEq] at h1
     obtain ⟨rfl, -, rfl⟩ := h1
     have hmem := List.mem_of_getElem? hx
     obtain ⟨xi, xl, xw⟩ := x
     have HX := Lib.hid hx
     have jl : rowLoad Tryz.prog 126 ⟨b, off + k * 3, none⟩ wr = .ok (.agg #[.int .i64 xi, .int .u8 (xl : Int), .int .i64 xw]) wr := load_cells Tryz.isAgg126 Tryz.sizeOf126 wr b _ _ rfl fun j u hu => hc wr (Below.refl _ _) j u hu
     have hrt : row? (wr.alloc (.cells #[.int .i64 xi, .int .u8 (xl : Int), .int .i64 xw] 126)) wr.heap.size = some #[.int .i64 xi, .int .u8 (xl : Int), .int .i64 xw] := row?_alloc_at _ _ _ _ rfl
     have HBA : Hid (Below wr.heap.size wr (wr.alloc (.cells #[.int .i64 xi, .int .u8 (xl : Int), .int .i64 xw] 126))) := Lib.hid ((Below.refl _ wr).alloc (Nat.le_refl _) _)
     have HRT := Lib.hid hrt
     clear hx hc
     go_wp2_with fail
     have hid := HG.out.ids _ hmem
     refine (gvertex_any pt H xi (InI.small (by omega) (by omega)) _ (HT.out _ (HB.out.trans (HBA.out.mono hsz)))).mono ?_
     rintro r w2 ⟨rfl, hb2⟩
     obtain ⟨⟨yi, yl, yw⟩, hy⟩ : ∃ y, y = vtxOf H xi := ⟨_, rfl⟩
     rw [← hy, show vtxA (yi, yl, yw) = #[.int .i64 yi, .int .u8 (yl : Int), .int .i64 yw] from rfl]
     clear hy
     have HB2 := Lib.hid (HBA.out.trans (hb2.mono (by simp)))
     have hs2 := HB2.out.size
     have hs2' := hb2.size
     simp only [World.size_alloc] at hs2'
     have hrv := (row?_below hb2 (by simp)).trans HRT.out
     have HO2 := Lib.hid (HO.out.below HB2.out (Nat.le_refl _))
     clear jl hrt hb2
     have c0 : ∀ o, (w2.alloc o).cell? ⟨wr.heap.size, 0, none⟩ = some (.int .i64 xi) := fun o => (cell?_row (i := 0) ((row?_alloc_past _ _ _ (by omega)).trans hrv)).trans rfl
     cases his : (Pal.look H.V xi).isSome with
     | true =>
       have HFx : Hid (dA H (xi, xl, xw) = []) := Lib.hid (by unfold dA goneV; rw [his]; rfl)
       clear his c0
       go_wp2_with fail
       go_roundw
       case rel => exact ⟨k + 1, by omega, by go_num, by rw [flatMap_snoc HX.out, ← List.append_assoc, ← HACC.out, HFx.out, List.append_nil]; exact HO.out.below (HB2.out.alloc hs2 _) (Nat.le_refl _), HB.out.trans (((HB2.out.alloc hs2 _)).mono hsz), (HR.out.below (HB2.out.alloc hs2 _) (Nat.le_refl _)).mono ((HB2.out.alloc hs2 _)).size, HN.out⟩
       case measure => simp [intOf]; omega
     | false =>
       have HFx : Hid (dA H (xi, xl, xw) = [eRm xi]) := Lib.hid (by unfold dA goneV; rw [his]; rfl)
       clear his
       go_wp2_with (at_builtin; refine wpList_appO elED 37 Tryz.underlying37 rfl _ _ rfl w.heap.size _ acc rfl ((HO2.out.alloc _).alloc _) _ (eRm xi) _ rfl (row?_alloc_at _ _ _ _ (by simp)) (by omega) (by simp; omega) ?_)
       clear c0
       intro v3 w3 hO3 hb3 hg3 hl3
       have hk3 : w3.heap[b]? = wr.heap[b]? := (hg3.block b (by first | omega | (simp; omega)) (fun e => HN.out b e.symm ⟨b, off, none⟩ rfl rfl)).trans ((((HB2.out.alloc hs2 _).alloc (by simp; omega) _)).block b hbb)
       have HB3 := Lib.hid ((HB.out.trans ((((HB2.out.alloc hs2 _).alloc (by simp; omega) _)).mono hsz)).trans hb3)
       have hs3 : wr.heap.size ≤ w3.heap.size := by have := hb3.size; first | omega | (simp at this; omega)
       have HR3 := Lib.hid (HR.out.keep hs3 (fun a ha => by cases ha; exact hk3))
       have HN3 : Hid (NB v3 (some ⟨b, off, none⟩)) := Lib.hid fun j hj a ha e => by
         cases ha
         simp only at e
         rcases hl3 with h | h
         · rw [h] at hj
           exact HN.out j hj _ rfl e
         · rw [h] at hj
           simp at hj
           omega
       have HO3 : Hid (OwnED w.heap.size w3 v3 (D0 ++ ((G.V).take (k + 1)).flatMap (dA H))) := Lib.hid (by
         rw [flatMap_snoc HX.out, ← List.append_assoc, ← HACC.out, HFx.out]
         exact hO3)
       obtain ⟨q3, c3, rfl⟩ := hO3.sl
       clear hO3 hb3 hg3 hl3 hk3 HO HO2 hrv
       go_wp2_with fail
       go_roundw
       case rel => exact ⟨k + 1, by omega, by go_num, HO3.out, HB3.out, HR3.out, HN3.out⟩
       case measure => simp [intOf]; omega
   · have hkn : LL = k := by omega
     subst hkn
     obtain ⟨D1, hD⟩ : ∃ D, D = D0 ++ (G.V).flatMap (dA H) := ⟨_, rfl⟩
     have e : D1 = acc := by rw [hD, HACC.out, HLL.out, List.take_length]
     have hDl : (D1).length ≤ 1024 := by
       have h1 := flat_take_le (dA_len H) LL LL (by rw [HLL.out]; exact Nat.le_refl _) (l := G.V)
       rw [e, HACC.out, List.length_append]
       omega
     subst e
     have HD1 := Lib.hid hD
     have hD1 := hDl
     obtain ⟨wo, rfl⟩ : ∃ W : World, W = wr := ⟨_, rfl⟩
     have HOc := HO
     have HBc := HB
     clear HR HN HACC HLL HO HB hD hDl HO1 HB1 HR1 HN1 hsz hal hk hLe
     go_wp2_with fail
     refine (gedgesP_any pf G HG.out _ (HF.out _ HBc.out)).mono ?_
     rintro r w1 ⟨va, rfl, hOV, hb1⟩
     have HO1 := Lib.hid (HOc.out.below hb1 (Nat.le_refl _))
     have HB1 := Lib.hid (HBc.out.trans (hb1.mono HBc.out.size))
     have hs1 := HB1.out.size
     obtain ⟨qa, ca, rfl⟩ := hOV.sl
     have HN1 : Hid (NB (.slice qv D1.length cv) qa) := Lib.hid fun j hj a ha e => by
       have h1 := hOV.block a.block (by rw [ha]; rfl)
       have h2 := HOc.out.lt j hj
       omega
     have HR1 := Lib.hid (hOV.rd elE)
     obtain ⟨LL, hLL⟩ : ∃ n, n = (G.E).length := ⟨_, rfl⟩
     have HLL := Lib.hid hLL
     have hLe : LL ≤ 1024 := by rw [hLL]; exact HG.out.most
     rw [← hLL] at HR1 ⊢
     clear hOV hb1 HOc HBc hLL
     go_wp2_with fail
     go_loopw [5, 51] (fun v i wr => ∃ k : Nat, k ≤ LL ∧ i = .int .i64 (k : Int) ∧ OwnED w.heap.size wr v (D1 ++ (G.E.take k).flatMap (dB H)) ∧ Below w.heap.size w wr ∧ Rd edgA 4 wr.heap.size wr (.slice qa LL ca) G.E ∧ NB v qa) (fun _ i _ => LL - (intOf i).toNat)
     case atStart => exact ⟨0, by omega, rfl, by simpa using HO1.out, HB1.out, HR1.out, HN1.out⟩
     case round =>
       obtain ⟨k, hk, rfl, hO, hb, hR, hN⟩ := hrel
       obtain ⟨acc, hacc⟩ : ∃ acc, acc = D1 ++ ((G.E).take k).flatMap (dB H) := ⟨_, rfl⟩
       rw [← hacc] at hO
       have hal : acc.length < 100000 := by
         have h1 := flat_take_le (dB_len H) k LL (by rw [HLL.out]; exact Nat.le_refl _)
         rw [hacc, List.length_append]
         omega
       have HACC := Lib.hid hacc
       obtain ⟨qv, cv, rfl⟩ := hO.sl
       have HO := Lib.hid hO
       have HB := Lib.hid hb
       have HR := Lib.hid hR
       have HN := Lib.hid hN
       have hsz := hb.size
       clear hacc hO hb hR hN
       by_cases hlt : k < LL
       · obtain ⟨b, off, c', x, h1, hbb, hx, hc⟩ := HR.out.at (by rw [← HLL.out]; exact hlt)
         simp only [Value.slice.injEq] at h1
         obtain ⟨rfl, -, rfl⟩ := h1
         have hmem := List.mem_of_getElem? hx
         obtain ⟨⟨xu, xv⟩, xl, xw⟩ := x
         have HX := Lib.hid hx
         have jl : rowLoad Tryz.prog 134 ⟨b, off + k * 4, none⟩ wr = .ok (.agg #[.int .i64 xu, .int .i64 xv, .int .u8 (xl : Int), .int .i64 xw]) wr := load_cells Tryz.isAgg134 Tryz.sizeOf134 wr b _ _ rfl fun j u hu => hc wr (Below.refl _ _) j u hu
         have hrt : row? (wr.alloc (.cells #[.int .i64 xu, .int .i64 xv, .int .u8 (xl : Int), .int .i64 xw] 134)) wr.heap.size = some #[.int .i64 xu, .int .i64 xv, .int .u8 (xl : Int), .int .i64 xw] := row?_alloc_at _ _ _ _ rfl
         have HBA : Hid (Below wr.heap.size wr (wr.alloc (.cells #[.int .i64 xu, .int .i64 xv, .int .u8 (xl : Int), .int .i64 xw] 134))) := Lib.hid ((Below.refl _ wr).alloc (Nat.le_refl _) _)
         have HRT := Lib.hid hrt
         clear hx hc
         go_wp2_with fail
         have hlu := (HG.out.ends _ hmem).1
         simp only at hlu
         have HVS := Lib.hid fun W (h : Below w.heap.size w W) => HVx.out (fun e => by rw [e] at hmem; cases hmem) W h
         have HPl := Lib.hid fun W (h : Below w.heap.size w W) => place_any pt H HH.out xu xv W (HT.out W h)
         rw [btw_of hlu] at HPl
         obtain ⟨wB, hwB⟩ : ∃ W, W = wr.alloc (.cells #[.int .i64 xu, .int .i64 xv, .int .u8 (xl : Int), .int .i64 xw] 134) := ⟨_, rfl⟩
         rw [← hwB] at HBA hrt ⊢
         have hsB : wr.heap.size < wB.heap.size := by rw [hwB]; simp
         have HrB := Lib.hid fun W (h : Below wB.heap.size wB W) => show W.cell? ⟨wr.heap.size, 0, none⟩ = some (.int .i64 xu) ∧ W.cell? ⟨wr.heap.size, 1, none⟩ = some (.int .i64 xv) from
           ⟨(cell?_row (i := 0) ((row?_below h hsB).trans hrt)).trans rfl, (cell?_row (i := 1) ((row?_below h hsB).trans hrt)).trans rfl⟩
         have HBw := Lib.hid fun W (h : Below wB.heap.size wB W) => HB.out.trans ((HBA.out.trans (h.mono (Nat.le_of_lt hsB))).mono hsz)
         have hgone : goneE H ((xu, xv), xl, xw) = ((Pal.look H.V xu).isSome && (Pal.look H.V xv).isSome && !(Pal.look H.E (xu, xv)).isSome) := rfl
         have HGo := Lib.hid hgone
         have HHu := Lib.hid fun W => HHas.out xu W
         have HHv := Lib.hid fun W => HHas.out xv W
         obtain ⟨q1, hq1⟩ : ∃ q, q = (Pal.look H.V xu).isSome := ⟨_, rfl⟩
         obtain ⟨q2, hq2⟩ : ∃ q, q = (Pal.look H.V xv).isSome := ⟨_, rfl⟩
         obtain ⟨q3, hq3⟩ : ∃ q, q = (Pal.look H.E (xu, xv)).isSome := ⟨_, rfl⟩
         rw [← hq1, ← hq2, ← hq3] at HGo
         rw [← hq1] at HHu
         rw [← hq2] at HHv
         rw [← hq3] at HPl
         have HRtB := Lib.hid hrt
         clear hwB jl hrt hgone hq1 hq2 hq3 HRT
         cases q1 with
         | false =>
           have HFx : Hid (dB H ((xu, xv), xl, xw) = []) := Lib.hid (by unfold dB; rw [HGo.out]; rfl)
           refine wp_region_free (fun W => Below wB.heap.size wB W) (by kernel_rfl) (by kernel_rfl) (Below.refl _ _).drew ?_
           repeat (first | ((first | apply wpFree_still (hg := rfl) | apply wpFree_stillG rfl); (intro w hw; obtain ⟨k1, k2⟩ := HrB.out w hw; clear hw; go_simp; (try go_ints); (first | with_reducible rfl | (go_simp; with_reducible rfl))); (intro K hK; go_simp; (try go_ints); refine hK _ ?_; clear hK K)) | (apply wpFree_skip rfl; (intro K hK; go_simp; (try go_ints); refine hK _ ?_; clear hK K)))
           apply wpFree_call
           · intro w hw; go_simp; first | with_reducible rfl | with_reducible exact ⟨rfl, rfl⟩
           · with_reducible rfl
           · intro w hw; exact (HVS.out w (HBw.out w hw)).mono fun e w' ⟨h1, h2⟩ => ⟨h1, hw.trans (h2.mono hw.size)⟩
           intro K hK; go_simp; (try go_ints); refine hK _ ?_; clear hK K
           repeat (first | ((first | apply wpFree_still (hg := rfl) | apply wpFree_stillG rfl); (intro w hw; obtain ⟨k1, k2⟩ := HrB.out w hw; clear hw; go_simp; (try go_ints); (first | with_reducible rfl | (go_simp; with_reducible rfl))); (intro K hK; go_simp; (try go_ints); refine hK _ ?_; clear hK K)) | (apply wpFree_skip rfl; (intro K hK; go_simp; (try go_ints); refine hK _ ?_; clear hK K)))
           apply wpFree_call
           · intro w hw; go_simp; first | with_reducible rfl | with_reducible exact ⟨rfl, rfl⟩
           · with_reducible rfl
           · intro w hw; exact (HHu.out w).mono fun e w' ⟨h1, h2⟩ => ⟨h1, hw.trans (h2.mono hw.size)⟩
           intro K hK; go_simp; (try go_ints); refine hK _ ?_; clear hK K
           repeat (first | ((first | apply wpFree_still (hg := rfl) | apply wpFree_stillG rfl); (intro w hw; obtain ⟨k1, k2⟩ := HrB.out w hw; clear hw; go_simp; (try go_ints); (first | with_reducible rfl | (go_simp; with_reducible rfl))); (intro K hK; go_simp; (try go_ints); refine hK _ ?_; clear hK K)) | (apply wpFree_skip rfl; (intro K hK; go_simp; (try go_ints); refine hK _ ?_; clear hK K)))
           with_reducible refine wpFree_nil ?_
           intro w2 hb2
           have HB2 := Lib.hid (HBA.out.trans (hb2.mono (Nat.le_of_lt hsB)))
           have hs2 := HB2.out.size
           have hs2' := hb2.size
           have hrv := (row?_below hb2 hsB).trans HRtB.out
           have HO2 := Lib.hid (HO.out.below HB2.out (Nat.le_refl _))
           clear hb2
           go_wp2_with fail
           go_roundw
           case rel => exact ⟨k + 1, by omega, by go_num, by rw [flatMap_snoc HX.out, ← List.append_assoc, ← HACC.out, HFx.out, List.append_nil]; exact HO.out.below HB2.out (Nat.le_refl _), HB.out.trans ((HB2.out).mono hsz), (HR.out.below HB2.out (Nat.le_refl _)).mono (HB2.out).size, HN.out⟩
           case measure => simp [intOf]; omega
         | true =>
           cases q2 with
           | false =>
             have HFx : Hid (dB H ((xu, xv), xl, xw) = []) := Lib.hid (by unfold dB; rw [HGo.out]; rfl)
             refine wp_region_free (fun W => Below wB.heap.size wB W) (by kernel_rfl) (by kernel_rfl) (Below.refl _ _).drew ?_
             repeat (first | ((first | apply wpFree_still (hg := rfl) | apply wpFree_stillG rfl); (intro w hw; obtain ⟨k1, k2⟩ := HrB.out w hw; clear hw; go_simp; (try go_ints); (first | with_reducible rfl | (go_simp; with_reducible rfl))); (intro K hK; go_simp; (try go_ints); refine hK _ ?_; clear hK K)) | (apply wpFree_skip rfl; (intro K hK; go_simp; (try go_ints); refine hK _ ?_; clear hK K)))
             apply wpFree_call
             · intro w hw; go_simp; first | with_reducible rfl | with_reducible exact ⟨rfl, rfl⟩
             · with_reducible rfl
             · intro w hw; exact (HVS.out w (HBw.out w hw)).mono fun e w' ⟨h1, h2⟩ => ⟨h1, hw.trans (h2.mono hw.size)⟩
             intro K hK; go_simp; (try go_ints); refine hK _ ?_; clear hK K
             repeat (first | ((first | apply wpFree_still (hg := rfl) | apply wpFree_stillG rfl); (intro w hw; obtain ⟨k1, k2⟩ := HrB.out w hw; clear hw; go_simp; (try go_ints); (first | with_reducible rfl | (go_simp; with_reducible rfl))); (intro K hK; go_simp; (try go_ints); refine hK _ ?_; clear hK K)) | (apply wpFree_skip rfl; (intro K hK; go_simp; (try go_ints); refine hK _ ?_; clear hK K)))
             apply wpFree_call
             · intro w hw; go_simp; first | with_reducible rfl | with_reducible exact ⟨rfl, rfl⟩
             · with_reducible rfl
             · intro w hw; exact (HHu.out w).mono fun e w' ⟨h1, h2⟩ => ⟨h1, hw.trans (h2.mono hw.size)⟩
             intro K hK; go_simp; (try go_ints); refine hK _ ?_; clear hK K
             repeat (first | ((first | apply wpFree_still (hg := rfl) | apply wpFree_stillG rfl); (intro w hw; obtain ⟨k1, k2⟩ := HrB.out w hw; clear hw; go_simp; (try go_ints); (first | with_reducible rfl | (go_simp; with_reducible rfl))); (intro K hK; go_simp; (try go_ints); refine hK _ ?_; clear hK K)) | (apply wpFree_skip rfl; (intro K hK; go_simp; (try go_ints); refine hK _ ?_; clear hK K)))
             apply wpFree_callG rfl
             · intro w hw; go_simp; first | with_reducible rfl | with_reducible exact ⟨rfl, rfl⟩
             · intro w hw; exact (HVS.out w (HBw.out w hw)).mono fun e w' ⟨h1, h2⟩ => ⟨h1, hw.trans (h2.mono hw.size)⟩
             intro K hK; go_simp; (try go_ints); refine hK _ ?_; clear hK K
             repeat (first | ((first | apply wpFree_still (hg := rfl) | apply wpFree_stillG rfl); (intro w hw; obtain ⟨k1, k2⟩ := HrB.out w hw; clear hw; go_simp; (try go_ints); (first | with_reducible rfl | (go_simp; with_reducible rfl))); (intro K hK; go_simp; (try go_ints); refine hK _ ?_; clear hK K)) | (apply wpFree_skip rfl; (intro K hK; go_simp; (try go_ints); refine hK _ ?_; clear hK K)))
             apply wpFree_callG rfl
             · intro w hw; go_simp; first | with_reducible rfl | with_reducible exact ⟨rfl, rfl⟩
             · intro w hw; exact (HHv.out w).mono fun e w' ⟨h1, h2⟩ => ⟨h1, hw.trans (h2.mono hw.size)⟩
             intro K hK; go_simp; (try go_ints); refine hK _ ?_; clear hK K
             repeat (first | ((first | apply wpFree_still (hg := rfl) | apply wpFree_stillG rfl); (intro w hw; obtain ⟨k1, k2⟩ := HrB.out w hw; clear hw; go_simp; (try go_ints); (first | with_reducible rfl | (go_simp; with_reducible rfl))); (intro K hK; go_simp; (try go_ints); refine hK _ ?_; clear hK K)) | (apply wpFree_skip rfl; (intro K hK; go_simp; (try go_ints); refine hK _ ?_; clear hK K)))
             with_reducible refine wpFree_nil ?_
             intro w2 hb2
             have HB2 := Lib.hid (HBA.out.trans (hb2.mono (Nat.le_of_lt hsB)))
             have hs2 := HB2.out.size
             have hs2' := hb2.size
             have hrv := (row?_below hb2 hsB).trans HRtB.out
             have HO2 := Lib.hid (HO.out.below HB2.out (Nat.le_refl _))
             clear hb2
             go_wp2_with fail
             go_roundw
             case rel => exact ⟨k + 1, by omega, by go_num, by rw [flatMap_snoc HX.out, ← List.append_assoc, ← HACC.out, HFx.out, List.append_nil]; exact HO.out.below HB2.out (Nat.le_refl _), HB.out.trans ((HB2.out).mono hsz), (HR.out.below HB2.out (Nat.le_refl _)).mono (HB2.out).size, HN.out⟩
             case measure => simp [intOf]; omega
           | true =>
             cases q3 with
             | true =>
               have HFx : Hid (dB H ((xu, xv), xl, xw) = []) := Lib.hid (by unfold dB; rw [HGo.out]; rfl)
               refine wp_region_free (fun W => Below wB.heap.size wB W) (by kernel_rfl) (by kernel_rfl) (Below.refl _ _).drew ?_
               repeat (first | ((first | apply wpFree_still (hg := rfl) | apply wpFree_stillG rfl); (intro w hw; obtain ⟨k1, k2⟩ := HrB.out w hw; clear hw; go_simp; (try go_ints); (first | with_reducible rfl | (go_simp; with_reducible rfl))); (intro K hK; go_simp; (try go_ints); refine hK _ ?_; clear hK K)) | (apply wpFree_skip rfl; (intro K hK; go_simp; (try go_ints); refine hK _ ?_; clear hK K)))
               apply wpFree_call
               · intro w hw; go_simp; first | with_reducible rfl | with_reducible exact ⟨rfl, rfl⟩
               · with_reducible rfl
               · intro w hw; exact (HVS.out w (HBw.out w hw)).mono fun e w' ⟨h1, h2⟩ => ⟨h1, hw.trans (h2.mono hw.size)⟩
               intro K hK; go_simp; (try go_ints); refine hK _ ?_; clear hK K
               repeat (first | ((first | apply wpFree_still (hg := rfl) | apply wpFree_stillG rfl); (intro w hw; obtain ⟨k1, k2⟩ := HrB.out w hw; clear hw; go_simp; (try go_ints); (first | with_reducible rfl | (go_simp; with_reducible rfl))); (intro K hK; go_simp; (try go_ints); refine hK _ ?_; clear hK K)) | (apply wpFree_skip rfl; (intro K hK; go_simp; (try go_ints); refine hK _ ?_; clear hK K)))
               apply wpFree_call
               · intro w hw; go_simp; first | with_reducible rfl | with_reducible exact ⟨rfl, rfl⟩
               · with_reducible rfl
               · intro w hw; exact (HHu.out w).mono fun e w' ⟨h1, h2⟩ => ⟨h1, hw.trans (h2.mono hw.size)⟩
               intro K hK; go_simp; (try go_ints); refine hK _ ?_; clear hK K
               repeat (first | ((first | apply wpFree_still (hg := rfl) | apply wpFree_stillG rfl); (intro w hw; obtain ⟨k1, k2⟩ := HrB.out w hw; clear hw; go_simp; (try go_ints); (first | with_reducible rfl | (go_simp; with_reducible rfl))); (intro K hK; go_simp; (try go_ints); refine hK _ ?_; clear hK K)) | (apply wpFree_skip rfl; (intro K hK; go_simp; (try go_ints); refine hK _ ?_; clear hK K)))
               apply wpFree_callG rfl
               · intro w hw; go_simp; first | with_reducible rfl | with_reducible exact ⟨rfl, rfl⟩
               · intro w hw; exact (HVS.out w (HBw.out w hw)).mono fun e w' ⟨h1, h2⟩ => ⟨h1, hw.trans (h2.mono hw.size)⟩
               intro K hK; go_simp; (try go_ints); refine hK _ ?_; clear hK K
               repeat (first | ((first | apply wpFree_still (hg := rfl) | apply wpFree_stillG rfl); (intro w hw; obtain ⟨k1, k2⟩ := HrB.out w hw; clear hw; go_simp; (try go_ints); (first | with_reducible rfl | (go_simp; with_reducible rfl))); (intro K hK; go_simp; (try go_ints); refine hK _ ?_; clear hK K)) | (apply wpFree_skip rfl; (intro K hK; go_simp; (try go_ints); refine hK _ ?_; clear hK K)))
               apply wpFree_callG rfl
               · intro w hw; go_simp; first | with_reducible rfl | with_reducible exact ⟨rfl, rfl⟩
               · intro w hw; exact (HHv.out w).mono fun e w' ⟨h1, h2⟩ => ⟨h1, hw.trans (h2.mono hw.size)⟩
               intro K hK; go_simp; (try go_ints); refine hK _ ?_; clear hK K
               repeat (first | ((first | apply wpFree_still (hg := rfl) | apply wpFree_stillG rfl); (intro w hw; obtain ⟨k1, k2⟩ := HrB.out w hw; clear hw; go_simp; (try go_ints); (first | with_reducible rfl | (go_simp; with_reducible rfl))); (intro K hK; go_simp; (try go_ints); refine hK _ ?_; clear hK K)) | (apply wpFree_skip rfl; (intro K hK; go_simp; (try go_ints); refine hK _ ?_; clear hK K)))
               apply wpFree_callG rfl
               · intro w hw; go_simp; first | with_reducible rfl | with_reducible exact ⟨rfl, rfl⟩
               · intro w hw; exact (HPl.out w (HBw.out w hw)).mono fun e w' ⟨h1, h2⟩ => ⟨h1, hw.trans (h2.mono hw.size)⟩
               intro K hK; go_simp; (try go_ints); refine hK _ ?_; clear hK K
               repeat (first | ((first | apply wpFree_still (hg := rfl) | apply wpFree_stillG rfl); (intro w hw; obtain ⟨k1, k2⟩ := HrB.out w hw; clear hw; go_simp; (try go_ints); (first | with_reducible rfl | (go_simp; with_reducible rfl))); (intro K hK; go_simp; (try go_ints); refine hK _ ?_; clear hK K)) | (apply wpFree_skip rfl; (intro K hK; go_simp; (try go_ints); refine hK _ ?_; clear hK K)))
               with_reducible refine wpFree_nil ?_
               intro w2 hb2
               have HB2 := Lib.hid (HBA.out.trans (hb2.mono (Nat.le_of_lt hsB)))
               have hs2 := HB2.out.size
               have hs2' := hb2.size
               have hrv := (row?_below hb2 hsB).trans HRtB.out
               have HO2 := Lib.hid (HO.out.below HB2.out (Nat.le_refl _))
               clear hb2
               go_wp2_with fail
               go_roundw
               case rel => exact ⟨k + 1, by omega, by go_num, by rw [flatMap_snoc HX.out, ← List.append_assoc, ← HACC.out, HFx.out, List.append_nil]; exact HO.out.below HB2.out (Nat.le_refl _), HB.out.trans ((HB2.out).mono hsz), (HR.out.below HB2.out (Nat.le_refl _)).mono (HB2.out).size, HN.out⟩
               case measure => simp [intOf]; omega
             | false =>
               have HFx : Hid (dB H ((xu, xv), xl, xw) = [ePt (xu, xv)]) := Lib.hid (by unfold dB; rw [HGo.out]; rfl)
               refine wp_region_free (fun W => Below wB.heap.size wB W) (by kernel_rfl) (by kernel_rfl) (Below.refl _ _).drew ?_
               repeat (first | ((first | apply wpFree_still (hg := rfl) | apply wpFree_stillG rfl); (intro w hw; obtain ⟨k1, k2⟩ := HrB.out w hw; clear hw; go_simp; (try go_ints); (first | with_reducible rfl | (go_simp; with_reducible rfl))); (intro K hK; go_simp; (try go_ints); refine hK _ ?_; clear hK K)) | (apply wpFree_skip rfl; (intro K hK; go_simp; (try go_ints); refine hK _ ?_; clear hK K)))
               apply wpFree_call
               · intro w hw; go_simp; first | with_reducible rfl | with_reducible exact ⟨rfl, rfl⟩
               · with_reducible rfl
               · intro w hw; exact (HVS.out w (HBw.out w hw)).mono fun e w' ⟨h1, h2⟩ => ⟨h1, hw.trans (h2.mono hw.size)⟩
               intro K hK; go_simp; (try go_ints); refine hK _ ?_; clear hK K
               repeat (first | ((first | apply wpFree_still (hg := rfl) | apply wpFree_stillG rfl); (intro w hw; obtain ⟨k1, k2⟩ := HrB.out w hw; clear hw; go_simp; (try go_ints); (first | with_reducible rfl | (go_simp; with_reducible rfl))); (intro K hK; go_simp; (try go_ints); refine hK _ ?_; clear hK K)) | (apply wpFree_skip rfl; (intro K hK; go_simp; (try go_ints); refine hK _ ?_; clear hK K)))
               apply wpFree_call
               · intro w hw; go_simp; first | with_reducible rfl | with_reducible exact ⟨rfl, rfl⟩
               · with_reducible rfl
               · intro w hw; exact (HHu.out w).mono fun e w' ⟨h1, h2⟩ => ⟨h1, hw.trans (h2.mono hw.size)⟩
               intro K hK; go_simp; (try go_ints); refine hK _ ?_; clear hK K
               repeat (first | ((first | apply wpFree_still (hg := rfl) | apply wpFree_stillG rfl); (intro w hw; obtain ⟨k1, k2⟩ := HrB.out w hw; clear hw; go_simp; (try go_ints); (first | with_reducible rfl | (go_simp; with_reducible rfl))); (intro K hK; go_simp; (try go_ints); refine hK _ ?_; clear hK K)) | (apply wpFree_skip rfl; (intro K hK; go_simp; (try go_ints); refine hK _ ?_; clear hK K)))
               apply wpFree_callG rfl
               · intro w hw; go_simp; first | with_reducible rfl | with_reducible exact ⟨rfl, rfl⟩
               · intro w hw; exact (HVS.out w (HBw.out w hw)).mono fun e w' ⟨h1, h2⟩ => ⟨h1, hw.trans (h2.mono hw.size)⟩
               intro K hK; go_simp; (try go_ints); refine hK _ ?_; clear hK K
               repeat (first | ((first | apply wpFree_still (hg := rfl) | apply wpFree_stillG rfl); (intro w hw; obtain ⟨k1, k2⟩ := HrB.out w hw; clear hw; go_simp; (try go_ints); (first | with_reducible rfl | (go_simp; with_reducible rfl))); (intro K hK; go_simp; (try go_ints); refine hK _ ?_; clear hK K)) | (apply wpFree_skip rfl; (intro K hK; go_simp; (try go_ints); refine hK _ ?_; clear hK K)))
               apply wpFree_callG rfl
               · intro w hw; go_simp; first | with_reducible rfl | with_reducible exact ⟨rfl, rfl⟩
               · intro w hw; exact (HHv.out w).mono fun e w' ⟨h1, h2⟩ => ⟨h1, hw.trans (h2.mono hw.size)⟩
               intro K hK; go_simp; (try go_ints); refine hK _ ?_; clear hK K
               repeat (first | ((first | apply wpFree_still (hg := rfl) | apply wpFree_stillG rfl); (intro w hw; obtain ⟨k1, k2⟩ := HrB.out w hw; clear hw; go_simp; (try go_ints); (first | with_reducible rfl | (go_simp; with_reducible rfl))); (intro K hK; go_simp; (try go_ints); refine hK _ ?_; clear hK K)) | (apply wpFree_skip rfl; (intro K hK; go_simp; (try go_ints); refine hK _ ?_; clear hK K)))
               apply wpFree_callG rfl
               · intro w hw; go_simp; first | with_reducible rfl | with_reducible exact ⟨rfl, rfl⟩
               · intro w hw; exact (HPl.out w (HBw.out w hw)).mono fun e w' ⟨h1, h2⟩ => ⟨h1, hw.trans (h2.mono hw.size)⟩
               intro K hK; go_simp; (try go_ints); refine hK _ ?_; clear hK K
               repeat (first | ((first | apply wpFree_still (hg := rfl) | apply wpFree_stillG rfl); (intro w hw; obtain ⟨k1, k2⟩ := HrB.out w hw; clear hw; go_simp; (try go_ints); (first | with_reducible rfl | (go_simp; with_reducible rfl))); (intro K hK; go_simp; (try go_ints); refine hK _ ?_; clear hK K)) | (apply wpFree_skip rfl; (intro K hK; go_simp; (try go_ints); refine hK _ ?_; clear hK K)))
               with_reducible refine wpFree_nil ?_
               intro w2 hb2
               have HB2 := Lib.hid (HBA.out.trans (hb2.mono (Nat.le_of_lt hsB)))
               have hs2 := HB2.out.size
               have hs2' := hb2.size
               have hrv := (row?_below hb2 hsB).trans HRtB.out
               have HO2 := Lib.hid (HO.out.below HB2.out (Nat.le_refl _))
               clear hb2
               have c0 := cell?_row (i := 0) hrv
               have c1 := cell?_row (i := 1) hrv
               simp at c0 c1
               go_wp2_with (at_builtin; refine wpList_appO elED 37 Tryz.underlying37 rfl _ _ rfl w.heap.size _ acc rfl (HO2.out.alloc _) _ (ePt (xu, xv)) _ rfl (row?_alloc_at _ _ _ _ (by simp)) (by omega) (by simp; omega) ?_)
               clear c0 c1
               intro v3 w3 hO3 hb3 hg3 hl3
               have hk3 : w3.heap[b]? = wr.heap[b]? := (hg3.block b (by first | omega | (simp; omega)) (fun e => HN.out b e.symm ⟨b, off, none⟩ rfl rfl)).trans (((HB2.out.alloc hs2 _)).block b hbb)
               have HB3 := Lib.hid ((HB.out.trans (((HB2.out.alloc hs2 _)).mono hsz)).trans hb3)
               have hs3 : wr.heap.size ≤ w3.heap.size := by have := hb3.size; first | omega | (simp at this; omega)
               have HR3 := Lib.hid (HR.out.keep hs3 (fun a ha => by cases ha; exact hk3))
               have HN3 : Hid (NB v3 (some ⟨b, off, none⟩)) := Lib.hid fun j hj a ha e => by
                 cases ha
                 simp only at e
                 rcases hl3 with h | h
                 · rw [h] at hj
                   exact HN.out j hj _ rfl e
                 · rw [h] at hj
                   simp at hj
                   omega
               have HO3 : Hid (OwnED w.heap.size w3 v3 (D1 ++ ((G.E).take (k + 1)).flatMap (dB H))) := Lib.hid (by
                 rw [flatMap_snoc HX.out, ← List.append_assoc, ← HACC.out, HFx.out]
                 exact hO3)
               obtain ⟨q3, c3, rfl⟩ := hO3.sl
               clear hO3 hb3 hg3 hl3 hk3 HO HO2 hrv
               go_wp2_with fail
               go_roundw
               case rel => exact ⟨k + 1, by omega, by go_num, HO3.out, HB3.out, HR3.out, HN3.out⟩
               case measure => simp [intOf]; omega
       · have hkn : LL = k := by omega
         subst hkn
         obtain ⟨D2, hD⟩ : ∃ D, D = D1 ++ (G.E).flatMap (dB H) := ⟨_, rfl⟩
         have e : D2 = acc := by rw [hD, HACC.out, HLL.out, List.take_length]
         have hDl : (D2).length ≤ 2048 := by
           have h1 := flat_take_le (dB_len H) LL LL (by rw [HLL.out]; exact Nat.le_refl _) (l := G.E)
           rw [e, HACC.out, List.length_append]
           omega
         subst e
         have HD2 := Lib.hid hD
         have hD2 := hDl
         obtain ⟨wo, rfl⟩ : ∃ W : World, W = wr := ⟨_, rfl⟩
         have HOc := HO
         have HBc := HB
         clear HR HN HACC HLL HO HB hD hDl HO1 HB1 HR1 HN1 hsz hal hk hLe
         go_wp2_with fail
         refine (gverticesP_any pt H HH.out _ (HT.out _ HBc.out)).mono ?_
         rintro r w1 ⟨va, rfl, hOV, hb1⟩
         have HO1 := Lib.hid (HOc.out.below hb1 (Nat.le_refl _))
         have HB1 := Lib.hid (HBc.out.trans (hb1.mono HBc.out.size))
         have hs1 := HB1.out.size
         obtain ⟨qa, ca, rfl⟩ := hOV.sl
         have HN1 : Hid (NB (.slice qv D2.length cv) qa) := Lib.hid fun j hj a ha e => by
           have h1 := hOV.block a.block (by rw [ha]; rfl)
           have h2 := HOc.out.lt j hj
           omega
         have HR1 := Lib.hid (hOV.rd elV)
         obtain ⟨LL, hLL⟩ : ∃ n, n = (H.V).length := ⟨_, rfl⟩
         have HLL := Lib.hid hLL
         have hLe : LL ≤ 1024 := by rw [hLL]; exact HH.out.len
         rw [← hLL] at HR1 ⊢
         clear hOV hb1 HOc HBc hLL
         go_wp2_with fail
         go_loopw [5, 88] (fun v i wr => ∃ k : Nat, k ≤ LL ∧ i = .int .i64 (k : Int) ∧ OwnED w.heap.size wr v (D2 ++ (H.V.take k).flatMap (dC G)) ∧ Below w.heap.size w wr ∧ Rd vtxA 3 wr.heap.size wr (.slice qa LL ca) H.V ∧ NB v qa) (fun _ i _ => LL - (intOf i).toNat)
         case atStart => exact ⟨0, by omega, rfl, by simpa using HO1.out, HB1.out, HR1.out, HN1.out⟩
         case round =>
           obtain ⟨k, hk, rfl, hO, hb, hR, hN⟩ := hrel
           obtain ⟨acc, hacc⟩ : ∃ acc, acc = D2 ++ ((H.V).take k).flatMap (dC G) := ⟨_, rfl⟩
           rw [← hacc] at hO
           have hal : acc.length < 100000 := by
             have h1 := flat_take_le (dC_len G) k LL (by rw [HLL.out]; exact Nat.le_refl _)
             rw [hacc, List.length_append]
             omega
           have HACC := Lib.hid hacc
           obtain ⟨qv, cv, rfl⟩ := hO.sl
           have HO := Lib.hid hO
           have HB := Lib.hid hb
           have HR := Lib.hid hR
           have HN := Lib.hid hN
           have hsz := hb.size
           clear hacc hO hb hR hN
           by_cases hlt : k < LL
           · obtain ⟨b, off, c', x, h1, hbb, hx, hc⟩ := HR.out.at (by rw [← HLL.out]; exact hlt)
             simp only [Value.slice.injEq] at h1
             obtain ⟨rfl, -, rfl⟩ := h1
             have hmem := List.mem_of_getElem? hx
             obtain ⟨xi, xl, xw⟩ := x
             have HX := Lib.hid hx
             have jl : rowLoad Tryz.prog 126 ⟨b, off + k * 3, none⟩ wr = .ok (.agg #[.int .i64 xi, .int .u8 (xl : Int), .int .i64 xw]) wr := load_cells Tryz.isAgg126 Tryz.sizeOf126 wr b _ _ rfl fun j u hu => hc wr (Below.refl _ _) j u hu
             have hrt : row? (wr.alloc (.cells #[.int .i64 xi, .int .u8 (xl : Int), .int .i64 xw] 126)) wr.heap.size = some #[.int .i64 xi, .int .u8 (xl : Int), .int .i64 xw] := row?_alloc_at _ _ _ _ rfl
             have HBA : Hid (Below wr.heap.size wr (wr.alloc (.cells #[.int .i64 xi, .int .u8 (xl : Int), .int .i64 xw] 126))) := Lib.hid ((Below.refl _ wr).alloc (Nat.le_refl _) _)
             have HRT := Lib.hid hrt
             clear hx hc
             go_wp2_with fail
             have hid := HH.out.ids _ hmem
             refine (gvertex_any pf G xi (InI.small (by omega) (by omega)) _ (HF.out _ (HB.out.trans (HBA.out.mono hsz)))).mono ?_
             rintro r w2 ⟨rfl, hb2⟩
             obtain ⟨⟨yi, yl, yw⟩, hy⟩ : ∃ y, y = vtxOf G xi := ⟨_, rfl⟩
             rw [← hy, show vtxA (yi, yl, yw) = #[.int .i64 yi, .int .u8 (yl : Int), .int .i64 yw] from rfl]
             clear hy
             have HB2 := Lib.hid (HBA.out.trans (hb2.mono (by simp)))
             have hs2 := HB2.out.size
             have hs2' := hb2.size
             simp only [World.size_alloc] at hs2'
             have hrv := (row?_below hb2 (by simp)).trans HRT.out
             have HO2 := Lib.hid (HO.out.below HB2.out (Nat.le_refl _))
             clear jl hrt hb2
             have c0 : ∀ o, (w2.alloc o).cell? ⟨wr.heap.size, 0, none⟩ = some (.int .i64 xi) := fun o => (cell?_row (i := 0) ((row?_alloc_past _ _ _ (by omega)).trans hrv)).trans rfl
             have c1 : ∀ o, (w2.alloc o).cell? ⟨wr.heap.size, 1, none⟩ = some (.int .u8 (xl : Int)) := fun o => (cell?_row (i := 1) ((row?_alloc_past _ _ _ (by omega)).trans hrv)).trans rfl
             have c2 : ∀ o, (w2.alloc o).cell? ⟨wr.heap.size, 2, none⟩ = some (.int .i64 xw) := fun o => (cell?_row (i := 2) ((row?_alloc_past _ _ _ (by omega)).trans hrv)).trans rfl
             cases his : (Pal.look G.V xi).isSome with
             | true =>
               have HFx : Hid (dC G (xi, xl, xw) = []) := Lib.hid (by unfold dC goneV; rw [his]; rfl)
               clear his c0 c1 c2
               go_wp2_with fail
               go_roundw
               case rel => exact ⟨k + 1, by omega, by go_num, by rw [flatMap_snoc HX.out, ← List.append_assoc, ← HACC.out, HFx.out, List.append_nil]; exact HO.out.below (HB2.out.alloc hs2 _) (Nat.le_refl _), HB.out.trans (((HB2.out.alloc hs2 _)).mono hsz), (HR.out.below (HB2.out.alloc hs2 _) (Nat.le_refl _)).mono ((HB2.out.alloc hs2 _)).size, HN.out⟩
               case measure => simp [intOf]; omega
             | false =>
               have HFx : Hid (dC G (xi, xl, xw) = [vEd (xi, xl, xw)]) := Lib.hid (by unfold dC goneV; rw [his]; rfl)
               clear his
               go_wp2_with (at_builtin; refine wpList_appO elED 37 Tryz.underlying37 rfl _ _ rfl w.heap.size _ acc rfl ((HO2.out.alloc _).alloc _) _ (vEd (xi, xl, xw)) _ rfl (row?_alloc_at _ _ _ _ (by simp)) (by omega) (by simp; omega) ?_)
               clear c0 c1 c2
               intro v3 w3 hO3 hb3 hg3 hl3
               have hk3 : w3.heap[b]? = wr.heap[b]? := (hg3.block b (by first | omega | (simp; omega)) (fun e => HN.out b e.symm ⟨b, off, none⟩ rfl rfl)).trans ((((HB2.out.alloc hs2 _).alloc (by simp; omega) _)).block b hbb)
               have HB3 := Lib.hid ((HB.out.trans ((((HB2.out.alloc hs2 _).alloc (by simp; omega) _)).mono hsz)).trans hb3)
               have hs3 : wr.heap.size ≤ w3.heap.size := by have := hb3.size; first | omega | (simp at this; omega)
               have HR3 := Lib.hid (HR.out.keep hs3 (fun a ha => by cases ha; exact hk3))
               have HN3 : Hid (NB v3 (some ⟨b, off, none⟩)) := Lib.hid fun j hj a ha e => by
                 cases ha
                 simp only at e
                 rcases hl3 with h | h
                 · rw [h] at hj
                   exact HN.out j hj _ rfl e
                 · rw [h] at hj
                   simp at hj
                   omega
               have HO3 : Hid (OwnED w.heap.size w3 v3 (D2 ++ ((H.V).take (k + 1)).flatMap (dC G))) := Lib.hid (by
                 rw [flatMap_snoc HX.out, ← List.append_assoc, ← HACC.out, HFx.out]
                 exact hO3)
               obtain ⟨q3, c3, rfl⟩ := hO3.sl
               clear hO3 hb3 hg3 hl3 hk3 HO HO2 hrv
               go_wp2_with fail
               go_roundw
               case rel => exact ⟨k + 1, by omega, by go_num, HO3.out, HB3.out, HR3.out, HN3.out⟩
               case measure => simp [intOf]; omega
           · have hkn : LL = k := by omega
             subst hkn
             obtain ⟨D3, hD⟩ : ∃ D, D = D2 ++ (H.V).flatMap (dC G) := ⟨_, rfl⟩
             have e : D3 = acc := by rw [hD, HACC.out, HLL.out, List.take_length]
             have hDl : (D3).length ≤ 3072 := by
               have h1 := flat_take_le (dC_len G) LL LL (by rw [HLL.out]; exact Nat.le_refl _) (l := H.V)
               rw [e, HACC.out, List.length_append]
               omega
             subst e
             have HD3 := Lib.hid hD
             have hD3 := hDl
             obtain ⟨wo, rfl⟩ : ∃ W : World, W = wr := ⟨_, rfl⟩
             have HOc := HO
             have HBc := HB
             clear HR HN HACC HLL HO HB hD hDl HO1 HB1 HR1 HN1 hsz hal hk hLe
             go_wp2_with fail
             refine (gverticesP_any pt H HH.out _ (HT.out _ HBc.out)).mono ?_
             rintro r w1 ⟨va, rfl, hOV, hb1⟩
             have HO1 := Lib.hid (HOc.out.below hb1 (Nat.le_refl _))
             have HB1 := Lib.hid (HBc.out.trans (hb1.mono HBc.out.size))
             have hs1 := HB1.out.size
             obtain ⟨qa, ca, rfl⟩ := hOV.sl
             have HN1 : Hid (NB (.slice qv D3.length cv) qa) := Lib.hid fun j hj a ha e => by
               have h1 := hOV.block a.block (by rw [ha]; rfl)
               have h2 := HOc.out.lt j hj
               omega
             have HR1 := Lib.hid (hOV.rd elV)
             obtain ⟨LL, hLL⟩ : ∃ n, n = (H.V).length := ⟨_, rfl⟩
             have HLL := Lib.hid hLL
             have hLe : LL ≤ 1024 := by rw [hLL]; exact HH.out.len
             rw [← hLL] at HR1 ⊢
             clear hOV hb1 HOc HBc hLL
             go_wp2_with fail
             go_loopw [5, 115] (fun v i wr => ∃ k : Nat, k ≤ LL ∧ i = .int .i64 (k : Int) ∧ OwnED w.heap.size wr v (D3 ++ (H.V.take k).flatMap (dD G)) ∧ Below w.heap.size w wr ∧ Rd vtxA 3 wr.heap.size wr (.slice qa LL ca) H.V ∧ NB v qa) (fun _ i _ => LL - (intOf i).toNat)
             case atStart => exact ⟨0, by omega, rfl, by simpa using HO1.out, HB1.out, HR1.out, HN1.out⟩
             case round =>
               obtain ⟨k, hk, rfl, hO, hb, hR, hN⟩ := hrel
               obtain ⟨acc, hacc⟩ : ∃ acc, acc = D3 ++ ((H.V).take k).flatMap (dD G) := ⟨_, rfl⟩
               rw [← hacc] at hO
               have hal : acc.length < 100000 := by
                 have h1 := flat_take_le (dD_len G) k LL (by rw [HLL.out]; exact Nat.le_refl _)
                 rw [hacc, List.length_append]
                 omega
               have HACC := Lib.hid hacc
               obtain ⟨qv, cv, rfl⟩ := hO.sl
               have HO := Lib.hid hO
               have HB := Lib.hid hb
               have HR := Lib.hid hR
               have HN := Lib.hid hN
               have hsz := hb.size
               clear hacc hO hb hR hN
               by_cases hlt : k < LL
               · obtain ⟨b, off, c', x, h1, hbb, hx, hc⟩ := HR.out.at (by rw [← HLL.out]; exact hlt)
                 simp only [Value.slice.injEq] at h1
                 obtain ⟨rfl, -, rfl⟩ := h1
                 have hmem := List.mem_of_getElem? hx
                 obtain ⟨xi, xl, xw⟩ := x
                 have HX := Lib.hid hx
                 have jl : rowLoad Tryz.prog 126 ⟨b, off + k * 3, none⟩ wr = .ok (.agg #[.int .i64 xi, .int .u8 (xl : Int), .int .i64 xw]) wr := load_cells Tryz.isAgg126 Tryz.sizeOf126 wr b _ _ rfl fun j u hu => hc wr (Below.refl _ _) j u hu
                 have hrt : row? (wr.alloc (.cells #[.int .i64 xi, .int .u8 (xl : Int), .int .i64 xw] 126)) wr.heap.size = some #[.int .i64 xi, .int .u8 (xl : Int), .int .i64 xw] := row?_alloc_at _ _ _ _ rfl
                 have HBA : Hid (Below wr.heap.size wr (wr.alloc (.cells #[.int .i64 xi, .int .u8 (xl : Int), .int .i64 xw] 126))) := Lib.hid ((Below.refl _ wr).alloc (Nat.le_refl _) _)
                 have HRT := Lib.hid hrt
                 clear hx hc
                 go_wp2_with fail
                 have hid := HH.out.ids _ hmem
                 refine (gvertex_any pf G xi (InI.small (by omega) (by omega)) _ (HF.out _ (HB.out.trans (HBA.out.mono hsz)))).mono ?_
                 rintro r w2 ⟨rfl, hb2⟩
                 cases his : Pal.look G.V xi with
                 | none =>
                   have HFx : Hid (dD G (xi, xl, xw) = []) := Lib.hid (by unfold dD chgOfV; simp only; rw [his])
                   obtain ⟨⟨yi, yl, yw⟩, hy⟩ : ∃ y, y = vtxOf G xi := ⟨_, rfl⟩
                   rw [← hy, show vtxA (yi, yl, yw) = #[.int .i64 yi, .int .u8 (yl : Int), .int .i64 yw] from rfl, Option.isSome_none]
                   clear hy his
                   have HB2 := Lib.hid (HBA.out.trans (hb2.mono (by simp)))
                   have hs2 := HB2.out.size
                   have hs2' := hb2.size
                   simp only [World.size_alloc] at hs2'
                   have hrv := (row?_below hb2 (by simp)).trans HRT.out
                   have HO2 := Lib.hid (HO.out.below HB2.out (Nat.le_refl _))
                   clear jl hrt hb2
                   go_wp2_with fail
                   go_roundw
                   case rel => exact ⟨k + 1, by omega, by go_num, by rw [flatMap_snoc HX.out, ← List.append_assoc, ← HACC.out, HFx.out, List.append_nil]; exact HO.out.below (HB2.out.alloc hs2 _) (Nat.le_refl _), HB.out.trans (((HB2.out.alloc hs2 _)).mono hsz), (HR.out.below (HB2.out.alloc hs2 _) (Nat.le_refl _)).mono ((HB2.out.alloc hs2 _)).size, HN.out⟩
                   case measure => simp [intOf]; omega
                 | some t =>
                   obtain ⟨tl, tw⟩ := t
                   have HFx : Hid (dD G (xi, xl, xw) = chgs (vMark (xi, xl, xw)) (vWeigh (xi, xl, xw)) (tl, tw)) := Lib.hid (by unfold dD chgOfV; simp only; rw [his]; rfl)
                   rw [vtxOf_some his, show vtxA (xi, tl, tw) = #[.int .i64 xi, .int .u8 (tl : Int), .int .i64 tw] from rfl, Option.isSome_some]
                   clear his
                   have HB2 := Lib.hid (HBA.out.trans (hb2.mono (by simp)))
                   have hs2 := HB2.out.size
                   have hs2' := hb2.size
                   simp only [World.size_alloc] at hs2'
                   have hrv := (row?_below hb2 (by simp)).trans HRT.out
                   have HO2 := Lib.hid (HO.out.below HB2.out (Nat.le_refl _))
                   clear jl hrt hb2
                   have c0 : ∀ o, (w2.alloc o).cell? ⟨wr.heap.size, 0, none⟩ = some (.int .i64 xi) := fun o => (cell?_row (i := 0) ((row?_alloc_past _ _ _ (by omega)).trans hrv)).trans rfl
                   have c1 : ∀ o, (w2.alloc o).cell? ⟨wr.heap.size, 1, none⟩ = some (.int .u8 (xl : Int)) := fun o => (cell?_row (i := 1) ((row?_alloc_past _ _ _ (by omega)).trans hrv)).trans rfl
                   have c2 : ∀ o, (w2.alloc o).cell? ⟨wr.heap.size, 2, none⟩ = some (.int .i64 xw) := fun o => (cell?_row (i := 2) ((row?_alloc_past _ _ _ (by omega)).trans hrv)).trans rfl
                   go_wp2_with fail
                   refine (changes_any (vMark (xi, xl, xw)) (vWeigh (xi, xl, xw)) (tl, tw) _).mono ?_
                   rintro r w4 ⟨vc, rfl, hoc, hne, hbc⟩
                   clear c0 c1 c2
                   have hb5 := hbc.size
                   have HB4 := Lib.hid (((HB2.out.alloc hs2 _)).trans (hbc.mono ((HB2.out.alloc hs2 _)).size))
                   have hs4 := HB4.out.size
                   have HO4 := Lib.hid (HO.out.below HB4.out (Nat.le_refl _))
                   have HOC := Lib.hid hoc
                   have HNE := Lib.hid hne
                   have hlc : (chgs (vMark (xi, xl, xw)) (vWeigh (xi, xl, xw)) (tl, tw)).length ≤ 2 := chgs_len _ _ _
                   obtain ⟨qc, cc, rfl⟩ := hoc.sl
                   obtain ⟨mm, hmm⟩ : ∃ mm, mm = chgs (vMark (xi, xl, xw)) (vWeigh (xi, xl, xw)) (tl, tw) := ⟨_, rfl⟩
                   rw [← hmm] at HFx HOC HNE hlc ⊢
                   clear hbc hoc hne hmm
                   go_wp2_with (at_builtin; refine wpList_appOL elED 37 Tryz.underlying37 rfl _ _ rfl w.heap.size _ acc rfl HO4.out _ _ mm rfl HOC.out HNE.out (by omega) (by omega) ?_)
                   intro v3 w3 hO3 hb3 hg3 hl3
                   have hk3 : w3.heap[b]? = wr.heap[b]? := (hg3.block b (by first | omega | (simp; omega)) (fun e => HN.out b e.symm ⟨b, off, none⟩ rfl rfl)).trans ((HB4.out).block b hbb)
                   have HB3 := Lib.hid ((HB.out.trans ((HB4.out).mono hsz)).trans hb3)
                   have hs3 : wr.heap.size ≤ w3.heap.size := by have := hb3.size; first | omega | (simp at this; omega)
                   have HR3 := Lib.hid (HR.out.keep hs3 (fun a ha => by cases ha; exact hk3))
                   have HN3 : Hid (NB v3 (some ⟨b, off, none⟩)) := Lib.hid fun j hj a ha e => by
                     cases ha
                     simp only at e
                     rcases hl3 with h | h
                     · rw [h] at hj
                       exact HN.out j hj _ rfl e
                     · rw [h] at hj
                       simp at hj
                       omega
                   have HO3 : Hid (OwnED w.heap.size w3 v3 (D3 ++ ((H.V).take (k + 1)).flatMap (dD G))) := Lib.hid (by
                     rw [flatMap_snoc HX.out, ← List.append_assoc, ← HACC.out, HFx.out]
                     exact hO3)
                   obtain ⟨q3, c3, rfl⟩ := hO3.sl
                   clear hO3 hb3 hg3 hl3 hk3 HO HO2 hrv
                   go_wp2_with fail
                   go_roundw
                   case rel => exact ⟨k + 1, by omega, by go_num, HO3.out, HB3.out, HR3.out, HN3.out⟩
                   case measure => simp [intOf]; omega
               · have hkn : LL = k := by omega
                 subst hkn
                 obtain ⟨D4, hD⟩ : ∃ D, D = D3 ++ (H.V).flatMap (dD G) := ⟨_, rfl⟩
                 have e : D4 = acc := by rw [hD, HACC.out, HLL.out, List.take_length]
                 have hDl : (D4).length ≤ 5120 := by
                   have h1 := flat_take_le (dD_len G) LL LL (by rw [HLL.out]; exact Nat.le_refl _) (l := H.V)
                   rw [e, HACC.out, List.length_append]
                   omega
                 subst e
                 have HD4 := Lib.hid hD
                 have hD4 := hDl
                 obtain ⟨wo, rfl⟩ : ∃ W : World, W = wr := ⟨_, rfl⟩
                 have HOc := HO
                 have HBc := HB
                 clear HR HN HACC HLL HO HB hD hDl HO1 HB1 HR1 HN1 hsz hal hk hLe
                 go_wp2_with fail
                 refine (gedgesP_any pt H HH.out _ (HT.out _ HBc.out)).mono ?_
                 rintro r w1 ⟨va, rfl, hOV, hb1⟩
                 have HO1 := Lib.hid (HOc.out.below hb1 (Nat.le_refl _))
                 have HB1 := Lib.hid (HBc.out.trans (hb1.mono HBc.out.size))
                 have hs1 := HB1.out.size
                 obtain ⟨qa, ca, rfl⟩ := hOV.sl
                 have HN1 : Hid (NB (.slice qv D4.length cv) qa) := Lib.hid fun j hj a ha e => by
                   have h1 := hOV.block a.block (by rw [ha]; rfl)
                   have h2 := HOc.out.lt j hj
                   omega
                 have HR1 := Lib.hid (hOV.rd elE)
                 obtain ⟨LL, hLL⟩ : ∃ n, n = (H.E).length := ⟨_, rfl⟩
                 have HLL := Lib.hid hLL
                 have hLe : LL ≤ 1024 := by rw [hLL]; exact HH.out.most
                 rw [← hLL] at HR1 ⊢
                 clear hOV hb1 HOc HBc hLL
                 go_wp2_with fail
                 go_loopw [5, 148] (fun v i wr => ∃ k : Nat, k ≤ LL ∧ i = .int .i64 (k : Int) ∧ OwnED w.heap.size wr v (D4 ++ (H.E.take k).flatMap (dE G)) ∧ Below w.heap.size w wr ∧ Rd edgA 4 wr.heap.size wr (.slice qa LL ca) H.E ∧ NB v qa) (fun _ i _ => LL - (intOf i).toNat)
                 case atStart => exact ⟨0, by omega, rfl, by simpa using HO1.out, HB1.out, HR1.out, HN1.out⟩
                 case round =>
                   obtain ⟨k, hk, rfl, hO, hb, hR, hN⟩ := hrel
                   obtain ⟨acc, hacc⟩ : ∃ acc, acc = D4 ++ ((H.E).take k).flatMap (dE G) := ⟨_, rfl⟩
                   rw [← hacc] at hO
                   have hal : acc.length < 100000 := by
                     have h1 := flat_take_le (dE_len G) k LL (by rw [HLL.out]; exact Nat.le_refl _)
                     rw [hacc, List.length_append]
                     omega
                   have HACC := Lib.hid hacc
                   obtain ⟨qv, cv, rfl⟩ := hO.sl
                   have HO := Lib.hid hO
                   have HB := Lib.hid hb
                   have HR := Lib.hid hR
                   have HN := Lib.hid hN
                   have hsz := hb.size
                   clear hacc hO hb hR hN
                   by_cases hlt : k < LL
                   · obtain ⟨b, off, c', x, h1, hbb, hx, hc⟩ := HR.out.at (by rw [← HLL.out]; exact hlt)
                     simp only [Value.slice.injEq] at h1
                     obtain ⟨rfl, -, rfl⟩ := h1
                     have hmem := List.mem_of_getElem? hx
                     obtain ⟨⟨xu, xv⟩, xl, xw⟩ := x
                     have HX := Lib.hid hx
                     have jl : rowLoad Tryz.prog 134 ⟨b, off + k * 4, none⟩ wr = .ok (.agg #[.int .i64 xu, .int .i64 xv, .int .u8 (xl : Int), .int .i64 xw]) wr := load_cells Tryz.isAgg134 Tryz.sizeOf134 wr b _ _ rfl fun j u hu => hc wr (Below.refl _ _) j u hu
                     have hrt : row? (wr.alloc (.cells #[.int .i64 xu, .int .i64 xv, .int .u8 (xl : Int), .int .i64 xw] 134)) wr.heap.size = some #[.int .i64 xu, .int .i64 xv, .int .u8 (xl : Int), .int .i64 xw] := row?_alloc_at _ _ _ _ rfl
                     have HBA : Hid (Below wr.heap.size wr (wr.alloc (.cells #[.int .i64 xu, .int .i64 xv, .int .u8 (xl : Int), .int .i64 xw] 134))) := Lib.hid ((Below.refl _ wr).alloc (Nat.le_refl _) _)
                     have HRT := Lib.hid hrt
                     clear hx hc
                     go_wp2_with fail
                     have hlu := (HH.out.ends _ hmem).1
                     simp only at hlu
                     refine (gedge_any pf G HG.out xu xv _ (HF.out _ (HB.out.trans (HBA.out.mono hsz)))).mono ?_
                     rintro r w2 ⟨hE, hb2⟩
                     rw [btw_of hlu] at hE
                     rcases hE with ⟨hno, rfl⟩ | ⟨ke, ⟨tl, tw⟩, -, hyes, rfl⟩
                     · have HFx : Hid (dE G ((xu, xv), xl, xw) = [eEd ((xu, xv), xl, xw)]) := Lib.hid (by unfold dE chgOfE; simp only; rw [hno])
                       clear hno
                       have HB2 := Lib.hid (HBA.out.trans (hb2.mono (by simp)))
                       have hs2 := HB2.out.size
                       have hs2' := hb2.size
                       simp only [World.size_alloc] at hs2'
                       have hrv := (row?_below hb2 (by simp)).trans HRT.out
                       have HO2 := Lib.hid (HO.out.below HB2.out (Nat.le_refl _))
                       clear jl hrt hb2
                       have c0 : ∀ o, (w2.alloc o).cell? ⟨wr.heap.size, 0, none⟩ = some (.int .i64 xu) := fun o => (cell?_row (i := 0) ((row?_alloc_past _ _ _ (by omega)).trans hrv)).trans rfl
                       have c1 : ∀ o, (w2.alloc o).cell? ⟨wr.heap.size, 1, none⟩ = some (.int .i64 xv) := fun o => (cell?_row (i := 1) ((row?_alloc_past _ _ _ (by omega)).trans hrv)).trans rfl
                       have c2 : ∀ o, (w2.alloc o).cell? ⟨wr.heap.size, 2, none⟩ = some (.int .u8 (xl : Int)) := fun o => (cell?_row (i := 2) ((row?_alloc_past _ _ _ (by omega)).trans hrv)).trans rfl
                       have c3 : ∀ o, (w2.alloc o).cell? ⟨wr.heap.size, 3, none⟩ = some (.int .i64 xw) := fun o => (cell?_row (i := 3) ((row?_alloc_past _ _ _ (by omega)).trans hrv)).trans rfl
                       go_wp2_with (at_builtin; refine wpList_appO elED 37 Tryz.underlying37 rfl _ _ rfl w.heap.size _ acc rfl ((HO2.out.alloc _).alloc _) _ (eEd ((xu, xv), xl, xw)) _ rfl (row?_alloc_at _ _ _ _ (by simp)) (by omega) (by simp; omega) ?_)
                       clear c0 c1 c2 c3
                       intro v3 w3 hO3 hb3 hg3 hl3
                       have hk3 : w3.heap[b]? = wr.heap[b]? := (hg3.block b (by first | omega | (simp; omega)) (fun e => HN.out b e.symm ⟨b, off, none⟩ rfl rfl)).trans ((((HB2.out.alloc hs2 _).alloc (by simp; omega) _)).block b hbb)
                       have HB3 := Lib.hid ((HB.out.trans ((((HB2.out.alloc hs2 _).alloc (by simp; omega) _)).mono hsz)).trans hb3)
                       have hs3 : wr.heap.size ≤ w3.heap.size := by have := hb3.size; first | omega | (simp at this; omega)
                       have HR3 := Lib.hid (HR.out.keep hs3 (fun a ha => by cases ha; exact hk3))
                       have HN3 : Hid (NB v3 (some ⟨b, off, none⟩)) := Lib.hid fun j hj a ha e => by
                         cases ha
                         simp only at e
                         rcases hl3 with h | h
                         · rw [h] at hj
                           exact HN.out j hj _ rfl e
                         · rw [h] at hj
                           simp at hj
                           omega
                       have HO3 : Hid (OwnED w.heap.size w3 v3 (D4 ++ ((H.E).take (k + 1)).flatMap (dE G))) := Lib.hid (by
                         rw [flatMap_snoc HX.out, ← List.append_assoc, ← HACC.out, HFx.out]
                         exact hO3)
                       obtain ⟨q3, c3, rfl⟩ := hO3.sl
                       clear hO3 hb3 hg3 hl3 hk3 HO HO2 hrv
                       go_wp2_with fail
                       go_roundw
                       case rel => exact ⟨k + 1, by omega, by go_num, HO3.out, HB3.out, HR3.out, HN3.out⟩
                       case measure => simp [intOf]; omega
                     · have HFx : Hid (dE G ((xu, xv), xl, xw) = chgs (eMark ((xu, xv), xl, xw)) (eWeigh ((xu, xv), xl, xw)) (tl, tw)) := Lib.hid (by unfold dE chgOfE; simp only; rw [hyes]; rfl)
                       clear hyes
                       have HB2 := Lib.hid (HBA.out.trans (hb2.mono (by simp)))
                       have hs2 := HB2.out.size
                       have hs2' := hb2.size
                       simp only [World.size_alloc] at hs2'
                       have hrv := (row?_below hb2 (by simp)).trans HRT.out
                       have HO2 := Lib.hid (HO.out.below HB2.out (Nat.le_refl _))
                       clear jl hrt hb2
                       have c0 : ∀ o, (w2.alloc o).cell? ⟨wr.heap.size, 0, none⟩ = some (.int .i64 xu) := fun o => (cell?_row (i := 0) ((row?_alloc_past _ _ _ (by omega)).trans hrv)).trans rfl
                       have c1 : ∀ o, (w2.alloc o).cell? ⟨wr.heap.size, 1, none⟩ = some (.int .i64 xv) := fun o => (cell?_row (i := 1) ((row?_alloc_past _ _ _ (by omega)).trans hrv)).trans rfl
                       have c2 : ∀ o, (w2.alloc o).cell? ⟨wr.heap.size, 2, none⟩ = some (.int .u8 (xl : Int)) := fun o => (cell?_row (i := 2) ((row?_alloc_past _ _ _ (by omega)).trans hrv)).trans rfl
                       have c3 : ∀ o, (w2.alloc o).cell? ⟨wr.heap.size, 3, none⟩ = some (.int .i64 xw) := fun o => (cell?_row (i := 3) ((row?_alloc_past _ _ _ (by omega)).trans hrv)).trans rfl
                       go_wp2_with fail
                       refine (changes_any (eMark ((xu, xv), xl, xw)) (eWeigh ((xu, xv), xl, xw)) (tl, tw) _).mono ?_
                       rintro r w4 ⟨vc, rfl, hoc, hne, hbc⟩
                       clear c0 c1 c2 c3
                       have hb5 := hbc.size
                       have HB4 := Lib.hid (((HB2.out.alloc hs2 _)).trans (hbc.mono ((HB2.out.alloc hs2 _)).size))
                       have hs4 := HB4.out.size
                       have HO4 := Lib.hid (HO.out.below HB4.out (Nat.le_refl _))
                       have HOC := Lib.hid hoc
                       have HNE := Lib.hid hne
                       have hlc : (chgs (eMark ((xu, xv), xl, xw)) (eWeigh ((xu, xv), xl, xw)) (tl, tw)).length ≤ 2 := chgs_len _ _ _
                       obtain ⟨qc, cc, rfl⟩ := hoc.sl
                       obtain ⟨mm, hmm⟩ : ∃ mm, mm = chgs (eMark ((xu, xv), xl, xw)) (eWeigh ((xu, xv), xl, xw)) (tl, tw) := ⟨_, rfl⟩
                       rw [← hmm] at HFx HOC HNE hlc ⊢
                       clear hbc hoc hne hmm
                       go_wp2_with (at_builtin; refine wpList_appOL elED 37 Tryz.underlying37 rfl _ _ rfl w.heap.size _ acc rfl HO4.out _ _ mm rfl HOC.out HNE.out (by omega) (by omega) ?_)
                       intro v3 w3 hO3 hb3 hg3 hl3
                       have hk3 : w3.heap[b]? = wr.heap[b]? := (hg3.block b (by first | omega | (simp; omega)) (fun e => HN.out b e.symm ⟨b, off, none⟩ rfl rfl)).trans ((HB4.out).block b hbb)
                       have HB3 := Lib.hid ((HB.out.trans ((HB4.out).mono hsz)).trans hb3)
                       have hs3 : wr.heap.size ≤ w3.heap.size := by have := hb3.size; first | omega | (simp at this; omega)
                       have HR3 := Lib.hid (HR.out.keep hs3 (fun a ha => by cases ha; exact hk3))
                       have HN3 : Hid (NB v3 (some ⟨b, off, none⟩)) := Lib.hid fun j hj a ha e => by
                         cases ha
                         simp only at e
                         rcases hl3 with h | h
                         · rw [h] at hj
                           exact HN.out j hj _ rfl e
                         · rw [h] at hj
                           simp at hj
                           omega
                       have HO3 : Hid (OwnED w.heap.size w3 v3 (D4 ++ ((H.E).take (k + 1)).flatMap (dE G))) := Lib.hid (by
                         rw [flatMap_snoc HX.out, ← List.append_assoc, ← HACC.out, HFx.out]
                         exact hO3)
                       obtain ⟨q3, c3, rfl⟩ := hO3.sl
                       clear hO3 hb3 hg3 hl3 hk3 HO HO2 hrv
                       go_wp2_with fail
                       go_roundw
                       case rel => exact ⟨k + 1, by omega, by go_num, HO3.out, HB3.out, HR3.out, HN3.out⟩
                       case measure => simp [intOf]; omega
                   · have hkn : LL = k := by omega
                     subst hkn
                     obtain ⟨D5, hD⟩ : ∃ D, D = D4 ++ (H.E).flatMap (dE G) := ⟨_, rfl⟩
                     have e : D5 = acc := by rw [hD, HACC.out, HLL.out, List.take_length]
                     have hDl : (D5).length ≤ 7168 := by
                       have h1 := flat_take_le (dE_len G) LL LL (by rw [HLL.out]; exact Nat.le_refl _) (l := H.E)
                       rw [e, HACC.out, List.length_append]
                       omega
                     subst e
                     have HD5 := Lib.hid hD
                     have hD5 := hDl
                     obtain ⟨wo, rfl⟩ : ∃ W : World, W = wr := ⟨_, rfl⟩
                     have HOc := HO
                     have HBc := HB
                     clear HR HN HACC HLL HO HB hD hDl HO1 HB1 HR1 HN1 hsz hal hk hLe
                     go_wp2_with fail
                     go_ret
                     refine ⟨_, rfl, ?_, HBc.out⟩
                     rw [HFin.out, ← HD1.out, ← HD2.out, ← HD3.out, ← HD4.out, ← HD5.out]
                     exact HOc.out
end Go.Proofs.YtglnhnjmelilmaaGreatDoor
