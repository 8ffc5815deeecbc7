/- Walks: cmp.Compare, cmp.Or; order and powers of package polynomial. Walk of package .. -/
import Derived.Test.YtgnlebnpnpjfmaaGreatDoorUOh
import Derived.Test.YtgnlebnpnpjfmaaGreatDoorUSru
import Derived.Test.YtgnlebnpnpjfmaaGreatDoorUSh
import Derived.Lib.Small
set_option maxHeartbeats 2000000
set_option linter.all false
namespace Go.Proofs.YtgnlebnpnpjfmaaGreatDoor
open Go Go.RowKit Go.Pal Go.Shelf Go.Sort Go.Lib
theorem isnan_any (n : Int) (w : World) : Calls Tryz.prog 112 #[.int .i64 n] w fun e w' => e = .returned (.bool false) ∧ w' = w := by
 go_enter Tryz.func112, Tryz.ntmps112
 go_wp2_with fail
 go_ret
 exact ⟨rfl, rfl⟩
theorem compare_any (x y : Int) (w : World) : Calls Tryz.prog 89 #[.int .i64 x, .int .i64 y] w fun e w' => e = .returned (.int .i64 (Lib.compareInt x y)) ∧ w' = w := by
 have H := Lib.hid fun n W => isnan_any n W
 unfold Lib.compareInt
 by_cases h1 : x < y
 · go_enter Tryz.func89, Tryz.ntmps89
   go_wp2_with fail
   refine (H.out _ _).mono ?_
   rintro e w1 ⟨rfl, rfl⟩
   go_wp2_with fail
   refine (H.out _ _).mono ?_
   rintro e w1 ⟨rfl, rfl⟩
   go_wp2_with fail
   go_ret
   exact ⟨by simp [h1], rfl⟩
 · by_cases h2 : y < x
   · go_enter Tryz.func89, Tryz.ntmps89
     go_wp2_with fail
     refine (H.out _ _).mono ?_
     rintro e w1 ⟨rfl, rfl⟩
     go_wp2_with fail
     refine (H.out _ _).mono ?_
     rintro e w1 ⟨rfl, rfl⟩
     go_wp2_with fail
     go_ret
     exact ⟨by simp [h1, h2], rfl⟩
   · go_enter Tryz.func89, Tryz.ntmps89
     go_wp2_with fail
     refine (H.out _ _).mono ?_
     rintro e w1 ⟨rfl, rfl⟩
     go_wp2_with fail
     refine (H.out _ _).mono ?_
     rintro e w1 ⟨rfl, rfl⟩
     go_wp2_with fail
     go_ret
     exact ⟨by simp [h1, h2], rfl⟩
theorem or2_any (a b : Int) (g : Nat) (w : World) (h : row? w g = some #[.int .i64 a, .int .i64 b]) : Calls Tryz.prog 88 #[.slice (some ⟨g, 0, none⟩) 2 2] w fun e w' => e = .returned (.int .i64 (if a = 0 then b else a)) ∧ w' = w := by
 have c0 := cell?_row (i := 0) h
 have c1 := cell?_row (i := 1) h
 simp at c0 c1
 clear h
 go_enter Tryz.func88, Tryz.ntmps88
 go_wp2_with fail
 go_loopw [8] (fun i wr => ∃ k : Nat, k ≤ 2 ∧ i = .int .i64 (k : Int) ∧ (0 < k → a = 0) ∧ (1 < k → b = 0) ∧ wr = w) (fun i _ => 2 - (intOf i).toNat)
 case atStart => exact ⟨0, by omega, rfl, by omega, by omega, rfl⟩
 case round =>
   obtain ⟨k, hk, rfl, ha, hb, rfl⟩ := hrel
   obtain rfl | rfl | rfl : k = 0 ∨ k = 1 ∨ k = 2 := by omega
   · by_cases hz : a = 0
     · subst hz
       go_wp2_with fail
       go_roundw
       case rel => exact ⟨1, by omega, by go_num, by simp, by omega, by simp⟩
       case measure => simp [intOf]
     · go_wp2_with fail
       go_ret
       exact ⟨by simp [hz], rfl⟩
   · have hz := ha (by omega)
     subst hz
     by_cases hz : b = 0
     · subst hz
       go_wp2_with fail
       go_roundw
       case rel => exact ⟨2, by omega, by go_num, by simp, by simp, by simp⟩
       case measure => simp [intOf]
     · go_wp2_with fail
       go_ret
       exact ⟨by simp, rfl⟩
   · have hz := ha (by omega)
     subst hz
     have hz := hb (by omega)
     subst hz
     go_wp2_with fail
     go_ret
     exact ⟨by simp, rfl⟩
def pwA (k : Ex) : Array Value := #[.int .i64 (k.1 : Int), .int .i64 (k.2 : Int)]
def cmpX (x y : Ex) : Int := if Lib.compareInt (x.1 : Int) (y.1 : Int) = 0 then Lib.compareInt (x.2 : Int) (y.2 : Int) else Lib.compareInt (x.1 : Int) (y.1 : Int)
theorem ltOf_cmpX (x y : Ex) : ltOf cmpX x y = ltX x y := by
 obtain ⟨a, b⟩ := x
 obtain ⟨c, d⟩ := y
 unfold ltOf cmpX Lib.compareInt ltX
 simp only
 by_cases h1 : a < c
 · have : (a : Int) < (c : Int) := by omega
   simp [h1, this]
 · by_cases h2 : c < a
   · have h3 : ¬ a = c := by omega
     have h4 : ¬ (a : Int) < (c : Int) := by omega
     have h5 : (c : Int) < (a : Int) := by omega
     simp [h1, h3, h4, h5]
   · have h3 : a = c := by omega
     subst h3
     by_cases h4 : b < d
     · have : (b : Int) < (d : Int) := by omega
       simp [h4, this]
     · have h6 : ¬ (b : Int) < (d : Int) := by omega
       by_cases h5 : d < b
       · have : (d : Int) < (b : Int) := by omega
         simp [h4, h6, this]
       · have : ¬ (d : Int) < (b : Int) := by omega
         simp [h4, h6, this]
theorem swoX : SWO (ltOf cmpX) where
 irrefl x := by rw [ltOf_cmpX]; exact ltX_irr x
 trans x y z h1 h2 := by rw [ltOf_cmpX] at *; exact ltX_trans h1 h2
 ntrans x y z h1 h2 := by
   rw [ltOf_cmpX] at *
   have e1 : ¬ (ltX x y = true) := by rw [h1]; simp
   have e2 : ¬ (ltX y z = true) := by rw [h2]; simp
   have e3 : ¬ (ltX x z = true) := by rw [ltX_iff] at *; omega
   simpa using e3
def elX : ElT Tryz.prog 90 2 pwA where
 bytes := 16
 zero := .agg #[.int .i64 0, .int .i64 0]
 info := by kernel_rfl
 zc := rfl
 pos := by decide
 small := by decide
 size _ := rfl
 one x u hu := by simp [pwA] at hu; rcases hu with rfl | rfl <;> rfl
abbrev OwnX := OwnR 90 2 pwA
theorem porder_any (x y : Ex) (w : World) : Calls Tryz.prog 53 #[.agg (pwA x), .agg (pwA y)] w fun e w' => e = .returned (.int .i64 (cmpX x y)) ∧ Ext w w' := by
 have H1 := Lib.hid fun W => compare_any (x.1 : Int) (y.1 : Int) W
 have H2 := Lib.hid fun W => compare_any (x.2 : Int) (y.2 : Int) W
 obtain ⟨c, hc⟩ : ∃ c, c = Lib.compareInt (x.1 : Int) (y.1 : Int) := ⟨_, rfl⟩
 obtain ⟨d, hd⟩ : ∃ d, d = Lib.compareInt (x.2 : Int) (y.2 : Int) := ⟨_, rfl⟩
 have hcd : cmpX x y = if c = 0 then d else c := by rw [hc, hd]; rfl
 rw [hcd]
 rw [← hc] at H1
 rw [← hd] at H2
 clear hc hd hcd
 obtain ⟨xu, xv⟩ := x
 obtain ⟨yu, yv⟩ := y
 unfold pwA
 simp only at H1 H2 ⊢
 go_enter Tryz.func53, Tryz.ntmps53
 go_wp2_with fail
 generalize hW1 : World.alloc (World.alloc w _) _ = W1
 have hx1 : Ext w W1 := by rw [← hW1]; exact (Ext.alloc _ _).trans (Ext.alloc _ _)
 have hy : row? W1 (w.heap.size + 1) = some #[.int .i64 (yu : Int), .int .i64 (yv : Int)] := by rw [← hW1]; exact row?_alloc_at _ _ _ _ (by simp)
 have hx : row? W1 w.heap.size = some #[.int .i64 (xu : Int), .int .i64 (xv : Int)] := by rw [← hW1]; exact (row?_alloc_past _ _ _ (by simp)).trans (row?_alloc_at _ _ _ _ rfl)
 have a0 := cell?_row (i := 0) hx
 have a1 := cell?_row (i := 1) hx
 have b0 := cell?_row (i := 0) hy
 have b1 := cell?_row (i := 1) hy
 simp at a0 a1 b0 b1
 clear hW1 hx hy
 refine wp_region_free_tail (fun w' => w' = W1.drew) 10 (by kernel_rfl) (by kernel_rfl) rfl ?_
 simp only [List.take_succ_cons, List.take_zero, List.drop_succ_cons, List.drop_zero]
 repeat (apply wpFree_still; (intro w hw; subst hw; go_simp; (try go_ints); (first | with_reducible rfl | (go_simp; with_reducible rfl))); with_reducible rfl; (intro K hK; go_simp; (try go_ints); refine hK _ ?_; clear hK K))
 apply wpFree_call
 · intro w hw; go_simp; first | with_reducible rfl | with_reducible exact ⟨rfl, rfl⟩
 · with_reducible rfl
 · intro w hw; subst hw; exact (H1.out _)
 intro K hK; go_simp; (try go_ints); refine hK _ ?_; clear hK K
 repeat (apply wpFree_still; (intro w hw; subst hw; go_simp; (try go_ints); (first | with_reducible rfl | (go_simp; with_reducible rfl))); with_reducible rfl; (intro K hK; go_simp; (try go_ints); refine hK _ ?_; clear hK K))
 apply wpFree_call
 · intro w hw; go_simp; first | with_reducible rfl | with_reducible exact ⟨rfl, rfl⟩
 · with_reducible rfl
 · intro w hw; subst hw; exact (H2.out _)
 intro K hK; go_simp; (try go_ints); refine hK _ ?_; clear hK K
 with_reducible refine wpFree_nil ?_
 rintro w' rfl
 go_wp2_with fail
 have hrw : row? ((W1.alloc (.cells #[.int .i64 c, .int .i64 d] 3)).drew) W1.heap.size = some #[.int .i64 c, .int .i64 d] := row?_alloc_at W1 _ _ _ rfl
 refine (or2_any c d _ _ hrw).mono ?_
 rintro e w2 ⟨rfl, rfl⟩
 go_wp2_with fail
 all_goals
   go_ret
   exact ⟨rfl, hx1.trans ((Ext.drew _).trans (Ext.alloc _ _))⟩
def KRng (w : World) (m : Option Nat) (r : Nat) (p rest : Pol) : Prop :=
 (m = none ∧ rest = [] ∧ w.heap[r]? = some (.mapIter none 0 #[] 0)) ∨ ∃ mb f, m = some mb ∧ Rng CP Tryz.prog 90 w mb r (hl p f) (hl rest f) ∧ (∀ x ∈ rest, x ∈ p)
theorem PRng.keys {w : World} {m : Option Nat} {r : Nat} {p rest : Pol} (h : PRng w m r p rest) : KRng w m r p rest := by
 rcases h with h | ⟨mb, f, h1, h2, h3, -⟩
 · exact .inl h
 · exact .inr ⟨mb, f, h1, h2, h3⟩
theorem KRng.lt {w : World} {m : Option Nat} {r : Nat} {p rest : Pol} (h : KRng w m r p rest) : r < w.heap.size := by
 rcases h with ⟨-, -, h⟩ | ⟨mb, f, -, h, -⟩
 · exact (Array.getElem?_eq_some_iff.1 h).1
 · exact h.lt
theorem KRng.below {w w' : World} {m : Option Nat} {r B : Nat} {p rest : Pol} (h : KRng w m r p rest) (hb : Below B w w') (hr : r < B) (hm : ∀ mb, m = some mb → mb < B) : KRng w' m r p rest := by
 rcases h with ⟨h1, h2, h⟩ | ⟨mb, f, h1, h, h2⟩
 · exact .inl ⟨h1, h2, (hb.block r hr).trans h⟩
 · exact .inr ⟨mb, f, h1, h.congr (hb.block mb (hm mb h1)) (hb.block r hr), h2⟩
theorem KRng.next {w : World} {m : Option Nat} {r : Nat} {p rest : Pol} (h : KRng w m r p rest) (ty : TypeId) :
   (rest = [] ∧ (Instr.next (.pointer (some ⟨r, 0, none⟩)) false ty).run Tryz.prog w = .ok (.tuple #[.bool false]) w) ∨
   ∃ k n r1 r2 w' hd, rest = r1 ++ (k, n) :: r2 ∧ (Instr.next (.pointer (some ⟨r, 0, none⟩)) false ty).run Tryz.prog w = .ok (.tuple #[.bool true, .agg #[.int .i64 (k.1 : Int), .int .i64 (k.2 : Int)], .agg #[hdrS hd]]) w' ∧ KRng w' m r p (r1 ++ r2) ∧ (k, n) ∈ p ∧ Same (fun j => some r ≠ some j) w w' ∧ w'.heap.size = w.heap.size ∧
     (Instr.entry (.pointer (some ⟨r, 0, none⟩))).run Tryz.prog w' = .ok (.tuple #[.agg #[.int .i64 (k.1 : Int), .int .i64 (k.2 : Int)], .agg #[hdrS hd]]) w' := by
 rcases h with ⟨h1, rfl, h⟩ | ⟨mb, f, h1, h, h2⟩
 · refine .inl ⟨rfl, ?_⟩
   simp only [Instr.next, getObj, Sem.run_bind, Sem.run, h, Result.andThen]
   rfl
 · rcases h.next goodP ty with ⟨e, hrun⟩ | ⟨x, y, s1, s2, w', e, hrun, hR, hg, hsz, hen⟩
   · refine .inl ⟨?_, hrun⟩
     cases rest with
     | nil => rfl
     | cons a b => simp [hl] at e
   · obtain ⟨r1, q, rfl, e1, e2⟩ := List.map_eq_append_iff.1 e
     obtain ⟨⟨k, n⟩, r2, rfl, e3, e4⟩ := List.map_eq_cons_iff.1 e2
     simp only [Prod.mk.injEq] at e3
     obtain ⟨rfl, rfl⟩ := e3
     have hS : Same (fun j => some r ≠ some j) w w' := ⟨hg.os, hg.tape, hg.output, hg.size, fun j hj hne => hg.block j hj (fun e => hne e.symm)⟩
     refine .inr ⟨k, n, r1, r2, w', f k, rfl, hrun, .inr ⟨mb, f, h1, ?_, fun x hx => h2 x ?_⟩, h2 _ (by simp), hS, hsz, hen⟩
     · have : hl (r1 ++ r2) f = s1 ++ s2 := by rw [← e1, ← e4]; simp [hl]
       rw [this]
       exact hR
     · rcases List.mem_append.1 hx with h | h
       · exact List.mem_append_left _ h
       · exact List.mem_append_right _ (List.mem_cons_of_mem _ h)
theorem sorted_keys {p : Pol} (hp : Canon p) {l : List Ex} (h : (p.map (·.1)).Perm l) (hs : l.Pairwise fun x y => ltOf cmpX y x = false) : l = p.map (·.1) := by
 have hnd : (p.map (·.1)).Pairwise fun x y => ltX x y = true := by
   rw [List.pairwise_map]
   exact hp.srt
 have hs2 : l.Pairwise fun x y => ltX x y = true := by
   have hne : l.Pairwise fun x y => x ≠ y := (h.pairwise_iff (fun {_ _} h => Ne.symm h)).1 (hnd.imp fun h => ltX_ne h)
   refine (hs.and hne).imp fun {a b} ⟨h1, h2⟩ => ?_
   rw [ltOf_cmpX] at h1
   exact ltX_total h1 h2.symm
 refine (List.Perm.eq_of_pairwise (le := fun x y => ltX x y = true) (fun a b _ _ h1 h2 => ?_) hs2 hnd h.symm)
 have := ltX_trans h1 h2
 rw [ltX_irr] at this
 cases this
set_option maxRecDepth 10000 in
theorem ppowers_any (p : Pol) (hne : p ≠ []) (hlen : p.length ≤ 100000) (vp : Value) (w : World) (hp : PolV w vp p) :
   Calls Tryz.prog 66 #[vp] w fun e w' => ∃ v, e = .returned v ∧ OwnX w.heap.size w' v (p.map (·.1)) ∧ Below w.heap.size w w' := by
 obtain ⟨m1, rfl, hm1⟩ := hp
 have HC := Lib.hid hm1.canon
 have hlt1 := hm1.lt
 obtain ⟨W0, hW0⟩ : ∃ W0, w.alloc (.cells #[.map m1] 24) = W0 := ⟨_, rfl⟩
 have hb0 : Below w.heap.size w W0 := by
   rw [← hW0]
   (repeat' (first | (with_reducible first | exact Below.refl _ _ | assumption | refine Below.alloc ?_ ?_ _ | refine Below.drew ?_ | refine Below.setCell ?_ ?_ _ | refine below_setRow ?_ ?_ _ | exact Nat.le_refl _) | omega | (simp; done) | (simp; omega) | (simp at *; omega)))
 have hs0 : W0.heap.size = w.heap.size + 1 := by rw [← hW0]; simp
 obtain ⟨W1, hr, hR, hb1, hs1⟩ := (hm1.below hb0).range
 rw [hs0] at hr hR hs1
 have hb01 := hb0.trans (hb1.mono hb0.size)
 have HB1 := Lib.hid hb01
 have HR := Lib.hid hR.keys
 have HS1 := Lib.hid hs1
 have HLT := Lib.hid fun (mb : Nat) (h : m1 = some mb) => show mb < w.heap.size + 1 + 1 by have := hlt1 mb h; omega
 have HNE := Lib.hid hne
 rw [← hW0] at hr
 clear hm1 hb0 hb1 hb01 hs0 hs1 hR hW0 hlt1 hne
 go_enter Tryz.func66, Tryz.ntmps66
 go_wp2_with fail
 clear hr
 go_loopw [3] (fun v wi => ∃ done rest : Pol, (done ++ rest).Perm p ∧ OwnX (w.heap.size + 1 + 1) wi v (done.map (·.1)) ∧ KRng wi m1 (w.heap.size + 1) p rest ∧ Below w.heap.size w wi ∧ w.heap.size + 1 + 1 ≤ wi.heap.size) (fun v _ => p.length - slN v)
 case atStart => exact ⟨[], p, List.Perm.refl _, OwnR.nil _ _, HR.out, HB1.out, by have := HS1.out; omega⟩
 case round =>
   obtain ⟨done, rest, hpm, hO, hrn, hbr, hsz⟩ := hrel
   have hdl := hpm.length_eq
   rcases hrn.next 0 with ⟨rfl, hrun⟩ | ⟨ke, n, r1, r2, wn, hd, rfl, hrun, hrn2, hmem, hsn, hszn, hen⟩
   · have hpd : done.Perm p := by simpa using hpm
     have HPD := Lib.hid hpd
     have HO := Lib.hid hO
     have HB := Lib.hid hbr
     have hdn : done.map (·.1) ≠ [] := fun e => HNE.out (by
       have : done = [] := List.map_eq_nil_iff.1 e
       rw [this] at hpd
       exact hpd.nil_eq.symm)
     have HDN := Lib.hid hdn
     clear hpm hrn hbr hO hpd hdn HR
     go_wp2_with fail
     refine (sort_own Tryz.laysSortP elX Tryz.isAgg90 Tryz.sizeOf90 cmpX swoX 53 (fun args w => by simp [go_sem]) (fun x y W => porder_any x y W) (w.heap.size + 1 + 1) _ (List.map (fun x : Ex × Nat => x.1) done) wr HO.out (by simp at hdl ⊢; omega) HDN.out).mono ?_
     rintro e w4 ⟨rfl, l', hp', hsrt, hO4, hS4⟩
     have hl' : l' = p.map (·.1) := sorted_keys HC.out (((HPD.out.map (·.1)).symm).trans hp') hsrt
     have hb4 : Below w.heap.size w w4 := HB.out.trans (hS4.below (by omega) fun j hj hne => by have := HO.out.block j hne; omega)
     rw [hl'] at hO4
     have HO4 := Lib.hid (hO4.lower (B' := w.heap.size) (by omega))
     have HB4 := Lib.hid hb4
     clear hO4 hS4 hp' hsrt hb4 hrun
     go_wp2_with fail
     go_ret
     exact ⟨_, rfl, HO4.out, HB4.out⟩
   · have hO2 : OwnX (w.heap.size + 1 + 1) wn _ (done.map (·.1)) := hO.same fun j hj => hsn.block j (hO.lt j hj) (by have := hO.block j hj; simp; omega)
     have HO2 := Lib.hid hO2
     have HR2 := Lib.hid hrn2
     have hb2 : Below w.heap.size w wn := hbr.trans (hsn.below (by omega) fun j hj => by simp; omega)
     have HB2 := Lib.hid hb2
     have HPM := Lib.hid hpm
     obtain ⟨qa, qc, rfl⟩ := hO.sl
     have hszw : w.heap.size + 1 + 1 ≤ wn.heap.size := by omega
     clear hpm hrn hbr hO hrn2 hO2 hb2 hsn hmem HR hszn hsz
     have hdl1 : (done.map (·.1)).length < 4000000 := by simp at hdl ⊢; omega
     go_wp2_with (at_builtin; refine wpList_appO elX 87 Tryz.underlying87 rfl _ _ rfl (w.heap.size + 1 + 1) _ (List.map (fun x : Ex × Nat => x.1) done) rfl ((HO2.out.alloc _).alloc _) _ ke _ rfl (row?_alloc_at _ _ _ _ (by simp)) hdl1 (by simp <;> omega) ?_)
     intro v3 w3 hO3 hb3 hg3 hl3
     have hbA : Below (w.heap.size + 1 + 1) wn ((wn.alloc (.cells #[.int .i64 (ke.1 : Int), .int .i64 (ke.2 : Int)] 90)).alloc (.cells #[.int .i64 (ke.1 : Int), .int .i64 (ke.2 : Int)] 90)) := ((Below.refl (w.heap.size + 1 + 1) wn).alloc (by omega) _).alloc (by simp <;> omega) _
     have hb23 : Below (w.heap.size + 1 + 1) wn w3 := hbA.trans hb3
     have HR3 := Lib.hid (HR2.out.below hb23 (by omega) HLT.out)
     have HB3 := Lib.hid (HB2.out.trans (hb23.mono (by omega)))
     have hs3 := hb23.size
     obtain ⟨q3, c3, rfl⟩ := hO3.sl
     have HO3 := Lib.hid hO3
     clear hO3 hb3 hg3 hl3 hb23 hbA hrun hen
     go_wp2_with fail
     go_roundw
     case rel => exact ⟨done ++ [(ke, n)], r1 ++ r2, (step_perm done r1 r2 (ke, n)).trans HPM.out, by rw [List.map_append]; exact HO3.out, HR3.out, HB3.out, by omega⟩
     case measure => simp [slN]; simp at hdl; omega
end Go.Proofs.YtgnlebnpnpjfmaaGreatDoor
