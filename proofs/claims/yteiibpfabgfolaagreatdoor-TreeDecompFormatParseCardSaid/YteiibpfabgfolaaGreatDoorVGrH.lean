/- Walks of package graph: Vertices, Edges. Walks of package graph: Len, VertexSet, .. -/
import Derived.Test.YteiibpfabgfolaaGreatDoorVGrG
import Derived.Test.YteiibpfabgfolaaGreatDoorVOwS
set_option maxHeartbeats 2000000
set_option maxRecDepth 10000
set_option linter.all false
namespace Go.Proofs.YteiibpfabgfolaaGreatDoor
open Go Go.RowKit Go.Pal Go.Shelf Go.Sort Go.Lib
def elV : ElT Tryz.prog 147 3 vtxA where
 bytes := 24
 zero := .agg #[.int .i64 0, .int .u8 0, .int .i64 0]
 info := by kernel_rfl
 zc := rfl
 pos := by decide
 small := by decide
 size _ := rfl
 one x u hu := by simp [vtxA] at hu; rcases hu with rfl | rfl | rfl <;> rfl
def elE : ElT Tryz.prog 110 4 edgA where
 bytes := 32
 zero := .agg #[.int .i64 0, .int .i64 0, .int .u8 0, .int .i64 0]
 info := by kernel_rfl
 zc := rfl
 pos := by decide
 small := by decide
 size _ := rfl
 one x u hu := by simp [edgA] at hu; rcases hu with rfl | rfl | rfl | rfl <;> rfl
abbrev OwnV := OwnR 147 3 vtxA
abbrev OwnE := OwnR 110 4 edgA
def slLen : Value → Nat
 | .slice _ n _ => n
 | _ => 0
theorem ltOf_cmpV (x y : Int × Th) : ltOf cmpV x y = decide (x.1 < y.1) := by
 unfold ltOf cmpV Lib.compareInt
 by_cases h1 : x.1 < y.1
 · simp [h1]
 · by_cases h2 : y.1 < x.1 <;> simp [h1, h2]
theorem swoV : SWO (ltOf cmpV) where
 irrefl x := by rw [ltOf_cmpV]; simp
 trans x y z h1 h2 := by rw [ltOf_cmpV] at *; simp at *; omega
 ntrans x y z h1 h2 := by rw [ltOf_cmpV] at *; simp at *; omega
theorem ltOf_cmpE (x y : (Int × Int) × Th) : ltOf cmpE x y = ltE x.1 y.1 := by
 obtain ⟨⟨a, b⟩, t⟩ := x
 obtain ⟨⟨c, d⟩, u⟩ := y
 unfold ltOf cmpE Lib.compareInt ltE
 simp only
 by_cases h1 : a < c
 · simp [h1]
 · by_cases h2 : c < a
   · have h3 : ¬ a = c := by omega
     simp [h1, h2, h3]
   · have h3 : a = c := by omega
     subst h3
     by_cases h4 : b < d
     · simp [h4]
     · by_cases h5 : d < b <;> simp [h4, h5]
theorem swoE : SWO (ltOf cmpE) where
 irrefl x := by rw [ltOf_cmpE]; exact ordE.irrefl _
 trans x y z h1 h2 := by rw [ltOf_cmpE] at *; exact ordE.trans _ _ _ h1 h2
 ntrans x y z h1 h2 := by rw [ltOf_cmpE] at *; simp [ltE] at *; omega
theorem srt_of {α β : Type} {lt : α → α → Bool} (O : Ord lt) {l : List (α × β)} (h : l.Pairwise fun x y => lt y.1 x.1 = false) (hn : NoDup l) : Srt lt l := by
 refine (h.and hn).imp fun {a b} ⟨h1, h2⟩ => ?_
 cases h3 : lt a.1 b.1 with
 | true => rfl
 | false => exact absurd (O.total _ _ h3 h1) h2
theorem gvertices_any (g bV bE : Nat) (G : Gr) (hG : G.Ok) (w : World) (h : GOk w g bV bE G) :
   Calls Tryz.prog 100 #[.pointer (some ⟨g, 0, none⟩)] w fun r w' => ∃ v, r = .returned v ∧ OwnV w.heap.size w' v G.V ∧ Below w.heap.size w w' := by
 have HG := Lib.hid hG
 have hl := hG.len
 have hgl := h.lt
 have k0 := cell?_row (i := 0) h.row
 simp at k0
 obtain ⟨w1, hr, hR, hb, hs1⟩ := h.V.range goodV Tryz.underlying85
 have HR := Lib.hid hR
 have HB := Lib.hid hb
 clear h hG hR hb
 go_enter Tryz.func100, Tryz.ntmps100
 go_wp2_with fail
 go_loopw [3] (fun v wr => ∃ done rest, (done ++ rest).Perm G.V ∧ OwnV (w.heap.size + 1) wr v done ∧ Rng CV Tryz.prog 3 wr bV w.heap.size G.V rest ∧ Below w.heap.size w wr) (fun v _ => G.V.length - slLen v)
 case atStart => exact ⟨[], G.V, List.Perm.refl _, OwnR.nil _ _, HR.out, HB.out⟩
 case round =>
   obtain ⟨done, rest, hp, hO, hRr, hbr⟩ := hrel
   have hdl := hp.length_eq
   have hszr := hbr.size
   have hRlt := hRr.lt
   have HP := Lib.hid hp
   have HBr := Lib.hid hbr
   rcases hRr.next goodV 0 with ⟨rfl, hrun⟩ | ⟨x, y, r1, r2, w2, rfl, hrun, hR2, hgr, hsz2, hen⟩
   · have hdl1 : done.length < 1000001 := by simp at hdl; omega
     have HO := Lib.hid hO
     clear hp hbr hRr hO hr
     go_wp2_with fail
     refine (sort_own Tryz.laysSortV elV Tryz.isAgg147 Tryz.sizeOf147 cmpV swoV 123 (fun args w => by simp [go_sem]) (fun x y W => gvertices1_any x y W) (w.heap.size + 1) _ done wr HO.out (by omega)).mono ?_
     rintro e w4 ⟨rfl, l', hp', hsrt, hO4, hS4⟩
     have hP : done.Perm G.V := by have := HP.out; rwa [List.append_nil] at this
     have hl' : l' = G.V := srt_unique ordV (srt_of ordV (hsrt.imp fun h => by rw [ltOf_cmpV] at h; exact h) ((Srt.nd ordV HG.out.sV).perm (hP.symm.trans hp'))) HG.out.sV (hp'.symm.trans hP)
     have hb4 : Below w.heap.size w w4 := HBr.out.trans (hS4.below (by omega) fun j hj hne => by have := HO.out.block j hne; omega)
     rw [hl'] at hO4
     have HO4 := Lib.hid (hO4.lower (B' := w.heap.size) (by omega))
     have HB4 := Lib.hid hb4
     clear hO4 hS4 hp' hsrt hP hb4 hrun
     go_wp2_with fail
     go_ret
     exact ⟨_, rfl, HO4.out, HB4.out⟩
   · have hS2 := same_grown hgr
     have hO2 : OwnV (w.heap.size + 1) w2 _ done := hO.same fun j hj => hS2.block j (hO.lt j hj) (by have := hO.block j hj; intro e; cases e; omega)
     have HO2 := Lib.hid hO2
     have HR2 := Lib.hid hR2
     have hb2 : Below w.heap.size w w2 := hbr.trans (hS2.below (by omega) fun j hj e => by cases e; omega)
     have HB2 := Lib.hid hb2
     obtain ⟨qa, qc, rfl⟩ := hO.sl
     have hrun1 : (Instr.next (.pointer (some ⟨w.heap.size, 0, none⟩)) false 0).run Tryz.prog wr = .ok (.tuple #[.bool true, .int .i64 x, .agg #[.int .u8 (y.1 : Int), .int .i64 y.2]]) w2 := hrun
     have hen1 : (Instr.entry (.pointer (some ⟨w.heap.size, 0, none⟩))).run Tryz.prog w2 = .ok (.tuple #[.int .i64 x, .agg #[.int .u8 (y.1 : Int), .int .i64 y.2]]) w2 := hen
     clear hp hbr hRr hO hr hgr hR2 hO2 hb2 hS2 hrun hen
     have hdl1 : done.length < 4000000 := by simp at hdl; omega
     go_wp2_with (at_builtin; refine wpList_appO elV 144 Tryz.underlying144 rfl _ _ rfl (w.heap.size + 1) _ done rfl ((HO2.out.alloc _).alloc _) _ (x, y) _ rfl (row?_alloc_at _ _ _ _ (by simp [hsz2])) hdl1 (by simp; omega) ?_)
     intro v3 w3 hO3 hb3 hg3 hl3
     have hb23 : Below (w.heap.size + 1) w2 w3 := Below.trans (((Below.refl _ w2).alloc (by omega) _).alloc (by simp; omega) _) hb3
     have hR3 := HR2.out.congr (hb23.block _ (by omega)) (hb23.block _ (by omega))
     have HR3 := Lib.hid hR3
     have HB3 := Lib.hid (HB2.out.trans (hb23.mono (by omega)))
     obtain ⟨q3, c3, rfl⟩ := hO3.sl
     have HO3 := Lib.hid hO3
     have HP3 : Hid ((done ++ [(x, y)] ++ (r1 ++ r2)).Perm (done ++ (r1 ++ (x, y) :: r2))) := Lib.hid (by rw [List.append_assoc]; show (done ++ ((x, y) :: (r1 ++ r2))).Perm _; exact List.Perm.append_left _ List.perm_middle.symm)
     clear hO3 hb3 hg3 hl3 hb23 hR3 hrun1 hen1
     go_wp2_with fail
     go_roundw
     case rel => exact ⟨done ++ [(x, y)], r1 ++ r2, HP3.out.trans HP.out, HO3.out, HR3.out, HB3.out⟩
     case measure => simp [slLen]; simp at hdl; omega
theorem gedges_any (g bV bE : Nat) (G : Gr) (hG : G.Ok) (w : World) (h : GOk w g bV bE G) :
   Calls Tryz.prog 48 #[.pointer (some ⟨g, 0, none⟩)] w fun r w' => ∃ v, r = .returned v ∧ OwnE w.heap.size w' v G.E ∧ Below w.heap.size w w' := by
 have HG := Lib.hid hG
 have hl := hG.most
 have hgl := h.lt
 have k0 := cell?_row (i := 1) h.row
 simp at k0
 obtain ⟨w1, hr, hR, hb, hs1⟩ := h.E.range goodE Tryz.underlying86
 have HR := Lib.hid hR
 have HB := Lib.hid hb
 clear h hG hR hb
 go_enter Tryz.func48, Tryz.ntmps48
 go_wp2_with fail
 go_loopw [3] (fun v wr => ∃ done rest, (done ++ rest).Perm G.E ∧ OwnE (w.heap.size + 1) wr v done ∧ Rng CE Tryz.prog 131 wr bE w.heap.size G.E rest ∧ Below w.heap.size w wr) (fun v _ => G.E.length - slLen v)
 case atStart => exact ⟨[], G.E, List.Perm.refl _, OwnR.nil _ _, HR.out, HB.out⟩
 case round =>
   obtain ⟨done, rest, hp, hO, hRr, hbr⟩ := hrel
   have hdl := hp.length_eq
   have hszr := hbr.size
   have hRlt := hRr.lt
   have HP := Lib.hid hp
   have HBr := Lib.hid hbr
   rcases hRr.next goodE 0 with ⟨rfl, hrun⟩ | ⟨x, y, r1, r2, w2, rfl, hrun, hR2, hgr, hsz2, hen⟩
   · have hdl1 : done.length < 1000001 := by simp at hdl; omega
     have HO := Lib.hid hO
     clear hp hbr hRr hO hr
     go_wp2_with fail
     refine (sort_own Tryz.laysSortE elE Tryz.isAgg110 Tryz.sizeOf110 cmpE swoE 103 (fun args w => by simp [go_sem]) (fun x y W => gedges1_any x y W) (w.heap.size + 1) _ done wr HO.out (by omega)).mono ?_
     rintro e w4 ⟨rfl, l', hp', hsrt, hO4, hS4⟩
     have hP : done.Perm G.E := by have := HP.out; rwa [List.append_nil] at this
     have hl' : l' = G.E := srt_unique ordE (srt_of ordE (hsrt.imp fun h => by rw [ltOf_cmpE] at h; exact h) ((Srt.nd ordE HG.out.sE).perm (hP.symm.trans hp'))) HG.out.sE (hp'.symm.trans hP)
     have hb4 : Below w.heap.size w w4 := HBr.out.trans (hS4.below (by omega) fun j hj hne => by have := HO.out.block j hne; omega)
     rw [hl'] at hO4
     have HO4 := Lib.hid (hO4.lower (B' := w.heap.size) (by omega))
     have HB4 := Lib.hid hb4
     clear hO4 hS4 hp' hsrt hP hb4 hrun
     go_wp2_with fail
     go_ret
     exact ⟨_, rfl, HO4.out, HB4.out⟩
   · have hS2 := same_grown hgr
     have hO2 : OwnE (w.heap.size + 1) w2 _ done := hO.same fun j hj => hS2.block j (hO.lt j hj) (by have := hO.block j hj; intro e; cases e; omega)
     have HO2 := Lib.hid hO2
     have HR2 := Lib.hid hR2
     have hb2 : Below w.heap.size w w2 := hbr.trans (hS2.below (by omega) fun j hj e => by cases e; omega)
     have HB2 := Lib.hid hb2
     obtain ⟨qa, qc, rfl⟩ := hO.sl
     have hrun1 : (Instr.next (.pointer (some ⟨w.heap.size, 0, none⟩)) false 0).run Tryz.prog wr = .ok (.tuple #[.bool true, .agg #[.int .i64 x.1, .int .i64 x.2], .agg #[.int .u8 (y.1 : Int), .int .i64 y.2]]) w2 := hrun
     have hen1 : (Instr.entry (.pointer (some ⟨w.heap.size, 0, none⟩))).run Tryz.prog w2 = .ok (.tuple #[.agg #[.int .i64 x.1, .int .i64 x.2], .agg #[.int .u8 (y.1 : Int), .int .i64 y.2]]) w2 := hen
     clear hp hbr hRr hO hr hgr hR2 hO2 hb2 hS2 hrun hen
     have hdl1 : done.length < 4000000 := by simp at hdl; omega
     go_wp2_with (at_builtin; refine wpList_appO elE 107 Tryz.underlying107 rfl _ _ rfl (w.heap.size + 1) _ done rfl (((HO2.out.alloc _).alloc _).alloc _) _ (x, y) _ rfl (row?_alloc_at _ _ _ _ (by simp [hsz2])) hdl1 (by simp; omega) ?_)
     intro v3 w3 hO3 hb3 hg3 hl3
     have hb23 : Below (w.heap.size + 1) w2 w3 := Below.trans ((((Below.refl _ w2).alloc (by omega) _).alloc (by simp; omega) _).alloc (by simp; omega) _) hb3
     have hR3 := HR2.out.congr (hb23.block _ (by omega)) (hb23.block _ (by omega))
     have HR3 := Lib.hid hR3
     have HB3 := Lib.hid (HB2.out.trans (hb23.mono (by omega)))
     obtain ⟨q3, c3, rfl⟩ := hO3.sl
     have HO3 := Lib.hid hO3
     have HP3 : Hid ((done ++ [(x, y)] ++ (r1 ++ r2)).Perm (done ++ (r1 ++ (x, y) :: r2))) := Lib.hid (by rw [List.append_assoc]; show (done ++ ((x, y) :: (r1 ++ r2))).Perm _; exact List.Perm.append_left _ List.perm_middle.symm)
     clear hO3 hb3 hg3 hl3 hb23 hR3 hrun1 hen1
     go_wp2_with fail
     go_roundw
     case rel => exact ⟨done ++ [(x, y)], r1 ++ r2, HP3.out.trans HP.out, HO3.out, HR3.out, HB3.out⟩
     case measure => simp [slLen]; simp at hdl; omega
end Go.Proofs.YteiibpfabgfolaaGreatDoor
namespace Go.Pal
open Go
def vsetTo (l : List (Int × Th)) (k : Nat) : Nat := (l.take k).foldl (fun S p => sIns S p.1.toNat) 0
theorem vsetTo_succ {l : List (Int × Th)} {k : Nat} {x : Int × Th} (h : l[k]? = some x) : vsetTo l (k + 1) = sIns (vsetTo l k) x.1.toNat := by
 unfold vsetTo
 rw [List.take_add_one, h, List.foldl_append]
 rfl
def Gr.vset (G : Gr) : Nat := vsetTo G.V G.V.length
def nearTo (l : List ((Int × Int) × Th)) (n : Int) (k : Nat) : Nat := (l.take k).foldl (fun S p => if n = p.1.1 then sIns S p.1.2.toNat else if n = p.1.2 then sIns S p.1.1.toNat else S) 0
theorem nearTo_succ {l : List ((Int × Int) × Th)} {n : Int} {k : Nat} {x : (Int × Int) × Th} (h : l[k]? = some x) : nearTo l n (k + 1) = if n = x.1.1 then sIns (nearTo l n k) x.1.2.toNat else if n = x.1.2 then sIns (nearTo l n k) x.1.1.toNat else nearTo l n k := by
 unfold nearTo
 rw [List.take_add_one, h, List.foldl_append]
 rfl
def Gr.near (G : Gr) (n : Int) : Nat := nearTo G.E n G.E.length
theorem Gr.Ok.endsI {G : Gr} (h : G.Ok) : ∀ p ∈ G.E, 0 ≤ p.1.1 ∧ p.1.1 < p.1.2 ∧ p.1.2 < 1024 := by
 intro p hp
 obtain ⟨h1, h2, h3⟩ := h.ends p hp
 obtain ⟨q, hq, hqe⟩ := look_some.1 h2
 obtain ⟨r, hr, hre⟩ := look_some.1 h3
 have h4 := h.ids q hq
 have h5 := h.ids r hr
 rw [hqe] at h4
 rw [hre] at h5
 omega
end Go.Pal
namespace Go.Proofs.YteiibpfabgfolaaGreatDoor
open Go Go.RowKit Go.Pal
theorem glen_any (g bV bE : Nat) (G : Gr) (w : World) (h : GOk w g bV bE G) : Calls Tryz.prog 146 #[.pointer (some ⟨g, 0, none⟩)] w fun r w' => r = .returned (.tuple #[.int .i64 (G.V.length : Int), .int .i64 (G.E.length : Int)]) ∧ Below w.heap.size w w' := by
 have k0 := cell?_row (i := 0) h.row
 have k1 := cell?_row (i := 1) h.row
 simp at k0 k1
 have hl0 := fun ty => h.V.len Tryz.underlying85 ty
 have hl1 := fun ty => h.E.len Tryz.underlying86 ty
 have hd0 := fun ty => h.V.drew.len Tryz.underlying85 ty
 have hd1 := fun ty => h.E.drew.len Tryz.underlying86 ty
 clear h
 go_enter Tryz.func146, Tryz.ntmps146
 go_wp2_with fail
 refine wp_region_free_tail (fun w' => w' = w.drew) 10 (by kernel_rfl) (by kernel_rfl) rfl ?_
 simp only [List.take_succ_cons, List.take_zero, List.drop_succ_cons, List.drop_zero]
 repeat (apply wpFree_still; (intro w hw; subst hw; go_simp; (try go_ints); (first | with_reducible rfl | (go_simp; with_reducible rfl))); with_reducible rfl; (intro K hK; go_simp; (try go_ints); refine hK _ ?_; clear hK K))
 with_reducible refine wpFree_nil ?_
 rintro w' rfl
 go_wp2_with fail
 go_ret2
 exact ⟨rfl, (Below.refl _ w).drew⟩
theorem gvertexSet_any (g bV bE : Nat) (G : Gr) (hG : G.Ok) (w : World) (h : GOk w g bV bE G) :
   Calls Tryz.prog 46 #[.pointer (some ⟨g, 0, none⟩)] w fun r w' => r = .returned (.agg (words G.vset)) ∧ Below w.heap.size w w' := by
 have HG := Lib.hid hG
 have hl := hG.len
 have H0 := Lib.hid h
 clear h hG
 go_enter Tryz.func46, Tryz.ntmps46
 go_wp2_with fail
 generalize hW0 : World.alloc (World.alloc w _) _ = W0
 have hB0 : Below w.heap.size w W0 := by
   rw [← hW0]
   (repeat' (first | (with_reducible first | exact Below.refl _ _ | assumption | refine Below.alloc ?_ ?_ _ | refine Below.drew ?_ | refine Below.setCell ?_ ?_ _ | refine below_setRow ?_ ?_ _ | exact Nat.le_refl _) | omega | (simp; done) | (simp; omega) | (simp at *; omega)))
 have hr1 : row? W0 (w.heap.size + 1) = some (words 0) := by rw [← hW0]; exact row?_alloc_at _ _ _ _ (by simp)
 have hr0 : row? W0 w.heap.size = some (words 0) := by rw [← hW0]; exact (row?_alloc_past _ _ _ (by simp)).trans (row?_alloc_at _ _ _ _ rfl)
 clear hW0
 refine (gvertices_any g bV bE G HG.out W0 (H0.out.below hB0)).mono ?_
 rintro r W1 ⟨v, rfl, hO, hb1⟩
 have hs0 := hb1.size
 have hl1 := row?_lt hr1
 have hr11 := (row?_below hb1 (by omega)).trans hr1
 have hr01 := (row?_below hb1 (by omega)).trans hr0
 have HB1 := Lib.hid (hB0.trans (hb1.mono hB0.size))
 have hrd := hO.rd elV
 obtain ⟨a, c, rfl, hrd⟩ := hrd
 have HRD := Lib.hid hrd
 have HOb := Lib.hid hO
 have HR1 := Lib.hid hr11
 have HR0 := Lib.hid hr01
 clear hrd hO hb1 hB0 hr1 hr0 hr11 hr01
 go_wp2_with fail
 go_loopw [9] (fun i wr => ∃ k : Nat, k ≤ G.V.length ∧ i = .int .i64 (k : Int) ∧ row? wr (w.heap.size + 1) = some (words (vsetTo G.V k)) ∧ Same (fun j => j ≠ w.heap.size + 1) W1 wr) (fun i _ => G.V.length - (intOf i).toNat)
 case atStart => exact ⟨0, by omega, rfl, HR1.out, Same.refl _ _⟩
 case round =>
   obtain ⟨k, hk, rfl, hr, hS⟩ := hrel
   have hsz := hS.size
   by_cases hlt : k < G.V.length
   · obtain ⟨x, hx⟩ : ∃ x, G.V[k]? = some x := ⟨_, List.getElem?_eq_getElem hlt⟩
     rcases HRD.out with h | ⟨b, off, rfl, hbl, hc⟩
     · rw [h] at hlt; simp at hlt
     have hbB := HOb.out.block b rfl
     have hk' : ∀ j u, (vtxA x)[j]? = some u → wr.cell? ⟨b, off + k * 3 + j, none⟩ = some u := fun j u hu => (World.cell?_of_block (hS.block b hbl (by omega))).trans (hc k x hx j u hu)
     obtain ⟨hi0, hi1⟩ := HG.out.ids x (List.mem_of_getElem? hx)
     have hst := vsetTo_succ hx
     obtain ⟨⟨id, lab, wt⟩, rfl⟩ : ∃ y : Int × Th, x = y := ⟨x, rfl⟩
     obtain ⟨m, rfl⟩ : ∃ m : Nat, id = (m : Int) := ⟨id.toNat, by simp only at hi0; omega⟩
     simp only [Int.toNat_natCast] at hi1 hst
     have hk' : ∀ j u, (vtxA ((m : Int), lab, wt))[j]? = some u → wr.cell? ⟨b, off + k * 3 + j, none⟩ = some u := hk'
     have c0 := hk' 0 (.int .i64 (m : Int)) rfl
     have c1 := hk' 1 (.int .u8 (lab : Int)) rfl
     have c2 := hk' 2 (.int .i64 wt) rfl
     simp only [Nat.add_zero] at c0
     have HS := Lib.hid hS
     have HST := Lib.hid hst
     have hl1 := row?_lt hr
     clear hS hc hk' hx hst
     go_wp2_with fail
     refine (with_in _ m _ (by omega)).mono ?_
     rintro r w5 ⟨rfl, hb5⟩
     have hr5 := (row?_below hb5 (by simp; omega)).trans ((row?_alloc_past _ _ _ hl1).trans hr)
     have hS5 := HS.out.trans ((Same.alloc _ wr (.cells #[.int .i64 (m : Int), .int .u8 (lab : Int), .int .i64 wt] 147)).trans ((Same.of_below hb5).mono fun j hj _ => hj))
     have HS5 := Lib.hid hS5
     clear hr hb5 hS5
     go_wp2_with fail
     go_roundw
     case rel =>
       refine ⟨k + 1, by omega, by go_num, ?_, HS5.out.trans (Same.setRow _ _ _ _ (by simp))⟩
       rw [row?_setRow_same _ _ _ (by rw [hr5]; rfl), HST.out]
     case measure => simp [intOf]; omega
   · have hkn : k = G.V.length := by omega
     subst hkn
     have hr0 := (row?_congr (hS.block w.heap.size (by have := HOb.out.sl; omega) (by omega))).trans HR0.out
     have HS := Lib.hid hS
     clear hS
     go_wp2_with fail
     refine ret_row w.heap.size (words (vsetTo G.V G.V.length)) rfl Tryz.isAgg51 Tryz.sizeOf51 rfl rfl (row?_setRow_same _ _ _ (by rw [hr0]; rfl)) (by simp only [words_size]) ⟨rfl, ?_⟩
     exact below_setRow (HB1.out.trans (HS.out.below (by omega) fun j hj => by omega)) (Nat.le_refl _) _
theorem gneighbors_any (n : Int) (g bV bE : Nat) (G : Gr) (hG : G.Ok) (w : World) (h : GOk w g bV bE G) :
   Calls Tryz.prog 119 #[.pointer (some ⟨g, 0, none⟩), .int .i64 n] w fun r w' => r = .returned (.agg (words (G.near n))) ∧ Below w.heap.size w w' := by
 have HG := Lib.hid hG
 have hl := hG.most
 have H0 := Lib.hid h
 clear h hG
 go_enter Tryz.func119, Tryz.ntmps119
 go_wp2_with fail
 generalize hW0 : World.alloc (World.alloc w _) _ = W0
 have hB0 : Below w.heap.size w W0 := by
   rw [← hW0]
   (repeat' (first | (with_reducible first | exact Below.refl _ _ | assumption | refine Below.alloc ?_ ?_ _ | refine Below.drew ?_ | refine Below.setCell ?_ ?_ _ | refine below_setRow ?_ ?_ _ | exact Nat.le_refl _) | omega | (simp; done) | (simp; omega) | (simp at *; omega)))
 have hr1 : row? W0 (w.heap.size + 1) = some (words 0) := by rw [← hW0]; exact row?_alloc_at _ _ _ _ (by simp)
 have hr0 : row? W0 w.heap.size = some (words 0) := by rw [← hW0]; exact (row?_alloc_past _ _ _ (by simp)).trans (row?_alloc_at _ _ _ _ rfl)
 clear hW0
 refine (gedges_any g bV bE G HG.out W0 (H0.out.below hB0)).mono ?_
 rintro r W1 ⟨v, rfl, hO, hb1⟩
 have hs0 := hb1.size
 have hl1 := row?_lt hr1
 have hr11 := (row?_below hb1 (by omega)).trans hr1
 have hr01 := (row?_below hb1 (by omega)).trans hr0
 have HB1 := Lib.hid (hB0.trans (hb1.mono hB0.size))
 have hrd := hO.rd elE
 obtain ⟨a, c, rfl, hrd⟩ := hrd
 have HRD := Lib.hid hrd
 have HOb := Lib.hid hO
 have HR1 := Lib.hid hr11
 have HR0 := Lib.hid hr01
 clear hrd hO hb1 hB0 hr1 hr0 hr11 hr01
 go_wp2_with fail
 go_loopw [11] (fun i wr => ∃ k : Nat, k ≤ G.E.length ∧ i = .int .i64 (k : Int) ∧ row? wr (w.heap.size + 1) = some (words (nearTo G.E n k)) ∧ Same (fun j => j ≠ w.heap.size + 1) W1 wr) (fun i _ => G.E.length - (intOf i).toNat)
 case atStart => exact ⟨0, by omega, rfl, HR1.out, Same.refl _ _⟩
 case round =>
   obtain ⟨k, hk, rfl, hr, hS⟩ := hrel
   have hsz := hS.size
   by_cases hlt : k < G.E.length
   · obtain ⟨x, hx⟩ : ∃ x, G.E[k]? = some x := ⟨_, List.getElem?_eq_getElem hlt⟩
     rcases HRD.out with h | ⟨b, off, rfl, hbl, hc⟩
     · rw [h] at hlt; simp at hlt
     have hbB := HOb.out.block b rfl
     have hk' : ∀ j u, (edgA x)[j]? = some u → wr.cell? ⟨b, off + k * 4 + j, none⟩ = some u := fun j u hu => (World.cell?_of_block (hS.block b hbl (by omega))).trans (hc k x hx j u hu)
     obtain ⟨hi0, hi1, hi2⟩ := HG.out.endsI x (List.mem_of_getElem? hx)
     have hst := nearTo_succ (n := n) hx
     obtain ⟨⟨⟨eu, ev⟩, lab, wt⟩, rfl⟩ : ∃ y : (Int × Int) × Th, x = y := ⟨x, rfl⟩
     simp only at hi0 hi1 hi2
     obtain ⟨mu, rfl⟩ : ∃ m : Nat, eu = (m : Int) := ⟨eu.toNat, by omega⟩
     obtain ⟨mv, rfl⟩ : ∃ m : Nat, ev = (m : Int) := ⟨ev.toNat, by omega⟩
     simp only [Int.toNat_natCast] at hst
     have hk' : ∀ j u, (edgA (((mu : Int), (mv : Int)), lab, wt))[j]? = some u → wr.cell? ⟨b, off + k * 4 + j, none⟩ = some u := hk'
     have c0 := hk' 0 (.int .i64 (mu : Int)) rfl
     have c1 := hk' 1 (.int .i64 (mv : Int)) rfl
     have c2 := hk' 2 (.int .u8 (lab : Int)) rfl
     have c3 := hk' 3 (.int .i64 wt) rfl
     simp only [Nat.add_zero] at c0
     have HS := Lib.hid hS
     have hl1 := row?_lt hr
     by_cases hu : n = (mu : Int)
     · rw [if_pos hu] at hst
       have HST := Lib.hid hst
       clear hS hc hk' hx hst hi0 hi1
       subst hu
       go_wp2_with fail
       refine (with_in _ mv _ (by omega)).mono ?_
       rintro r w5 ⟨rfl, hb5⟩
       have hr5 := (row?_below hb5 (by simp; omega)).trans ((row?_alloc_past _ _ _ hl1).trans hr)
       have hS5 := HS.out.trans ((Same.alloc _ wr (.cells #[.int .i64 (mu : Int), .int .i64 (mv : Int), .int .u8 (lab : Int), .int .i64 wt] 110)).trans ((Same.of_below hb5).mono fun j hj _ => hj))
       have HS5 := Lib.hid hS5
       clear hr hb5 hS5
       go_wp2_with fail
       go_roundw
       case rel =>
         refine ⟨k + 1, by omega, by go_num, ?_, HS5.out.trans (Same.setRow _ _ _ _ (by simp))⟩
         rw [row?_setRow_same _ _ _ (by rw [hr5]; rfl), HST.out]
       case measure => simp [intOf]; omega
     · by_cases hv : n = (mv : Int)
       · rw [if_neg hu, if_pos hv] at hst
         have HST := Lib.hid hst
         clear hS hc hk' hx hst hi0
         subst hv
         go_wp2_with fail
         refine (with_in _ mu _ (by omega)).mono ?_
         rintro r w5 ⟨rfl, hb5⟩
         have hr5 := (row?_below hb5 (by simp; omega)).trans ((row?_alloc_past _ _ _ hl1).trans hr)
         have hS5 := HS.out.trans ((Same.alloc _ wr (.cells #[.int .i64 (mu : Int), .int .i64 (mv : Int), .int .u8 (lab : Int), .int .i64 wt] 110)).trans ((Same.of_below hb5).mono fun j hj _ => hj))
         have HS5 := Lib.hid hS5
         clear hr hb5 hS5
         go_wp2_with fail
         go_roundw
         case rel =>
           refine ⟨k + 1, by omega, by go_num, ?_, HS5.out.trans (Same.setRow _ _ _ _ (by simp))⟩
           rw [row?_setRow_same _ _ _ (by rw [hr5]; rfl), HST.out]
         case measure => simp [intOf]; omega
       · rw [if_neg hu, if_neg hv] at hst
         have HST := Lib.hid hst
         clear hS hc hk' hx hst hi0 hi1 hi2
         go_wp2_with fail
         go_roundw
         case rel =>
           refine ⟨k + 1, by omega, by go_num, ?_, HS.out.trans (Same.alloc _ _ _)⟩
           rw [HST.out]
           exact (row?_alloc_past _ _ _ hl1).trans hr
         case measure => simp [intOf]; omega
   · have hkn : k = G.E.length := by omega
     subst hkn
     have hr0 := (row?_congr (hS.block w.heap.size (by omega) (by omega))).trans HR0.out
     have HS := Lib.hid hS
     clear hS
     go_wp2_with fail
     refine ret_row w.heap.size (words (nearTo G.E n G.E.length)) rfl Tryz.isAgg51 Tryz.sizeOf51 rfl rfl (row?_setRow_same _ _ _ (by rw [hr0]; rfl)) (by simp only [words_size]) ⟨rfl, ?_⟩
     exact below_setRow (HB1.out.trans (HS.out.below (by omega) fun j hj => by omega)) (Nat.le_refl _) _
end Go.Proofs.YteiibpfabgfolaaGreatDoor
