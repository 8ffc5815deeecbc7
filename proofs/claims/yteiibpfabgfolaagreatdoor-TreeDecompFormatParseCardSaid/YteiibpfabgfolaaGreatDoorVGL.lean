/- Walks of package elimination: walk. -/
import Derived.Test.YteiibpfabgfolaaGreatDoorVGrJ
set_option linter.all false
namespace Go.Pal
open Go
def Closed (f : Nat → Nat) (o : List Nat) : Prop := ∀ x ∈ o, ∀ u, (f x).testBit u = true → u ∈ o
theorem closed_gstep {f : Nat → Nat} {o : List Nat} {x : Nat} (h : Closed f o) (hx : x ∈ o) : Closed (gstep f x) o := by
 intro y hy u hu
 unfold gstep at hu
 split at hu
 · unfold sDel at hu
   rw [Nat.testBit_xor, Nat.testBit_and, Nat.testBit_xor, Nat.testBit_and, Nat.testBit_or] at hu
   cases h1 : (f y).testBit u with
   | true => exact h y hy u h1
   | false =>
     cases h2 : (f x).testBit u with
     | true => exact h x hx u h2
     | false => rw [h1, h2] at hu; simp at hu
 · exact h y hy u hu
theorem closed_gameAt {f : Nat → Nat} {o : List Nat} (h : Closed f o) : ∀ k, k ≤ o.length → Closed (gameAt f o k) o
 | 0, _ => h
 | k + 1, hk => by
   obtain ⟨x, hx⟩ : ∃ x, o[k]? = some x := ⟨_, List.getElem?_eq_getElem hk⟩
   rw [gameAt_succ hx]
   exact closed_gstep (closed_gameAt h k (by omega)) (List.mem_of_getElem? hx)
end Go.Pal
namespace Go.Proofs.YteiibpfabgfolaaGreatDoor
open Go Go.RowKit Go.Pal
attribute [local go_sem] Oper.semAt_some
set_option maxRecDepth 10000 in
set_option maxHeartbeats 4000000 in
theorem ewalk_any (o : List Nat) (g bV bE : Nat) (G : Gr) (hG : G.Ok) (w : World) (Y0 : Nat → Prop) (v : Value) (hv : RdA (fun j => ¬ Y0 j) w v (o.map fun i : Nat => (i : Int))) (h : GOk w g bV bE G)
   (hord : G.ordE (o.map fun i : Nat => (i : Int)) = 0) (hlt : ∀ x ∈ o, x < 1024) (hnd : o.Nodup) (hcl : Closed (fun x => G.near (x : Int)) o) (hlen : o.length ≤ 1024)
   (hT : TabOk w) (hgT : 1 < w.heap.size) (hYT : ¬ Y0 1)
   (fd : Nat) (lbd : Array Value) (eg : ∀ args w, (callFunc fd args).run Tryz.prog w = .ok (.enter fd args) w) (J : Nat → (Nat → Prop) → World → Prop) (hJ : ∀ k Y W W', J k Y W → Same Y W W' → J k Y W') (h0 : J 0 Y0 w) (hY0 : ∀ j, Y0 j → j < w.heap.size)
   (hdo : ∀ (k x : Nat) (Y : Nat → Prop) (W : World) (vc : Value), o[k]? = some x → J k Y W → w.heap.size ≤ W.heap.size → Calls Tryz.prog fd (#[.int .i64 (k : Int), .agg (bagA ((x : Int), gameAt (fun x => G.near (x : Int)) o k x)), vc] ++ lbd) W fun e W' => e = .returned (.tuple #[]) ∧ ∃ Y', J (k + 1) Y' W' ∧ (∀ j, Y' j → (Y j ∨ W.heap.size ≤ j) ∧ j < W'.heap.size) ∧ Same (fun j => ¬ Y j) W W') :
   Calls Tryz.prog 89 #[.pointer (some ⟨g, 0, none⟩), v, .func (.func fd) #[] lbd] w fun e w' => e = .returned (.int .i64 0) ∧ ∃ Y, J o.length Y w' ∧ (∀ j, Y j → Y0 j ∨ w.heap.size ≤ j) ∧ Same (fun j => j < w.heap.size ∧ ¬ Y0 j) w w' := by
 obtain ⟨f0, hf0⟩ : ∃ f0 : Nat → Nat, f0 = fun x : Nat => G.near (x : Int) := ⟨_, rfl⟩
 rw [← hf0] at hcl hdo
 have hs0 : ∀ u, IsSet (f0 u) := by rw [hf0]; exact fun u => hG.isSet_near _
 have HG := Lib.hid hG
 have HV := Lib.hid hv
 have H0 := Lib.hid h
 have HCL := Lib.hid hcl
 have HND := Lib.hid hnd
 have HDo := Lib.hid hdo
 have HJ := Lib.hid hJ
 have HJ0 := Lib.hid h0
 have HTab := Lib.hid hT
 have HLT := Lib.hid hlt
 have HF0 := Lib.hid hf0
 have HS0 := Lib.hid hs0
 have HEC := Lib.hid (echeck_any _ v g bV bE G hG w hv.rdl h (by simp; omega))
 rw [hord] at HEC
 have hmm := @run_makeMap Tryz.prog
 obtain ⟨a, c, rfl⟩ := hv.sl
 rw [List.length_map] at HV HEC ⊢
 clear hG hv h hcl hnd hdo hJ h0 hT hlt hf0 hs0 hord
 refine calls_of_wp_marks Tryz.func89 rfl ?_
 simp only [Tryz.ntmps89, List.size_toArray, List.length_cons, List.length_nil, Nat.reduceAdd, Nat.reduceSub, Array.replicate_succ, Array.replicate_zero, List.push_toArray, List.append_toArray, List.nil_append, List.cons_append]
 go_wp2_with fail
 refine HEC.out.mono ?_
 rintro e w1 ⟨rfl, hb1⟩
 have HB1 := Lib.hid hb1
 have hs1 := hb1.size
 clear hb1 HEC
 go_wp2_with fail
 obtain ⟨bN, hbN⟩ : ∃ bN, bN = w1.heap.size := ⟨_, rfl⟩
 generalize hW2 : World.alloc (World.alloc w1 _) _ = W2
 have hs2 : W2.heap.size = w1.heap.size + 2 := by rw [← hW2]; simp
 have hB2 : Below w.heap.size w W2 := by
   rw [← hW2]
   exact HB1.out.trans (((Below.refl _ w1).alloc hs1 _).alloc (by simp; omega) _)
 have hN2 : Pal.Own CN Tryz.prog 3 W2 bN (mp f0 (o.take 0)) := by
   rw [← hW2, hbN]
   exact (Pal.Own.made w1).below (((Below.refl (w1.heap.size + 1) _).alloc (by simp) _)) (by omega)
 have hr2 : row? W2 (bN + 1) = some #[.map (some bN)] := by rw [← hW2, hbN]; exact row?_alloc_at _ _ _ _ (by simp)
 rw [← hbN] at hs1 hs2 ⊢
 have HB2 := Lib.hid hB2
 have HN2 := Lib.hid hN2
 have HR2 := Lib.hid hr2
 clear hW2 hB2 hN2 hr2 hbN HB1 hmm
 go_loopw [27] (fun i wr => ∃ k : Nat, k ≤ o.length ∧ i = .int .i64 (k : Int) ∧ Pal.Own CN Tryz.prog 3 wr bN (mp f0 (o.take k)) ∧ Same (fun j => j ≠ bN) W2 wr) (fun i _ => o.length - (intOf i).toNat)
 case atStart => exact ⟨0, by omega, rfl, HN2.out, Same.refl _ _⟩
 case round =>
   obtain ⟨k, hk, rfl, hN, hS⟩ := hrel
   have hsz := hS.size
   have hbr : Below w.heap.size w wr := HB2.out.trans (hS.below (by omega) fun j hj => by omega)
   have hr8 := (row?_congr (hS.block (bN + 1) (by omega) (by omega))).trans HR2.out
   by_cases hltk : k < o.length
   · obtain ⟨x, hx⟩ : ∃ x, o[k]? = some x := ⟨_, List.getElem?_eq_getElem hltk⟩
     obtain ⟨b, off, c', z, hv', hz, hc⟩ := HV.out.rdl.at (k := k) (by simp; omega)
     rw [List.getElem?_map, hx] at hz
     cases hz
     simp only [Value.slice.injEq, List.length_map] at hv'
     obtain ⟨rfl, -, rfl⟩ := hv'
     have hcell := hc wr hbr
     have c8 := cell?_row (i := 0) hr8
     simp at c8
     have HX := Lib.hid hx
     have HN := Lib.hid hN
     have HS := Lib.hid hS
     have HBr := Lib.hid hbr
     have hl8 := row?_lt hr8
     have HNb := Lib.hid fun W hb => gneighbors_any (x : Int) g bV bE G HG.out W (H0.out.below hb)
     clear hc hx hN hS hbr hr8
     go_wp2_with fail
     refine wp_region_free_tail (fun W => Below wr.heap.size wr W) 5 (by kernel_rfl) (by kernel_rfl) (Below.refl _ _).drew ?_
     simp only [List.take_succ_cons, List.take_zero, List.drop_succ_cons, List.drop_zero]
     repeat (apply wpFree_still; (intro w hw; have c9 := (hw.cell (p := ⟨bN + 1, 0, none⟩) hl8).trans c8; clear hw; go_simp; (try go_ints); (first | with_reducible rfl | (go_simp; with_reducible rfl))); with_reducible rfl; (intro K hK; go_simp; (try go_ints); refine hK _ ?_; clear hK K))
     apply wpFree_call
     · intro w hw; go_simp; first | with_reducible rfl | with_reducible exact ⟨rfl, rfl⟩
     · with_reducible rfl
     · intro w hw; exact (HNb.out w (HBr.out.trans (hw.mono HBr.out.size))).mono fun e w' ⟨h1, h2⟩ => ⟨h1, hw.trans (h2.mono hw.size)⟩
     intro K hK; go_simp; (try go_ints); refine hK _ ?_; clear hK K
     with_reducible refine wpFree_nil ?_
     intro w' hb'
     have hx1 := HLT.out x (List.mem_of_getElem? HX.out)
     refine wpList_putOwn rfl _ _ _ _ rfl goodN Tryz.underlying164 bN _ (mp f0 (o.take (k + 1))) rfl (HN.out.below hb' (by omega)) (x : Int) (toBS (f0 x)) rfl ?_ (by show InI _; unfold InI; omega) (mp_snoc HND.out HX.out) (by rw [mp_length, List.length_take]; omega) ?_
     · show _ = Value.agg (words (toBS (f0 x)).1)
       rw [toBS_val (HS0.out x), HF0.out]
       rfl
     intro w3 hown hgr hsz3
     have HS3 := Lib.hid (HS.out.trans (((Same.of_below hb').mono fun j hj _ => hj).trans ((same_grown hgr).mono fun j _ hj => by simpa using hj)))
     have HN3 := Lib.hid hown
     clear hgr hown hb' HNb
     go_wp2_with fail
     go_roundw
     case rel => exact ⟨k + 1, by omega, by go_num, HN3.out, HS3.out⟩
     case measure => simp [intOf]; omega
   · have hkn : k = o.length := by omega
     subst hkn
     rw [List.take_length] at hN
     have HN := Lib.hid hN
     have HS := Lib.hid hS
     have HBr := Lib.hid hbr
     have HR8 := Lib.hid hr8
     have HJ0r := Lib.hid (HJ.out 0 Y0 w wr HJ0.out ⟨hbr.os, hbr.tape, hbr.output, hbr.size, fun j hj _ => hbr.block j hj⟩)
     clear hN hS hbr hr8 hk hltk
     go_wp2_with fail
     obtain ⟨W3, rfl⟩ : ∃ W3, W3 = wr := ⟨wr, rfl⟩
     refine wp_loop (fun a' W => ∃ (ds : List Deferred) (Y : Nat → Prop) (k : Nat) (v11 v12 v13 v14 v40 v41 v42 v43 v44 v45 v46 v47 v48 v49 v50 v51 v71 v72 v73 v87 v88 v89 v90 v91 v92 : Value), a' = ⟨#[.pointer (some ⟨g, 0, none⟩), .slice a o.length c, .func (.func fd) #[] lbd, undef, undef, undef, .int .i64 0, .int .i64 0, .pointer (some ⟨bN + 1, 0, none⟩), undef, u10, v11, v12, v13, v14, undef, undef, undef, .slice a o.length c, .pointer (some ⟨g, 0, none⟩), .int .i64 0, .int .i64 0, .bool false, undef, .map (some bN), .slice a o.length c, .int .i64 (o.length : Int), .int .i64 (o.length : Int), .bool false, u29, u30, u31, u32, u33, u34, u35, u36, .slice a o.length c, .int .i64 (o.length : Int), .int .i64 ((k : Nat) : Int), v40, v41, v42, v43, v44, v45, v46, v47, v48, v49, v50, v51, undef, undef, undef, undef, undef, undef, undef, undef, undef, undef, undef, undef, undef, undef, undef, undef, undef, undef, undef, v71, v72, v73, undef, undef, undef, undef, undef, undef, undef, undef, undef, undef, undef, undef, undef, v87, v88, v89, v90, v91, v92], ds⟩ ∧ k ≤ o.length ∧ J k Y W ∧ (∀ j, Y j → (Y0 j ∨ w.heap.size ≤ j) ∧ j < W.heap.size) ∧ ¬ Y bN ∧ ¬ Y (bN + 1) ∧ Pal.Own CN Tryz.prog 3 W bN (mp (gameAt f0 o k) o) ∧ row? W (bN + 1) = some #[.map (some bN)] ∧ Marks (bN + 2) ds W ∧ (∀ D, ({ target := .collected D, args := #[] } : Deferred) ∈ ds → ¬ Y D) ∧ Same (fun j => j < w.heap.size ∧ ¬ Y0 j) w W ∧ bN + 2 ≤ W.heap.size) (fun a' _ => o.length - (intOf (a'.tmps.getD 39 undef)).toNat) ?start ?round2
     case start =>
       refine ⟨[], Y0, 0, _, _, _, _, _, _, _, _, _, _, _, _, _, _, _, _, _, _, _, _, _, _, _, _, _, rfl, by omega, HJ0r.out, fun j hj => ⟨.inl hj, by have := hY0 j hj; omega⟩, fun hy => by have := hY0 _ hy; omega, fun hy => by have := hY0 _ hy; omega, HN.out, HR8.out, trivial, by simp, (Same.of_below HBr.out).mono fun j _ hj => hj.1, by omega⟩
     case round2 =>
       rintro a' W ⟨ds, Y, k, v11, v12, v13, v14, v40, v41, v42, v43, v44, v45, v46, v47, v48, v49, v50, v51, v71, v72, v73, v87, v88, v89, v90, v91, v92, rfl, hk, hJk, hYk, hYN, hYM, hN, hr8, hM, hMY, hSw, hszN⟩
       by_cases hltk : k < o.length
       · obtain ⟨x, hx⟩ : ∃ x, o[k]? = some x := ⟨_, List.getElem?_eq_getElem hltk⟩
         have hxm := List.mem_of_getElem? hx
         have hx1 := HLT.out x hxm
         obtain ⟨f, hf⟩ : ∃ f, f = gameAt f0 o k := ⟨_, rfl⟩
         have hfs : ∀ u, IsSet (f u) := by rw [hf]; exact isSet_gameAt HS0.out o k
         have hfc : Closed f o := by rw [hf]; exact closed_gameAt HCL.out k hk
         rw [← hf] at hN
         obtain ⟨b, off, c', z, hv', hz, hc⟩ := (HV.out.keep (A' := fun _ => True) hSw.size fun j hj hA => ⟨hSw.block j hj ⟨hj, hA⟩, trivial⟩).rdl.at (k := k) (by simp; omega)
         rw [List.getElem?_map, hx] at hz
         cases hz
         simp only [Value.slice.injEq, List.length_map] at hv'
         obtain ⟨rfl, -, rfl⟩ := hv'
         have hcell := hc W (Below.refl _ _)
         have c8 := fun o => (cell?_row (i := 0) ((row?_alloc_past W o _ (row?_lt hr8)).trans hr8)).trans rfl
         have hlk := fun o => (hN.below ((Below.refl W.heap.size W).alloc (Nat.le_refl _) o) hN.lt).look goodN Tryz.underlying164 (b0 := ⟨0, isSet_zero⟩) (fun w => zeroSet w) (x := (x : Int)) (by show InI _; unfold InI; omega)
         rw [look_mp hxm] at hlk
         have hlk2 : ∀ o, (Instr.lookup 164 (.map (some bN)) (.int .i64 (x : Int)) false).run Tryz.prog (W.alloc o) = .ok (.agg (words (f x))) (W.alloc o) := fun o => by
           have := hlk o
           simp only [CN, Option.getD_some, toBS_val (hfs x)] at this
           exact this
         have hl8 := row?_lt hr8
         have HX := Lib.hid hx
         have HJk := Lib.hid hJk
         have HYk := Lib.hid hYk
         have HY := Lib.hid (And.intro hYN hYM)
         have HNk := Lib.hid hN
         have HR8k := Lib.hid hr8
         have HMk := Lib.hid hM
         have HMY := Lib.hid hMY
         have HSw := Lib.hid hSw
         have HF := Lib.hid hf
         have HFS := Lib.hid hfs
         have HFC := Lib.hid hfc
         clear hx hJk hYk hYN hYM hN hr8 hM hMY hSw hf hfs hfc hc hlk
         go_wp2_with (first | (refine wpList_bStep rfl _ _ rfl (x : Int) (f x) rfl rfl ?_))
         refine (all_any (f x) _).mono ?_
         rintro e w5 ⟨rfl, hw5⟩
         have hs5 : w5.heap.size = W.heap.size + 4 := by rw [← hw5]; simp
         have hB5 : Below W.heap.size W w5 := by
           rw [← hw5]
           exact ((((Below.refl _ W).alloc (Nat.le_refl _) _).alloc (by simp) _).alloc (by simp; omega) _).alloc (by simp; omega) _
         have h12 : row? w5 W.heap.size = some #[.int .i64 (x : Int)] := by
           rw [← hw5, row?_alloc_past _ _ _ (by first | (simp; done) | (simp; omega)), row?_alloc_past _ _ _ (by first | (simp; done) | (simp; omega)), row?_alloc_past _ _ _ (by first | (simp; done) | (simp; omega))]
           exact row?_alloc_at _ _ _ _ rfl
         have h13 : row? w5 (W.heap.size + 1) = some (bagA ((x : Int), f x)) := by
           rw [← hw5, row?_alloc_past _ _ _ (by first | (simp; done) | (simp; omega)), row?_alloc_past _ _ _ (by first | (simp; done) | (simp; omega))]
           exact row?_alloc_at _ _ _ _ (by first | (simp; done) | (simp; omega))
         have h14 : row? w5 (W.heap.size + 1 + 1) = some #[.slice none 0 0] := by
           rw [← hw5, row?_alloc_past _ _ _ (by first | (simp; done) | (simp; omega))]
           exact row?_alloc_at _ _ _ _ (by first | (simp; done) | (simp; omega))
         have h15 : row? w5 (W.heap.size + 1 + 1 + 1) = some (words (f x)) := by
           rw [← hw5]
           exact row?_alloc_at _ _ _ _ (by first | (simp; done) | (simp; omega))
         have hN5 := HNk.out.below hB5 HNk.out.lt
         have hr85 := (row?_below hB5 hl8).trans HR8k.out
         have hT5 : TabOk w5 := (HTab.out.same (HSw.out.block _ hgT ⟨hgT, hYT⟩)).same (hB5.block _ (by have := HSw.out.size; omega))
         have H12 := Lib.hid h12
         have H13 := Lib.hid h13
         have H14 := Lib.hid h14
         have H15 := Lib.hid h15
         have HB5 := Lib.hid hB5
         have HN5 := Lib.hid hN5
         have HR85 := Lib.hid hr85
         have HT5 := Lib.hid hT5
         have hsw := HSw.out.size
         simp only [World.size_alloc]
         clear hw5 hB5 h12 h13 h14 h15 hN5 hr85 hT5 c8 hlk2 hcell
         go_wp2_with fail
         refine (wpIn_wide (n := 0)).1 ?_
         refine wpIn_range_box 1 15 3 rfl (fun args w => by simp [go_sem]) (by omega) (enc := fun n : Nat => .int .i64 (n : Int)) (xs := elems (f x))
           (fun W' hW' _ => all1_iterates (W.heap.size + 1 + 1 + 1) (f x) (HFS.out x) W' ((row?_below hW' (by omega)).trans H15.out) (HT5.out.below hW' (by omega)) (by have := hW'.size; omega))
           (fun M pre Wc => ∃ v l, row? Wc (W.heap.size + 1 + 1) = some #[v] ∧ OwnP M Wc v l ∧ l.length ≤ pre.length * 1024 ∧ Same (fun j => j < w5.heap.size ∧ j ≠ W.heap.size + 1 + 1) w5 Wc) ?_ ?_ ?_ ?_ ?_
         · rintro M pre Wa Wb hM hMW ⟨v, l, hrv, hO, hll, hS⟩ hsame
           exact ⟨v, l, (row?_congr (hsame.block _ (row?_lt hrv) (.inl (by omega)))).trans hrv, hO.same fun j hj => hsame.block j (hO.lt j hj) (.inr (hO.block j hj)), hll, hS.trans (hsame.mono fun j _ h => .inl h.1)⟩
         · intro M Wa _ _ hb
           exact ⟨_, [], (row?_below hb (by omega)).trans H14.out, OwnR.nil _ _, by simp, (Same.of_below hb).mono fun j _ h => h.1⟩
         · intro l y Wa K hK
           gi_wp2
           exact hK
         · rintro l M pre u bx W6 hM1 hM2 hl1 hl2 hrec ⟨v, lst, hrv, hOv, hll, hS6⟩ hMbx hbx ⟨r, hr⟩
           have hum : u ∈ elems (f x) := by rw [hr]; simp
           have hux : (f x).testBit u = true := (mem_elems (HFS.out x)).1 hum
           have huo : u ∈ o := HFC.out x hxm u hux
           have hu1 : u < 1024 := elems_lt hum
           have hprl : pre.length < 1024 := by have := elemsI_length (f x); unfold elemsI at this; rw [List.length_map, hr] at this; simp at this; omega
           have hb6s := row?_lt hbx
           have hs6 := hS6.size
           have h13' := (row?_congr (hS6.block (W.heap.size + 1) (by omega) ⟨by omega, by omega⟩)).trans H13.out
           have hr8' := (row?_congr (hS6.block (bN + 1) (by omega) ⟨by omega, by omega⟩)).trans HR85.out
           have hN6 := HN5.out.congr (hS6.block bN (by omega) ⟨by omega, by omega⟩)
           have HRW := Lib.hid fun W' (hw : Below W6.heap.size W6 W') => show row? W' (W.heap.size + 1) = some (bagA ((x : Int), f x)) ∧ W'.cell? ⟨bx, 0, none⟩ = some (.int .i64 (u : Int)) ∧ W'.cell? ⟨bN + 1, 0, none⟩ = some (.map (some bN)) ∧ (Instr.lookup 164 (.map (some bN)) (.int .i64 (u : Int)) false).run Tryz.prog W' = .ok (.agg (words (f u))) W' from
             ⟨(row?_below hw (by omega)).trans h13', (cell?_row (i := 0) ((row?_below hw hb6s).trans hbx)).trans rfl, (cell?_row (i := 0) ((row?_below hw (by omega)).trans hr8')).trans rfl, by
               have := (hN6.below hw hN6.lt).look goodN Tryz.underlying164 (b0 := ⟨0, isSet_zero⟩) (fun w => zeroSet w) (x := (u : Int)) (by show InI _; unfold InI; omega)
               rw [look_mp huo] at this
               simpa only [CN, Option.getD_some, toBS_val (HFS.out u)] using this⟩
           have hbxv : v.ownBlock ≠ some bx := by
             intro e
             rcases hOv.2 with ⟨rfl, _⟩ | ⟨g', cap, cur, rfl, hgM, hgh, _, _, hsz, _⟩
             · cases e
             · simp only [Value.ownBlock, Option.some.injEq] at e
               subst e
               obtain ⟨t, ht⟩ := row?_some hbx
               rw [ht] at hgh
               simp only [Option.some.injEq, Obj.cells.injEq] at hgh
               rw [← hgh.1] at hsz
               simp at hsz
               omega
           have e1 : ((u + 1 : Nat) : Int) = (u : Int) + 1 := by omega
           have hbel := fun W' => belowS_any (u + 1) W' (by omega)
           simp only [e1] at hbel
           have HBel := Lib.hid hbel
           have HO6 := Lib.hid hOv
           have HR6 := Lib.hid hrv
           have HS6 := Lib.hid hS6
           have HBX := Lib.hid hbx
           have HRec := Lib.hid hrec
           have HBXV := Lib.hid hbxv
           have HRR := Lib.hid hr
           clear h13' hr8' hN6 hbel e1 hOv hrv hS6 hbx hrec hr hum hux huo hbxv
           gi_wp2_with fail
           refine wpIn_round_free_tail (fun W' => Below W6.heap.size W6 W') 10 (by kernel_rfl) (by kernel_rfl) (by kernel_rfl) (by rintro ⟨a', w', h'⟩; exact h') (Below.refl _ _).drew ?_
           simp only [List.take_succ_cons, List.take_zero, List.drop_succ_cons, List.drop_zero]
           repeat (apply wpFree_still; (intro w hw; obtain ⟨k1, k2, k3, k4⟩ := HRW.out w hw; clear hw; go_simp; (try go_ints); (first | with_reducible rfl | (go_simp; with_reducible rfl))); with_reducible rfl; (intro K hK; go_simp; (try go_ints); refine hK _ ?_; clear hK K))
           apply wpFree_call
           · intro w hw; go_simp; first | with_reducible rfl | with_reducible exact ⟨rfl, rfl⟩
           · with_reducible rfl
           · intro w hw; exact (HBel.out w).mono fun e w' ⟨h1, h2⟩ => ⟨h1, hw.trans (h2.mono hw.size)⟩
           intro K hK; go_simp; (try go_ints); refine hK _ ?_; clear hK K
           apply wpFree_call
           · intro w hw; go_simp; first | with_reducible rfl | with_reducible exact ⟨rfl, rfl⟩
           · with_reducible rfl
           · intro w hw; exact (minus_any (f x) (belS (u + 1)) w).mono fun e w' ⟨h1, h2⟩ => ⟨h1, hw.trans (h2.mono hw.size)⟩
           intro K hK; go_simp; (try go_ints); refine hK _ ?_; clear hK K
           repeat (apply wpFree_still; (intro w hw; obtain ⟨k1, k2, k3, k4⟩ := HRW.out w hw; clear hw; go_simp; (try go_ints); (first | with_reducible rfl | (go_simp; with_reducible rfl))); with_reducible rfl; (intro K hK; go_simp; (try go_ints); refine hK _ ?_; clear hK K))
           apply wpFree_call
           · intro w hw; go_simp; first | with_reducible rfl | with_reducible exact ⟨rfl, rfl⟩
           · with_reducible rfl
           · intro w hw; exact (minus_any (sDiff (f x) (belS (u + 1))) (f u) w).mono fun e w' ⟨h1, h2⟩ => ⟨h1, hw.trans (h2.mono hw.size)⟩
           intro K hK; go_simp; (try go_ints); refine hK _ ?_; clear hK K
           with_reducible refine wpFree_nil ?_
           intro w' hb'
           have hT6 : IsSet (sDiff (sDiff (f x) (belS (u + 1))) (f u)) := isSet_diff (isSet_diff (HFS.out x))
           obtain ⟨T, hTd⟩ : ∃ T, T = sDiff (sDiff (f x) (belS (u + 1))) (f u) := ⟨_, rfl⟩
           rw [← hTd] at hT6 ⊢
           have HT6 := Lib.hid hT6
           have HB' := Lib.hid hb'
           have hs' := hb'.size
           clear hTd hT6 hb'
           go_wp2_with fail
           refine (all_any T w').mono ?_
           rintro e w7 ⟨rfl, hw7⟩
           have hs7 : w7.heap.size = w'.heap.size + 1 := by rw [← hw7]; simp
           have hB7 : Below W6.heap.size W6 w7 := by
             rw [← hw7]
             exact HB'.out.trans ((Below.refl _ w').alloc hs' _)
           have h7 : row? w7 w'.heap.size = some (words T) := by rw [← hw7]; exact row?_alloc_at _ _ _ _ rfl
           have hrec7 : ∃ r, w7.heap[l]? = some (.loop r) := by
             obtain ⟨r0, hr0⟩ := HRec.out
             exact ⟨r0, (hB7.block l (by omega)).trans hr0⟩
           have hT7 : TabOk w7 := (HT5.out.same (HS6.out.block _ (by omega) ⟨by omega, by omega⟩)).same (hB7.block _ (by omega))
           have H7 := Lib.hid h7
           have HB7 := Lib.hid hB7
           have HT7 := Lib.hid hT7
           clear hw7 hB7 h7 hT7
           go_wp2_with fail
           gi_wp2_with fail
           refine wpIn_rangeN_set 1 16 l hrec7 rfl (fun args w => by simp [go_sem]) (by omega) (enc := fun n : Nat => .int .i64 (n : Int)) (xs := elems T)
             (fun W' hW' _ => all1_iterates w'.heap.size T HT6.out W' ((row?_below hW' (by omega)).trans H7.out) (HT7.out.below hW' (by omega)) (by have := hW'.size; omega))
             (fun M' pre2 Wc => ∃ v l2, row? Wc (W.heap.size + 1 + 1) = some #[v] ∧ OwnP M Wc v l2 ∧ (∀ j, v.ownBlock = some j → (j < w7.heap.size ∨ M' ≤ j) ∧ j ≠ bx) ∧ l2.length ≤ pre.length * 1024 + pre2.length ∧ Same (fun j => (j < M ∧ j ≠ W.heap.size + 1 + 1) ∨ j = bx) w7 Wc) ?_ ?_ ?_ ?_ ?_
           · rintro M' pre2 Wa Wb hM' hMW' ⟨v, l2, hrv, hO, hsep, hll2, hS⟩ hsame
             exact ⟨v, l2, (row?_congr (hsame.block _ (row?_lt hrv) (.inl (by omega)))).trans hrv, hO.same fun j hj => hsame.block j (hO.lt j hj) (hsep j hj).1, hsep, hll2, hS.trans (hsame.mono fun j _ h => .inl (by omega))⟩
           · intro M' Wa _ _ hb
             exact ⟨v, lst, (row?_below hb (by omega)).trans ((row?_below HB7.out (row?_lt HR6.out)).trans HR6.out), (HO6.out.below HB7.out (Nat.le_refl _)).below hb (Nat.le_refl _), fun j hj => ⟨.inl (by have := HO6.out.lt j hj; omega), fun e => HBXV.out (by rw [hj, e])⟩, by simpa using hll, (Same.of_below hb).mono fun j hj _ => hj⟩
           · intro l' y Wa K hK
             gi_wp2
             exact hK
           · rintro l' M' pre2 y W8 hM1' hM2' ⟨v2, l2, hrv2, hO2, hsep, hll2, hS8⟩ ⟨r2, hr2⟩
             have hp2 : pre2.length < 1024 := by have := elemsI_length T; unfold elemsI at this; rw [List.length_map, hr2] at this; simp at this; omega
             obtain ⟨qa, qc, rfl⟩ := hO2.sl
             have hs78 := hS8.size
             have hs67 := HB7.out.size
             have hbx8 := (row?_congr (hS8.block bx (by omega) (.inr rfl))).trans ((row?_below HB7.out hb6s).trans HBX.out)
             have c14 := cell?_row (i := 0) hrv2
             have cbx := cell?_row (i := 0) hbx8
             simp at c14 cbx
             have hl14 := row?_lt hrv2
             have HRV2 := Lib.hid hrv2
             have HO2 := Lib.hid hO2
             have HSEP := Lib.hid hsep
             have HS8 := Lib.hid hS8
             clear hrv2 hO2 hsep hS8 hbx8 hr2
             gi_wp2_with (gi_at_builtin; refine wpListIn_appO elP 137 Tryz.underlying137 rfl _ _ rfl M _ l2 rfl (HO2.out.alloc _) _ ((u : Int), (y : Int)) _ rfl (row?_alloc_at _ _ _ _ rfl) (by omega) (by simp; omega) ?_)
             intro v9 w9 hO9 hb9 hg9 hl9
             have hs9 : W8.heap.size ≤ w9.heap.size := by have := hg9.size; simp at this; omega
             have hk9 : ∀ j, j < W8.heap.size → (Value.slice qa l2.length qc).ownBlock ≠ some j → w9.heap[j]? = W8.heap[j]? := fun j hj hne => (hg9.block j (by simp; omega) (fun e => hne e.symm)).trans (Below.heap_alloc _ _ _ hj)
             have hne14 : (Value.slice qa l2.length qc).ownBlock ≠ some (W.heap.size + 1 + 1) := fun e => by have := HO2.out.block _ e; omega
             have hr9 := (row?_congr (hk9 _ hl14 hne14)).trans HRV2.out
             have hfz9 := frozen?_row (i := 0) hr9
             have k9 := cell?_row (i := 0) hr9
             simp at k9
             have hlt9 := row?_lt hr9
             have hsep9 : ∀ j, v9.ownBlock = some j → (j < w7.heap.size ∨ M' ≤ j) ∧ j ≠ bx := fun j hj => by
               rcases hl9 with e | e
               · exact HSEP.out j (e ▸ hj)
               · rw [e] at hj
                 simp at hj
                 omega
             have hS9 : Same (fun j => j ≠ W.heap.size + 1 + 1 ∧ (Value.slice qa l2.length qc).ownBlock ≠ some j) W8 w9 := ⟨hb9.os, hb9.tape, hb9.output, hs9, fun j hj h => hk9 j hj h.2⟩
             obtain ⟨q9, c9, rfl⟩ := hO9.sl
             have HR9 := Lib.hid hr9
             have HO9 := Lib.hid hO9
             have HSEP9 := Lib.hid hsep9
             have HS9 := Lib.hid hS9
             clear hO9 hb9 hg9 hl9 hr9 hk9 hsep9 hS9 hne14 c14 cbx
             gi_wp2_with fail
             refine ⟨⟨_, ⟨_, HR9.out, rfl⟩, l2 ++ [((u : Int), (y : Int))], ?_, ?_, by simp; omega, ?_⟩, ?_⟩
             · have hO9 := HO9.out
               rw [List.length_append] at hO9
               exact hO9.same fun j hj => heap_setCell_other _ _ j _ (by have := hO9.block j hj; show j ≠ W.heap.size + 1 + 1; omega)
             · intro j hj
               have := HSEP9.out j (by rw [List.length_append]; exact hj)
               rw [hs7] at this
               exact this
             · exact HS8.out.trans ((HS9.out.mono fun j _ h => ⟨by omega, fun e => by
                 have h1 := HO2.out.block j e
                 have h2 := HSEP.out j e
                 omega⟩).trans (Same.setCell _ _ _ _ (by simp; omega)))
             · exact (HS9.out.mono fun j _ h => ⟨by omega, fun e => by
                 have h1 := HO2.out.block j e
                 have h2 := HSEP.out j e
                 omega⟩).trans (Same.setCell _ _ _ _ (by simp; omega))
           · intro M' W8 hM' hMW' ⟨v2, l2, hrv2, hO2, hsep, hll2, hS8⟩
             have HRV2 := Lib.hid hrv2
             clear hrv2
             gi_wp2_with fail
             refine ⟨⟨v2, HRV2.out, l2, hO2, by have := elemsI_length T; unfold elemsI at this; rw [List.length_map] at this; (try simp); omega, ?_⟩, ?_⟩
             · exact (HS6.out.trans (((Same.of_below HB7.out).mono fun j hj _ => hj).trans (hS8.mono fun j _ h => .inl ⟨by omega, h.2⟩))).mono fun j _ h => ⟨by omega, h.2⟩
             · exact ((Same.of_below HB7.out).mono fun j hj _ => hj).trans (hS8.mono fun j _ h => .inl ⟨by omega, by omega⟩)
         · rintro D M W6 hD1 hD2 hM ⟨v, lst, hrv, hO, hll, hS6⟩ hK
           have hs6 := hS6.size
           have h136 := (row?_congr (hS6.block (W.heap.size + 1) (by omega) ⟨by omega, by omega⟩)).trans H13.out
           have HK := Lib.hid hK
           have HRV := Lib.hid hrv
           have HS6 := Lib.hid hS6
           have H136 := Lib.hid h136
           have hl13 := row?_lt h136
           clear hrv hO hll hS6 hK
           go_wp2_with fail
           refine (all_any (f x) _).mono ?_
           rintro e w7 ⟨rfl, hw7⟩
           have hs7 : w7.heap.size = W6.heap.size + 1 := by rw [← hw7]; simp
           have hB7 : Below W6.heap.size W6 w7 := by
             rw [← hw7]
             exact (Below.refl _ W6).alloc (Nat.le_refl _) _
           have h7 : row? w7 W6.heap.size = some (words (f x)) := by rw [← hw7]; exact row?_alloc_at _ _ _ _ rfl
           have hS67 : Same (fun j => j < w5.heap.size ∧ j ≠ W.heap.size + 1 + 1) w5 w7 := HS6.out.trans ((Same.of_below hB7).mono fun j hj _ => hj)
           have hT7 : TabOk w7 := HT5.out.same (hS67.block _ (by omega) ⟨by omega, by omega⟩)
           have h127 := (row?_congr (hS67.block W.heap.size (by omega) ⟨by omega, by omega⟩)).trans H12.out
           have h137 := (row?_below hB7 hl13).trans H136.out
           have h147 := (row?_below hB7 (row?_lt HRV.out)).trans HRV.out
           have hr87 := (row?_congr (hS67.block (bN + 1) (by omega) ⟨by omega, by omega⟩)).trans HR85.out
           have hN7 := HN5.out.congr (hS67.block bN (by omega) ⟨by omega, by omega⟩)
           have hK7 : w7.heap[D]? = some (.deferred (some [])) := (hB7.block D (by omega)).trans HK.out
           have H7 := Lib.hid h7
           have HT7 := Lib.hid hT7
           have H127 := Lib.hid h127
           have H137 := Lib.hid h137
           have H147 := Lib.hid h147
           have HR87 := Lib.hid hr87
           have HN7 := Lib.hid hN7
           have HK7 := Lib.hid hK7
           have HS67 := Lib.hid hS67
           clear hw7 hB7 h7 hT7 h136 h127 h137 h147 hr87 hN7 hK7 hS67
           go_wp2_with fail
           refine (wpIn_wide (n := 0)).1 ?_
           refine wpIn_range_set 1 17 rfl (fun args w => by simp [go_sem]) (by omega) (enc := fun n : Nat => .int .i64 (n : Int)) (xs := elems (f x))
             (fun W' hW' _ => all1_iterates W6.heap.size (f x) (HFS.out x) W' ((row?_below hW' (by omega)).trans H7.out) (HT7.out.below hW' (by omega)) (by have := hW'.size; omega))
             (fun M pre Wc => Pal.Own CN Tryz.prog 3 Wc bN (mp (gpart f x pre) o) ∧ Same (fun j => j < w7.heap.size ∧ j ≠ bN) w7 Wc) ?_ ?_ ?_ ?_ ?_
           · rintro M pre Wa Wb hM hMW ⟨hNa, hS⟩ hsame
             exact ⟨hNa.congr (hsame.block bN hNa.lt (.inl (by omega))), hS.trans (hsame.mono fun j _ h => .inl h.1)⟩
           · intro M Wa _ _ hb
             refine ⟨?_, (Same.of_below hb).mono fun j _ h => h.1⟩
             rw [gpart_nil]
             exact HN7.out.congr (hb.block bN (by omega))
           · intro l y Wa K hK
             gi_wp2
             exact hK
           · rintro l M pre u W8 hM1 hM2 ⟨hN8, hS8⟩ ⟨r, hr⟩
             have hum : u ∈ elems (f x) := by rw [hr]; simp
             have hux : (f x).testBit u = true := (mem_elems (HFS.out x)).1 hum
             have huo : u ∈ o := HFC.out x hxm u hux
             have hu1 : u < 1024 := elems_lt hum
             have hup : u ∉ pre := by
               intro hm
               have hs := elems_sorted (f x)
               rw [hr, List.pairwise_append] at hs
               have := hs.2.2 u hm u (by simp)
               omega
             have hs8 := hS8.size
             have hgs := isSet_gpart (f := f) HFS.out x pre u
             have h138 := (row?_congr (hS8.block (W.heap.size + 1) (by omega) ⟨by omega, by omega⟩)).trans H137.out
             have h128 := (row?_congr (hS8.block W.heap.size (by omega) ⟨by omega, by omega⟩)).trans H127.out
             have hr88 := (row?_congr (hS8.block (bN + 1) (by omega) ⟨by omega, by omega⟩)).trans HR87.out
             obtain ⟨gu, hgu⟩ : ∃ gu, gu = gpart f x pre u := ⟨_, rfl⟩
             rw [← hgu] at hgs
             have HRW := Lib.hid fun W' (hw : Below W8.heap.size W8 W') => show row? W' (W.heap.size + 1) = some (bagA ((x : Int), f x)) ∧ W'.cell? ⟨W.heap.size, 0, none⟩ = some (.int .i64 (x : Int)) ∧ W'.cell? ⟨bN + 1, 0, none⟩ = some (.map (some bN)) ∧ (Instr.lookup 164 (.map (some bN)) (.int .i64 (u : Int)) false).run Tryz.prog W' = .ok (.agg (words gu)) W' from
               ⟨(row?_below hw (by omega)).trans h138, (cell?_row (i := 0) ((row?_below hw (by omega)).trans h128)).trans rfl, (cell?_row (i := 0) ((row?_below hw (by omega)).trans hr88)).trans rfl, by
                 have := (hN8.below hw hN8.lt).look goodN Tryz.underlying164 (b0 := ⟨0, isSet_zero⟩) (fun w => zeroSet w) (x := (u : Int)) (by show InI _; unfold InI; omega)
                 rw [look_mp huo] at this
                 simpa only [CN, Option.getD_some, ← hgu, toBS_val hgs] using this⟩
             have HN8 := Lib.hid hN8
             have HS8 := Lib.hid hS8
             have HUP := Lib.hid hup
             have HGU := Lib.hid hgu
             have HUO := Lib.hid huo
             clear h138 h128 hr88 hN8 hS8 hr hum hux huo hup hgu hgs
             gi_wp2_with fail
             refine wpIn_round_free_tail (fun W' => Below W8.heap.size W8 W') 12 (by kernel_rfl) (by kernel_rfl) (by kernel_rfl) (by rintro ⟨a', w', h'⟩; exact h') (Below.refl _ _).drew ?_
             simp only [List.take_succ_cons, List.take_zero, List.drop_succ_cons, List.drop_zero]
             repeat (apply wpFree_still; (intro w hw; obtain ⟨k1, k2, k3, k4⟩ := HRW.out w hw; clear hw; go_simp; (try go_ints); (first | with_reducible rfl | (go_simp; with_reducible rfl))); with_reducible rfl; (intro K hK; go_simp; (try go_ints); refine hK _ ?_; clear hK K))
             apply wpFree_call
             · intro w hw; go_simp; first | with_reducible rfl | with_reducible exact ⟨rfl, rfl⟩
             · with_reducible rfl
             · intro w hw; exact (union_any gu (f x) w).mono fun e w' ⟨h1, h2⟩ => ⟨h1, hw.trans (h2.mono hw.size)⟩
             intro K hK; go_simp; (try go_ints); refine hK _ ?_; clear hK K
             repeat (apply wpFree_still; (intro w hw; obtain ⟨k1, k2, k3, k4⟩ := HRW.out w hw; clear hw; go_simp; (try go_ints); (first | with_reducible rfl | (go_simp; with_reducible rfl))); with_reducible rfl; (intro K hK; go_simp; (try go_ints); refine hK _ ?_; clear hK K))
             apply wpFree_call
             · intro w hw; go_simp; first | with_reducible rfl | with_reducible exact ⟨rfl, rfl⟩
             · with_reducible rfl
             · intro w hw; exact (without_in (gu ||| f x) u w hu1).mono fun e w' ⟨h1, h2⟩ => ⟨h1, hw.trans (h2.mono hw.size)⟩
             intro K hK; go_simp; (try go_ints); refine hK _ ?_; clear hK K
             repeat (apply wpFree_still; (intro w hw; obtain ⟨k1, k2, k3, k4⟩ := HRW.out w hw; clear hw; go_simp; (try go_ints); (first | with_reducible rfl | (go_simp; with_reducible rfl))); with_reducible rfl; (intro K hK; go_simp; (try go_ints); refine hK _ ?_; clear hK K))
             apply wpFree_call
             · intro w hw; go_simp; first | with_reducible rfl | with_reducible exact ⟨rfl, rfl⟩
             · with_reducible rfl
             · intro w hw; exact (without_in (sDel (gu ||| f x) u) x w hx1).mono fun e w' ⟨h1, h2⟩ => ⟨h1, hw.trans (h2.mono hw.size)⟩
             intro K hK; go_simp; (try go_ints); refine hK _ ?_; clear hK K
             with_reducible refine wpFree_nil ?_
             intro w' hb'
             have hgs : IsSet gu := by rw [HGU.out]; exact isSet_gpart HFS.out x pre u
             have hns : IsSet (sDel (sDel (gu ||| f x) u) x) := isSet_del (isSet_del (isSet_or hgs (HFS.out x)))
             refine wpList_putOwn rfl _ _ _ _ rfl goodN Tryz.underlying164 bN _ (mp (updF (gpart f x pre) u (sDel (sDel (gu ||| f x) u) x)) o) rfl (HN8.out.below hb' HN8.out.lt) (u : Int) (toBS (sDel (sDel (gu ||| f x) u) x)) rfl ?_ (by show InI _; unfold InI; omega) (mp_upd HND.out HUO.out) (by rw [mp_length]; omega) ?_
             · show _ = Value.agg (words (toBS _).1)
               rw [toBS_val hns]
               rfl
             intro w9 hown hgr hsz9
             have hS9 : Same (fun j => j ≠ bN) W8 w9 := ((Same.of_below hb').mono fun j hj _ => hj).trans ((same_grown hgr).mono fun j _ hj => by simpa using hj)
             refine ⟨⟨?_, HS8.out.trans (hS9.mono fun j _ h => h.2)⟩, hS9.mono fun j _ h => by omega⟩
             rw [gpart_snoc HUP.out, ← HGU.out]
             exact hown
           · rintro D2 M2 W9 hD3 hD4 hM9 ⟨hN9, hS9⟩ hK9
             have hs9 := hS9.size
             have h139 := (row?_congr (hS9.block (W.heap.size + 1) (by omega) ⟨by omega, by omega⟩)).trans H137.out
             have h149 := (row?_congr (hS9.block (W.heap.size + 1 + 1) (by omega) ⟨by omega, by omega⟩)).trans H147.out
             have c149 := cell?_row (i := 0) h149
             simp at c149
             rw [gpart_all (HFS.out x)] at hN9
             have hSW9 : Same (fun j => j < W.heap.size ∧ j ≠ bN) W W9 := ((Same.of_below HB5.out).mono fun j hj _ => hj).trans ((HS67.out.mono fun j hj h => ⟨by omega, by omega⟩).trans (hS9.mono fun j hj h => ⟨by omega, h.2⟩))
             have hJ9 := HJ.out k Y W W9 HJk.out (hSW9.mono fun j hj h => ⟨hj, fun e => HY.out.1 (e ▸ h)⟩)
             have hr89 := (row?_congr (hS9.block (bN + 1) (by omega) ⟨by omega, by omega⟩)).trans HR87.out
             have hKD : W9.heap[D]? = some (.deferred (some [])) := (hS9.block D (by omega) ⟨by omega, by omega⟩).trans HK7.out
             have HDK := Lib.hid (HDo.out k x Y W9 v HX.out hJ9 (by omega))
             rw [← HF.out] at HDK
             have HN9 := Lib.hid hN9
             have HR89 := Lib.hid hr89
             have HKD := Lib.hid hKD
             have HK9 := Lib.hid hK9
             have HSW9 := Lib.hid hSW9
             clear hN9 hS9 hK9 h149 hSW9 hJ9 hr89 hKD
             go_wp2_with fail
             refine HDK.out.mono ?_
             rintro e W10 ⟨rfl, Y', hJ', hY', hS'⟩
             have hs10 := hS'.size
             clear HDK h139 c149
             go_wp2_with fail
             have hA : Same (fun j => j < W.heap.size ∧ j ≠ bN ∧ ¬ Y j) W W10 := (HSW9.out.mono fun j _ h => ⟨h.1, h.2.1⟩).trans (hS'.mono fun j _ h => h.2.2)
             have hYlt : ∀ j, Y j → j < W.heap.size := fun j hj => (HYk.out j hj).2
             have hnew : ∀ j, W.heap.size ≤ j → j < W9.heap.size → ¬ Y' j := fun j h1 h2 hy => by
               rcases (hY' j hy).1 with h3 | h3
               · have := hYlt j h3; omega
               · omega
             have hold : ∀ j, j < W9.heap.size → ¬ Y j → ¬ Y' j := fun j h1 h2 hy => by
               rcases (hY' j hy).1 with h3 | h3
               · exact h2 h3
               · omega
             refine ⟨⟨{ target := .collected D2, args := #[] } :: { target := .collected D, args := #[] } :: ds, Y', k + 1, _, _, _, _, _, _, _, _, _, _, _, _, _, _, _, _, _, _, _, _, _, _, _, _, _, rfl, by omega, hJ', fun j hj => ⟨?_, (hY' j hj).2⟩, hold _ (by omega) HY.out.1, hold _ (by omega) HY.out.2, ?_, ?_, ?_, ?_, ?_, by omega⟩, by simp [intOf]; omega⟩
             · rcases (hY' j hj).1 with h3 | h3
               · exact (HYk.out j h3).1
               · exact .inr (by omega)
             · rw [gameAt_succ HX.out, ← HF.out]
               exact HN9.out.congr (hS'.block bN (by omega) HY.out.1)
             · exact (row?_congr (hS'.block (bN + 1) (by omega) HY.out.2)).trans HR89.out
             · have hm := HMk.out.same hA fun j hj hd => ⟨HMk.out.lt j hd, by omega, HMY.out j hd⟩
               have hd1 := hm.cons (D := D) (by omega) ((hS'.block D (by omega) fun hy => by have := hYlt D hy; omega).trans HKD.out) fun hd => by have := HMk.out.lt D hd; omega
               refine hd1.cons (D := D2) (by omega) ((hS'.block D2 (by omega) fun hy => by have := hYlt D2 hy; omega).trans HK9.out) fun hd => ?_
               rcases List.mem_cons.1 hd with e | e
               · cases e; omega
               · have := HMk.out.lt D2 e; omega
             · intro j hj
               rcases List.mem_cons.1 hj with e | hj
               · cases e; exact hnew _ (by omega) (by omega)
               · rcases List.mem_cons.1 hj with e | hj
                 · cases e; exact hnew _ (by omega) (by omega)
                 · exact hold j (by have := HMk.out.lt j hj; omega) (HMY.out j hj)
             · exact HSw.out.trans (hA.mono fun j hj h => ⟨by omega, by omega, fun hy => (HYk.out j hy).1.elim h.2 fun h3 => by omega⟩)
       · have hkn : k = o.length := by omega
         subst hkn
         have HM := Lib.hid hM
         have HMY := Lib.hid hMY
         have HJk := Lib.hid hJk
         have HYk := Lib.hid hYk
         have HSw := Lib.hid hSw
         clear hM hMY hJk hYk hSw hN hr8
         go_wp2_with fail
         refine leaves_marks ds W HM.out fun w' hs' => ?_
         refine ⟨_, results_tmp rfl _ _ _, rfl, Y, HJ.out _ Y W w' HJk.out (hs'.mono fun j _ hy hd => HMY.out j hd hy), fun j hj => (HYk.out j hj).1, HSw.out.trans (hs'.mono fun j _ h hd => ?_)⟩
         have := HM.out.ge j hd
         omega
end Go.Proofs.YteiibpfabgfolaaGreatDoor
