/- Walk of EliminationOrder of a valid decomposition. -/
import Derived.Test.YtmmhngjndnonhaaGreatDoorTSt
import Derived.Test.YtmmhngjndnonhaaGreatDoorTSw
import Derived.Test.YtmmhngjndnonhaaGreatDoorTLb
import Derived.Test.YtmmhngjndnonhaaGreatDoorTGU
import Derived.Test.YtmmhngjndnonhaaGreatDoorTKW
import Derived.Test.YtmmhngjndnonhaaGreatDoorTTrG
import Derived.Test.YtmmhngjndnonhaaGreatDoorTGrH
set_option linter.all false
namespace Go.Proofs.YtmmhngjndnonhaaGreatDoor
open Go Go.RowKit Go.Pal
attribute [local go_sem] Oper.semAt_some
theorem OwnI.rowF {B : Nat} {w : World} {v : Value} {L : List Int} (h : OwnI B w v L) : (v = .slice none 0 0 ∧ L = []) ∨ ∃ g c, v = .slice (some ⟨g, 0, none⟩) L.length c ∧ B ≤ g ∧ RowF w g L.length fun i => L.getD i 0 := by
 obtain ⟨a, c, rfl⟩ := h.sl
 have hcell := fun j z (hz : L[j]? = some z) => h.cell hz
 rcases h.2 with ⟨h1, h2⟩ | ⟨g, cap, cur, h1, hB, hg, hle, -⟩
 · exact .inl ⟨h1, List.length_eq_zero_iff.1 h2⟩
 · simp only [Value.slice.injEq] at h1
   obtain ⟨rfl, -, rfl⟩ := h1
   refine .inr ⟨g, _, rfl, hB, (Array.getElem?_eq_some_iff.1 hg).1, fun i hi => ⟨?_, frozen_of_row w g i cur _ hg⟩⟩
   obtain ⟨g', hg', -, -, hc⟩ := hcell i L[i] (List.getElem?_eq_getElem hi)
   simp only [Option.some.injEq, Addr.mk.injEq] at hg'
   obtain ⟨rfl, -, -⟩ := hg'
   rw [hc, List.getD_eq_getElem?_getD, List.getElem?_eq_getElem hi]
   rfl
theorem rowF_rdl {w : World} {g n c : Nat} {f : Nat → Int} (h : RowF w g n f) : RdL w (.slice (some ⟨g, 0, none⟩) n c) (seqL f n) := by
 refine ⟨_, c, by rw [seqL_length], .inr ⟨g, 0, rfl, h.lt, fun i z hz => ?_⟩⟩
 have hi := (List.getElem?_eq_some_iff.1 hz).1
 rw [seqL_length] at hi
 rw [seqL_get f hi] at hz
 cases hz
 rw [Nat.zero_add]
 exact (h.cell i hi).1
theorem sortElems_any (F : Nat) (lb : Array Value) (eg : ∀ args w, (callFunc F args).run Tryz.prog w = .ok (.enter F args) w) (key : Int → Int) (D : Int → Prop) (L : List Int) (hlen : L.length ≤ 100000) (hA : L.Pairwise (· < ·)) (hD : ∀ z ∈ L, D z) (B : Nat) (v : Value) (w : World) (hv : OwnI B w v L)
   (hC : ∀ g, v.ownBlock = some g → CmpOk F lb g key D w) :
   Calls Tryz.prog 74 #[v, .func (.func F) #[] lb] w fun e w' => e = .returned (.tuple #[]) ∧ ∃ l, RdL w' v l ∧ l.Perm L ∧ l.Pairwise (ltK key) ∧ Same (fun j => v.ownBlock ≠ some j) w w' := by
 rcases hv.rowF with ⟨rfl, rfl⟩ | ⟨g, c, rfl, hB, hR⟩
 · refine (sortStable_nil 0 _ w).mono ?_
   rintro e w' ⟨rfl, rfl⟩
   exact ⟨rfl, [], hv.rdl, List.Perm.refl _, List.Pairwise.nil, Same.refl _ _⟩
 · have hget : ∀ i, (hi : i < L.length) → L.getD i 0 = L[i] := fun i hi => by rw [List.getD_eq_getElem?_getD, List.getElem?_eq_getElem hi]; rfl
   refine (sortStable_any F lb eg key D g L.length c hlen (fun i => L.getD i 0) (fun i j h1 h2 => ?_) (fun i hi => ?_) w hR (hC g rfl)).mono ?_
   · show L.getD i 0 < L.getD j 0
     rw [hget i (by omega), hget j h2]
     exact List.pairwise_iff_getElem.1 hA i j (by omega) h2 h1
   · show D (L.getD i 0)
     rw [hget i hi]
     exact hD _ (List.getElem_mem hi)
   · rintro e w' ⟨rfl, f', hR', hp, hs, hS⟩
     have hpw := srt_list hs
     refine ⟨rfl, seqL f' L.length, rowF_rdl hR', ?_, hpw, hS.mono fun j _ h e => h (by rw [e]; rfl)⟩
     refine perm_of_nodup (List.Pairwise.imp (R := ltK key) (S := fun a b => a ≠ b) (fun {a b} h e => ltK.irrefl (by subst e; exact h)) hpw) (fun x hx => ?_) (by rw [seqL_length]; exact Nat.le_refl _)
     obtain ⟨i, hi, rfl⟩ := List.mem_iff_getElem.1 hx
     rw [seqL_length] at hi
     have h1 := seqL_get f' hi
     rw [List.getElem?_eq_getElem (by rw [seqL_length]; exact hi)] at h1
     obtain ⟨j, -, hj, h2⟩ := hp.mem (Nat.zero_le i) hi
     rw [Option.some.inj h1, h2, hget j hj]
     exact List.getElem_mem hj
set_option maxRecDepth 10000 in
set_option maxHeartbeats 4000000 in
theorem elim_any (T : List Bg) (r : Nat) (hTok : TOk T r) (hS : ∀ x ∈ T, IsSet x.2) (hle : T.length ≤ 900) (g bV bE : Nat) (G : Gr) (hG : G.Ok) (hfit : G.fitT T = 0) (v : Value) (w : World) (hv : Rd bagA 17 w.heap.size w v T) (h : GOk w g bV bE G) (hT : Tab2 w) :
   Calls Tryz.prog 25 #[v, .pointer (some ⟨g, 0, none⟩)] w fun e w' => ∃ vs l, e = .returned (.tuple #[vs, .int .i64 0]) ∧ RdL w' vs l ∧ l.Perm (elemsI G.vset) ∧ l.Pairwise (ltK fun x => -((Pal.look (dpTo T T.length) x).getD 0)) ∧ Below w.heap.size w w' := by
 obtain ⟨t, hval, hlab, htn⟩ := hTok.val (by omega) hS
 obtain ⟨t', htl, hft, hts, htz, htn', htm⟩ := hTok.rooted.tree
 have hroot : rootsTo T T.length = [(t'.lab : Int)] := by rw [htl, ← hlab]; exact hval.root
 have hsz' := htz.2 hTok.all
 have hck := check_val0 T t hval
 have HCG := Lib.hid (checkGraph_any T hS g bV bE G hG v w hv (by omega) h fun W hb => hck v W ((hv.below hb (Nat.le_refl _)).mono hb.size))
 rw [hfit] at HCG
 have HV := Lib.hid hv
 have HG := Lib.hid hG
 have H0 := Lib.hid h
 have HTok := Lib.hid hTok
 have HS := Lib.hid hS
 have HVal := Lib.hid hval
 have hds := hTok.rooted.depths htl hft htn' fun x hx => (htm x).2 ⟨hx, hTok.all x hx⟩
 have HRt := Lib.hid hroot
 have HFt := Lib.hid hft
 have HSz := Lib.hid hsz'
 have HDS := Lib.hid hds
 have HTab := Lib.hid hT
 have HTop := Lib.hid fun i => isSet_topS hS i
 have HPl := Lib.hid (show ∀ k u : Nat, k < T.length → ∀ pre r, elems (topS T k) = pre ++ u :: r → (((u : Int), (deepAt T k : Int)) :: Pal.del (u : Int) (dpTo T k ++ pre.map fun u : Nat => ((u : Int), (deepAt T k : Int)))).Perm (dpTo T k ++ (pre ++ [u]).map fun u : Nat => ((u : Int), (deepAt T k : Int))) from fun k u hk pre r he => by
   rw [del_all (dp_fresh hTok hS hk he), List.map_append, ← List.append_assoc]
   exact (List.perm_append_singleton _ _).symm)
 have hmm := @run_makeMap Tryz.prog
 obtain ⟨a, c, rfl, -⟩ := hv
 have hpos := hTok.lt
 clear h hG hTok hS hval hds hT hfit hck htn hlab htl hft hts htz htn' htm hroot hsz'
 refine calls_of_wp_marks Tryz.func25 rfl ?_
 simp only [Tryz.ntmps25, List.size_toArray, List.length_cons, List.length_nil, Nat.reduceAdd, Nat.reduceSub, Array.replicate_succ, Array.replicate_zero, List.push_toArray, List.append_toArray, List.nil_append, List.cons_append]
 go_wp2_with fail
 refine HCG.out.mono ?_
 rintro e w1 ⟨rfl, hb1⟩
 have HB1 := Lib.hid hb1
 have hs1 := hb1.size
 clear hb1 HCG
 go_wp2_with fail
 have hd := depths_any T (.slice a T.length c) w1 ((HV.out.below HB1.out (Nat.le_refl _)).mono hs1) (by omega) HVal.out.par t' HRt.out HFt.out (by have := HSz.out; omega)
 rw [HDS.out, HSz.out, decide_eq_true rfl] at hd
 have HD := Lib.hid hd
 clear hd
 refine HD.out.mono ?_
 rintro e w2 ⟨rfl, hr2, hb2⟩
 have HB2 := Lib.hid hb2
 have hs2 := hb2.size
 obtain ⟨D0, hD0⟩ : ∃ D0, D0 = w1.heap.size := ⟨_, rfl⟩
 rw [← hD0] at hr2 ⊢
 have hl2 := row?_lt hr2
 have HR2 := Lib.hid hr2
 have HD0 := Lib.hid hD0
 clear hb2 hr2 HD hD0
 go_wp2_with fail
 obtain ⟨q, hq⟩ : ∃ q, q = w2.heap.size := ⟨_, rfl⟩
 generalize hW2 : World.alloc (World.alloc (World.alloc w2 _) _) _ = W2
 have hs3 : W2.heap.size = w2.heap.size + 3 := by rw [← hW2]; simp
 have hB12 : Below w2.heap.size w2 W2 := by
   rw [← hW2]
   exact (((Below.refl _ w2).alloc (Nat.le_refl _) _).alloc (by simp) _).alloc (by simp; omega) _
 have hN2 : Pal.Own CP Tryz.prog 3 W2 (q + 1) (dpTo T 0) := by
   rw [← hW2, hq]
   have := (Pal.Own.made (C := CP) (P := Tryz.prog) (k := 3) (w2.alloc (Obj.cells #[Value.slice (some ⟨D0, 0, none⟩) T.length T.length] 47))).below (((Below.refl (w2.heap.size + 2) _).alloc (by simp) (.cells #[.map (some (w2.heap.size + 1))] 140))) (by simp)
   simpa [dpTo] using this
 have hrq : row? W2 q = some #[.slice (some ⟨D0, 0, none⟩) T.length T.length] := by
   rw [← hW2, hq, row?_alloc_past _ _ _ (by simp; omega), row?_alloc_past _ _ _ (by simp)]
   exact row?_alloc_at _ _ _ _ rfl
 have hrv : row? W2 (q + 1 + 1) = some #[.map (some (q + 1))] := by
   rw [← hW2, hq]
   exact row?_alloc_at _ _ _ _ (by simp)
 have hrD := (row?_below hB12 hl2).trans HR2.out
 rw [← hq] at hs3 hl2 hs2 ⊢
 have hBw : Below w.heap.size w W2 := HB1.out.trans ((HB2.out.trans (hB12.mono (by omega))).mono hs1)
 have HBw := Lib.hid hBw
 have HN2 := Lib.hid hN2
 have HRQ := Lib.hid hrq
 have HRV := Lib.hid hrv
 have HRD := Lib.hid hrD
 have HQ := Lib.hid hq
 have hwq : w.heap.size ≤ D0 := by rw [HD0.out]; exact hs1
 clear hW2 hB12 hN2 hrq hrv hrD hq hBw hmm HR2 HB2 hs2
 refine wp_loop (fun a' W => ∃ (ds : List Deferred) (k : Nat) (v10 v28 v29 v30 v31 v32 v33 v41 : Value), a' = ⟨#[.slice a T.length c, .pointer (some ⟨g, 0, none⟩), undef, undef, .slice none 0 0, .int .i64 0, .int .i64 0, .pointer (some ⟨q, 0, none⟩), .bool true, .pointer (some ⟨q + 1 + 1, 0, none⟩), v10, undef, undef, .slice a T.length c, .pointer (some ⟨g, 0, none⟩), .int .i64 0, .int .i64 0, .bool false, undef, .tuple #[.slice (some ⟨D0, 0, none⟩) T.length T.length, .bool true], .slice a T.length c, .tuple #[.slice (some ⟨D0, 0, none⟩) T.length T.length, .bool true], .slice (some ⟨D0, 0, none⟩) T.length T.length, .bool true, .map (some (q + 1)), .slice a T.length c, .int .i64 (T.length : Int), .int .i64 ((k : Nat) : Int), v28, v29, v30, v31, v32, v33, undef, undef, undef, undef, undef, undef, undef, v41, undef, undef, undef, undef, undef, undef, undef], ds⟩ ∧ k ≤ T.length ∧ Pal.Own CP Tryz.prog 3 W (q + 1) (dpTo T k) ∧ Same (fun j => j < q + 3 ∧ j ≠ q + 1) W2 W ∧ Marks (q + 3) ds W) (fun a' _ => T.length - (intOf (a'.tmps.getD 27 undef)).toNat) ?start ?round2
 case start => exact ⟨[], 0, _, _, _, _, _, _, _, _, rfl, by omega, HN2.out, Same.refl _ _, trivial⟩
 case round2 =>
   rintro a' W ⟨ds, k, v10, v28, v29, v30, v31, v32, v33, v41, rfl, hk, hN, hSm, hM⟩
   have hszW := hSm.size
   have hbw : Below w.heap.size w W := HBw.out.trans (hSm.below (by omega) fun j hj => by omega)
   by_cases hltk : k < T.length
   · obtain ⟨N, hNN⟩ : ∃ N, N = topS T k := ⟨_, rfl⟩
     have HBW := Lib.hid hbw
     have HTops := Lib.hid fun W' (hw : Below W.heap.size W W') => tops_val0 T t HVal.out (.slice a T.length c) W' ((HV.out.below (HBW.out.trans (hw.mono HBW.out.size)) (Nat.le_refl _)).mono (HBW.out.trans (hw.mono HBW.out.size)).size) k hltk
     rw [← hNN] at HTops
     have hfs : IsSet N := by rw [hNN]; exact HTop.out k
     have HNN := Lib.hid hNN
     have HN := Lib.hid hN
     have HSm := Lib.hid hSm
     have HM := Lib.hid hM
     clear hN hSm hM hNN hbw
     go_wp2_with fail
     obtain ⟨hI, hhI⟩ : ∃ hI, hI = W.heap.size := ⟨_, rfl⟩
     generalize hW3 : World.alloc W _ = W3
     have hB3 : Below W.heap.size W W3 := by rw [← hW3]; exact (Below.refl _ W).alloc (Nat.le_refl _) _
     have hr3 : row? W3 hI = some #[.int .i64 (k : Int)] := by rw [← hW3, hhI]; exact row?_alloc_at _ _ _ _ rfl
     rw [← hhI] at hB3 hszW ⊢
     have hl3 := row?_lt hr3
     have HB3 : Hid (Below W.heap.size W W3) := Lib.hid (by rw [← hhI]; exact hB3)
     have HHI := Lib.hid hhI
     have HR3 := Lib.hid hr3
     clear hW3 hB3 hr3 hhI
     refine (HTops.out W3 HB3.out).mono ?_
     rintro e w5 ⟨rfl, hb5⟩
     have hs5 := hb5.size
     have HB5 := Lib.hid (HB3.out.trans (hb5.mono HB3.out.size))
     have HR5 := Lib.hid ((row?_below hb5 hl3).trans HR3.out)
     clear hb5 HTops HR3
     go_wp2_with fail
     refine (all_any N _).mono ?_
     rintro e w7 ⟨rfl, hw7⟩
     obtain ⟨p7, hp7⟩ : ∃ p7, p7 = w5.heap.size := ⟨_, rfl⟩
     have hs7 : w7.heap.size = w5.heap.size + 1 := by rw [← hw7]; simp
     have hB7 : Below w5.heap.size w5 w7 := by rw [← hw7]; exact (Below.refl _ w5).alloc (Nat.le_refl _) _
     have h7 : row? w7 p7 = some (words N) := by rw [← hw7, hp7]; exact row?_alloc_at _ _ _ _ rfl
     rw [← hp7] at hs7 hB7 hs5 ⊢
     have hBW7 : Below W.heap.size W w7 := HB5.out.trans (hB7.mono (by rw [hp7]; exact HB5.out.size))
     have hHI := HHI.out
     have h15 : row? w7 hI = some #[.int .i64 (k : Int)] := (row?_below hB7 (by omega)).trans HR5.out
     have hN7 := HN.out.below hBW7 (by omega)
     have hT7 : TabOk w7 := HTab.out.1.below (HBw.out.trans ((HSm.out.below (B := w.heap.size) (by omega) fun j hj => by omega).trans (hBW7.mono (by omega)))) HTab.out.2
     have hgT7 : 0 < w7.heap.size := by have := HTab.out.2; omega
     have hS27 : Same (fun j => j < q + 3 ∧ j ≠ q + 1) W2 w7 := HSm.out.trans ((Same.of_below hBW7).mono fun j _ h => by omega)
     have hq7 := (row?_congr (hS27.block q (by omega) ⟨by omega, by omega⟩)).trans HRQ.out
     have hv7 := (row?_congr (hS27.block (q + 1 + 1) (by omega) ⟨by omega, by omega⟩)).trans HRV.out
     have hd7 := (row?_congr (hS27.block D0 (by omega) ⟨by omega, by omega⟩)).trans HRD.out
     have H15 := Lib.hid h15
     have H7 := Lib.hid h7
     have HBW7 := Lib.hid hBW7
     have HN7 := Lib.hid hN7
     have HT7 := Lib.hid hT7
     have HQ7 := Lib.hid hq7
     have HV7 := Lib.hid hv7
     have HD7 := Lib.hid hd7
     clear hw7 hB7 h15 h7 hBW7 hN7 hT7 hq7 hv7 hd7 hS27 hp7 HR5 HB5 hHI
     go_wp2_with fail
     refine (wpIn_wide (n := 0)).1 ?_
     refine wpIn_range_set 0 11 rfl (fun args w => by simp [go_sem]) (by omega) (enc := fun n : Nat => .int .i64 (n : Int)) (xs := elems N)
       (fun W' hW' _ => all1_iterates p7 N hfs W' ((row?_below hW' (by omega)).trans H7.out) (HT7.out.below hW' (by omega)) (by have := hW'.size; omega))
       (fun M pre Wc => Pal.Own CP Tryz.prog 3 Wc (q + 1) (dpTo T k ++ pre.map fun u : Nat => ((u : Int), (deepAt T k : Int))) ∧ Same (fun j => j < w7.heap.size ∧ j ≠ q + 1) w7 Wc) ?_ ?_ ?_ ?_ ?_
     · rintro M pre Wa Wb hM hMW ⟨hNa, hS⟩ hsame
       exact ⟨hNa.congr (hsame.block (q + 1) hNa.lt (.inl (by omega))), hS.trans (hsame.mono fun j _ h => .inl h.1)⟩
     · intro M Wa _ _ hb
       refine ⟨?_, (Same.of_below hb).mono fun j _ h => h.1⟩
       rw [List.map_nil, List.append_nil]
       exact HN7.out.congr (hb.block (q + 1) (by omega))
     · intro l y Wa K hK
       gi_wp2
       exact hK
     · rintro l M pre u W8 hM1 hM2 ⟨hN8, hS8⟩ ⟨r', hr⟩
       have hum : u ∈ elems N := by rw [hr]; simp
       have hu1 : u < 1024 := elems_lt hum
       have hpl := HPl.out k u hltk pre r' (by rw [← HNN.out]; exact hr)
       have hlen8 := dpTo_len T k
       have hpre : pre.length ≤ 1024 := by
         have := elemsI_length N
         unfold elemsI at this
         rw [List.length_map, hr, List.length_append] at this
         omega
       have hs8 := hS8.size
       have kq : W8.cell? ⟨q, 0, none⟩ = some (.slice (some ⟨D0, 0, none⟩) T.length T.length) := (cell?_row (i := 0) ((row?_congr (hS8.block q (by omega) ⟨by omega, by omega⟩)).trans HQ7.out)).trans rfl
       have kv : W8.cell? ⟨q + 1 + 1, 0, none⟩ = some (.map (some (q + 1))) := (cell?_row (i := 0) ((row?_congr (hS8.block (q + 1 + 1) (by omega) ⟨by omega, by omega⟩)).trans HV7.out)).trans rfl
       have ki : W8.cell? ⟨hI, 0, none⟩ = some (.int .i64 (k : Int)) := (cell?_row (i := 0) ((row?_congr (hS8.block hI (by omega) ⟨by omega, by omega⟩)).trans H15.out)).trans rfl
       have kd : W8.cell? ⟨D0, k, none⟩ = some (.int .i64 (deepAt T k : Int)) := (cell?_row (i := k) ((row?_congr (hS8.block D0 (by omega) ⟨by omega, by omega⟩)).trans HD7.out)).trans (by simp [hltk])
       have hlk : (k : Int) < (T.length : Int) := by omega
       obtain ⟨dk, hdk⟩ : ∃ dk : Int, dk = (deepAt T k : Int) := ⟨_, rfl⟩
       rw [← hdk] at kd
       have HN8 := Lib.hid hN8
       have HS8 := Lib.hid hS8
       have HPL := Lib.hid hpl
       have HDK := Lib.hid hdk
       clear hN8 hS8 hr hum hpl hdk
       gi_wp2_with fail
       refine wpIn_round_free_tail (fun W' => W' = W8.drew) 6 (by kernel_rfl) (by kernel_rfl) (by kernel_rfl) (by rintro ⟨a', w', h'⟩; exact h') rfl ?_
       simp only [List.take_succ_cons, List.take_zero, List.drop_succ_cons, List.drop_zero]
       repeat (apply wpFree_still; (intro w hw; subst hw; go_simp; (try go_ints); (first | with_reducible rfl | (go_simp; with_reducible rfl))); with_reducible rfl; (intro K hK; go_simp; (try go_ints); refine hK _ ?_; clear hK K))
       with_reducible refine wpFree_nil ?_
       rintro w' rfl
       refine wpList_putOwn rfl _ _ _ _ rfl goodP Tryz.underlying140 (q + 1) _ (dpTo T k ++ (pre ++ [u]).map fun u : Nat => ((u : Int), (deepAt T k : Int))) rfl HN8.out.drew (u : Int) dk rfl rfl (by show InI _; unfold InI; omega) (by rw [HDK.out]; exact HPL.out) (by rw [List.length_append, List.length_map]; omega) ?_
       intro w9 hown hgr hsz9
       have hS9 : Same (fun j => j ≠ q + 1) W8 w9 := (Same.drew _ _).trans ((same_grown hgr).mono fun j _ hj => by simpa using hj)
       exact ⟨⟨hown, HS8.out.trans (hS9.mono fun j _ h => h.2)⟩, hS9.mono fun j _ h => by omega⟩
     · rintro D M W8 hD1 hD2 hM8 ⟨hN8, hS8⟩ hK
       have hs8 := hS8.size
       rw [HNN.out, ← dpTo_succ] at hN8
       have hS28 : Same (fun j => j < hI ∧ j ≠ q + 1) W W8 := ((Same.of_below HBW7.out).mono fun j _ h => by omega).trans (hS8.mono fun j _ h => ⟨by omega, h.2⟩)
       have hM8' := HM.out.same (A := fun j => j < hI ∧ j ≠ q + 1) hS28 fun D' hD' hd => by have := HM.out.lt D' hd; have := HHI.out; exact ⟨by omega, by omega⟩
       have hM9 := hM8'.cons (D := D) (by omega) hK fun hd => by have := HM.out.lt D hd; have := HHI.out; omega
       have HN8 := Lib.hid hN8
       have HM9 := Lib.hid hM9
       have HS9 := Lib.hid (HSm.out.trans (hS28.mono fun j hj h => ⟨by omega, h.2⟩))
       clear hN8 hS8 hK hS28 hM8' hM9
       go_wp2_with fail
       exact ⟨⟨{ target := .collected D, args := #[] } :: ds, k + 1, _, _, _, _, _, _, _, _, rfl, by omega, HN8.out, HS9.out, HM9.out⟩, by simp [intOf]; omega⟩
   · have hkn : k = T.length := by omega
     subst hkn
     have HN := Lib.hid hN
     have HBW := Lib.hid hbw
     have HM := Lib.hid hM
     have hrv : row? W (q + 1 + 1) = some #[.map (some (q + 1))] := (row?_congr (hSm.block (q + 1 + 1) (by omega) ⟨by omega, by omega⟩)).trans HRV.out
     have HRv := Lib.hid hrv
     clear hN hSm hM hbw hrv hltk
     go_wp2_with fail
     refine (gvertexSet_any g bV bE G HG.out W (H0.out.below HBW.out)).mono ?_
     rintro e w3 ⟨rfl, hb3⟩
     have HB3 := Lib.hid hb3
     have hs3' := hb3.size
     have HVS : Hid (IsSet G.vset) := Lib.hid HG.out.isSet_vset
     clear hb3
     go_wp2_with fail
     have hB03 := HBW.out.trans (HB3.out.mono HBW.out.size)
     refine (elements_any G.vset HVS.out w3 (HTab.out.1.below hB03 HTab.out.2) (Nat.lt_of_lt_of_le HTab.out.2 hB03.size)).mono ?_
     rintro e w4 ⟨v4, rfl, hO4, hb4⟩
     have hs4 := hb4.size
     have hBW4 : Below W.heap.size W w4 := HB3.out.trans (hb4.mono hs3')
     have hC := fun g' (hg' : v4.ownBlock = some g') => elim_cmp (dpTo T T.length) (q + 1 + 1) (q + 1) g' w4 (HN.out.below hBW4 (by omega)) ((row?_below hBW4 (by omega)).trans HRv.out) (by have := hO4.block g' hg'; omega) (by have := hO4.block g' hg'; omega)
     have HSort := Lib.hid (sortElems_any 75 #[.pointer (some ⟨q + 1 + 1, 0, none⟩)] (fun args w => by simp [go_sem]) (fun x => -((Pal.look (dpTo T T.length) x).getD 0)) InI (elemsI G.vset) (by have := elemsI_length G.vset; omega) (elemsI_sorted _) (fun z hz => by
       obtain ⟨n, hm, rfl⟩ := List.mem_map.1 hz
       have hn := elems_lt hm
       unfold InI
       omega) w3.heap.size v4 w4 hO4 hC)
     have HBl := Lib.hid hO4.block
     have HBW4 := Lib.hid hBW4
     obtain ⟨q4, n4, c4, rfl⟩ := hO4.slice
     clear hO4 hb4 hC hB03 hBW4
     go_wp2_with fail
     refine HSort.out.mono ?_
     rintro e w5 ⟨rfl, l, hl, hp, hpw, hS5⟩
     have HL := Lib.hid hl
     have HP := Lib.hid hp
     have HPw := Lib.hid hpw
     have HS5 := Lib.hid hS5
     clear hl hp hpw hS5 HSort
     go_wp2_with fail
     have hM4 := HM.out.same ((Same.of_below HBW4.out).mono fun j hj (h : j < W.heap.size) => h) fun D' _ hd => HM.out.lt D' hd
     have hM5 := hM4.same HS5.out fun D' _ hd e => by have := HM.out.lt D' hd; have := HBl.out D' e; omega
     refine leaves_marks ds w5 hM5 fun w' hs' => ?_
     refine ⟨.tuple #[.slice q4 n4 c4, .int .i64 0], by simp [results, Tryz.results25, go_sem], .slice q4 n4 c4, l, rfl, ?_, HP.out, HPw.out, ?_⟩
     · obtain ⟨a', c', hv', h'⟩ := HL.out
       refine ⟨a', c', hv', h'.imp id ?_⟩
       rintro ⟨b, off, rfl, hb, hc⟩
       have hbl := HBl.out b (by rw [hv']; rfl)
       have hnd : ¬ ({ target := .collected b, args := #[] } : Deferred) ∈ ds := fun hd => by have := HM.out.lt b hd; omega
       exact ⟨b, off, rfl, Nat.lt_of_lt_of_le hb hs'.size, fun i z hz => (World.cell?_of_block (hs'.block b hb hnd)).trans (hc i z hz)⟩
     · have hs5 := HS5.out.size
       exact (HBW.out.trans ((HBW4.out.mono HBW.out.size).trans (HS5.out.below (B := w.heap.size) (by have := HBW.out.size; omega) fun j hj e => by have := HBl.out j e; have := HBW.out.size; omega))).trans (hs'.below (by have := HBW.out.size; omega) fun j hj hd => by have := HM.out.ge j hd; omega)
end Go.Proofs.YtmmhngjndnonhaaGreatDoor
