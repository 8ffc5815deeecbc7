/- Rows of strings, strings.Join; the set of a graph's edges; FormatEdgeSet. Walk: the law's .. -/
import Derived.Test.YtglnhnjmelilmaaGreatDoorRVc
import Derived.Test.YtglnhnjmelilmaaGreatDoorRVb
import Derived.Test.YtglnhnjmelilmaaGreatDoorRS3
import Derived.Test.YtglnhnjmelilmaaGreatDoorRGrH
import Derived.Test.YtglnhnjmelilmaaGreatDoorRRoR
import Derived.Test.YtglnhnjmelilmaaGreatDoorRSets
import Derived.Test.YtglnhnjmelilmaaGreatDoorRVe
set_option maxHeartbeats 4000000
set_option maxRecDepth 20000
set_option linter.all false
namespace Go.Pal
open Go Go.RowKit
def endsB (e : (Int × Int) × Th) : List UInt8 := Lib.itoa e.1.1 ++ 45 :: Lib.itoa e.1.2
def Gr.endsAt (G : Gr) (i : Nat) : List UInt8 := endsB ((G.E[i]?).getD ((0, 0), (0, 0)))
def Gr.endsText (G : Gr) (S : Nat) : List UInt8 := [123] ++ Lib.join ((elems S).map G.endsAt) [32] ++ [125]
theorem elems_len2 (S : Nat) : (elems S).length ≤ 1024 := by
 have := elemsI_length S
 simpa [elemsI] using this
theorem join_len {b : Nat} {ls : List (List UInt8)} (h : ∀ l ∈ ls, l.length ≤ b) (sep : List UInt8) : (Lib.join ls sep).length ≤ (b + sep.length) * ls.length := by
 unfold Lib.join
 induction ls with
 | nil => simp [List.intercalate]
 | cons x r ih =>
   have ih := ih fun l hl => h l (by simp [hl])
   have hx := h x (by simp)
   cases r with
   | nil =>
     simp [List.intercalate] at ih ⊢
     omega
   | cons y s =>
     have e : sep.intercalate (x :: y :: s) = x ++ sep ++ sep.intercalate (y :: s) := by simp [List.intercalate]
     rw [e]
     simp only [List.length_append, List.length_cons] at ih ⊢
     rw [Nat.mul_add]
     omega
section
variable {P : Program}
theorem wpIn_round_mix {id l0 : Nat} {Q : Exit → Act → World → Prop} {a : Act} {w : World} {l : List Oper} (S : World → Prop) (n : Nat) (plan : List (Nat × Bool)) (hm : P.follows .mixedOrders = true) (hB : Region.mixB .any l.toArray n plan = true)
   (hD : Region.noDefer l.toArray = true) (hno : ¬ LetsOut Q) (hS : S w.drew)
   (h : wpPlan P l.toArray S noQ (fun a' w' => wpList P l.toArray Q (l.drop n) a' w') plan a w.drew) : (Code.region id l.toArray true).wpIn (Fence.wide.inRound l0) 0 P Q a w := by
 simp only [Region.mixB, Bool.and_eq_true, decide_eq_true_eq] at hB
 obtain ⟨⟨⟨⟨⟨hsel, hn⟩, hs⟩, hc⟩, hpl⟩, hplan⟩ := hB
 have hn' : n < l.length := by simpa using hn
 have hdl : (l.drop n).length = l.toArray.size - n := by simp
 have inv0 : HeadInv .any l.toArray n (Array.replicate l.toArray.size false) :=
   ⟨by simp, fun j oj _ hl => (by rw [getD_replicate_false] at hl; cases hl), fun t _ ht => getD_in (by simpa using ht) (getD_replicate_false _ _)⟩
 have H := wpAnyH_plan (md := .any) (Q := noQ) (g := l.toArray.size - n) hsel hs hc hn (fun _ _ _ _ h => h) plan _ a w.drew inv0 hplan hS h
 refine wpIn_region_any hm (wpAnyIn_round_of hno (Region.noDefer_spec hD) _ _ _ _ ?_)
 have := wpAny_of_headH (Q := Q) (g := l.toArray.size - n) (fun listed a' w' hL => by
   have := wpAny_of_seq (md := .any) (Q' := Q) (l.drop n) n listed a' w' (fun j => by simp [List.getElem?_drop]) (by rw [hdl]; exact hL.1) hL.2
   rwa [hdl] at this) _ _ _ _ H
 rw [hpl, show n + (l.toArray.size - n) = l.toArray.size by omega] at this
 exact this
end
end Go.Pal
namespace Go.Proofs.YtglnhnjmelilmaaGreatDoor
open Go Go.RowKit Go.Pal Go.Shelf
attribute [local go_sem] Oper.semAt_some
theorem join_own (B : Nat) (ls : List (List UInt8)) (v : Value) (w : World) (h : OwnStr B w v ls) (sep : List UInt8) (hl : ls.length ≤ 1000000) (hlen : (Lib.join ls sep).length ≤ 1000000) :
   Calls Tryz.prog 72 #[v, .string ⟨sep.toArray⟩] w fun e w' => e = .returned (.string ⟨(Lib.join ls sep).toArray⟩) ∧ Below w.heap.size w w' := by
 have hrd := h.rd elStr
 have hb : (ls.map fun l : List UInt8 => (⟨l.toArray⟩ : ByteArray)).map (·.data.toList) = ls := by
   rw [List.map_map]
   conv => rhs; rw [← List.map_id ls]
   exact List.map_congr_left fun x _ => rfl
 rcases h.2 with ⟨rfl, h2⟩ | ⟨g, cap, cur, rfl, hB, hg, hc, -⟩
 · have : ls = [] := List.length_eq_zero_iff.1 h2
   subst this
   refine (Any.strings_Join_none Tryz.laysJoin Tryz.extraJoin none 0 ⟨sep.toArray⟩ w).mono ?_
   rintro e w' ⟨rfl, rfl⟩
   exact ⟨by simp [Lib.join, List.intercalate], Below.refl _ _⟩
 · have hcs : ∀ (j : Nat) x, (ls.map fun l : List UInt8 => (⟨l.toArray⟩ : ByteArray))[j]? = some x → w.cell? ⟨g, 0 + j, none⟩ = some (.string x) := by
     intro j x hx
     rw [List.getElem?_map] at hx
     obtain ⟨l, hl, rfl⟩ := Option.map_eq_some_iff.1 hx
     have := World.ownsRow.cells (base := B) h (g := g) rfl _ _ (encC_get elStr hl (j := 0) (u := .string ⟨l.toArray⟩) rfl)
     have e : (⟨g, 0, none⟩ : Addr).add (j * 1 + 0) = ⟨g, 0 + j, none⟩ := by unfold Addr.add; split <;> simp_all
     rwa [e] at this
   have := Any.strings_Join Tryz.laysJoin Tryz.extraJoin g 0 cap (ls.map fun l : List UInt8 => (⟨l.toArray⟩ : ByteArray)) ⟨sep.toArray⟩ w hcs (Array.getElem?_eq_some_iff.1 hg).1 (by rw [List.length_map]; omega) (by rw [List.length_map]; exact hc) (by rw [hb]; exact Nat.le_trans hlen (by decide))
   rw [hb, List.length_map] at this
   exact this
theorem gedgeSet_any (g bV bE : Nat) (G : Gr) (hG : G.Ok) (w : World) (h : GOk w g bV bE G) : Calls Tryz.prog 91 #[.pointer (some ⟨g, 0, none⟩)] w fun r w' => r = .returned (.agg (words (belS G.E.length))) ∧ Below w.heap.size w w' := by
 have HL := Lib.hid fun W (hw : Below w.heap.size w W) => glen_any g bV bE G W (h.below hw)
 have hm := hG.most
 obtain ⟨n, hn⟩ : ∃ n, n = G.E.length := ⟨_, rfl⟩
 obtain ⟨m, hm'⟩ : ∃ n, n = G.V.length := ⟨_, rfl⟩
 rw [← hn] at HL hm ⊢
 rw [← hm'] at HL
 clear h hG hn hm'
 go_enter Tryz.func91, Tryz.ntmps91
 go_wp2_with fail
 generalize hW0 : World.alloc w _ = W0
 have hB0 : Below w.heap.size w W0 := by rw [← hW0]; exact (Below.refl _ w).alloc (Nat.le_refl _) _
 have hr0 : row? W0 w.heap.size = some (words 0) := by rw [← hW0]; exact row?_alloc_at _ _ _ _ rfl
 have hs0 := row?_lt hr0
 clear hW0
 refine (HL.out W0 hB0).mono ?_
 rintro r w1 ⟨rfl, hb1⟩
 have HB1 := Lib.hid (hB0.trans (hb1.mono hB0.size))
 have HR1 := Lib.hid ((row?_below hb1 hs0).trans hr0)
 have hs1 : w.heap.size < w1.heap.size := Nat.lt_of_lt_of_le hs0 hb1.size
 clear hb1 hB0 hr0 hs0
 go_wp2_with fail
 refine (belowS_any n w1 hm).mono ?_
 rintro r w2 ⟨rfl, hb2⟩
 have HB2 := Lib.hid (HB1.out.trans (hb2.mono HB1.out.size))
 have hr2 := (row?_below hb2 hs1).trans HR1.out
 have HR2 := Lib.hid hr2
 clear hb2
 go_wp2_with fail
 refine ret_row w.heap.size (words (belS n)) rfl Tryz.isAgg79 Tryz.sizeOf79 rfl rfl (row?_setRow_same _ _ _ (by rw [HR2.out]; rfl)) (by simp only [words_size]) ⟨rfl, ?_⟩
 exact below_setRow HB2.out (Nat.le_refl _) _
theorem edgeSet_any (g bV bE : Nat) (G : Gr) (hG : G.Ok) (S : Nat) (hS : IsSet S) (w : World) (h : GOk w g bV bE G) (ht : Pow w) (hT : TabOk w) (hgt : 1 < w.heap.size) :
   Calls Tryz.prog 37 #[.pointer (some ⟨g, 0, none⟩), .agg (words S)] w fun e w' => e = .returned (if sDiff S (belS G.E.length) = 0 then .tuple #[.string ⟨(G.endsText S).toArray⟩, .int .i64 0] else .tuple #[.string ⟨#[]⟩, .int .i64 9]) ∧ Below w.heap.size w w' := by
 have HG := Lib.hid hG
 have H0 := Lib.hid h
 have HP := Lib.hid ht
 have HTab := Lib.hid hT
 have hgl := h.lt
 obtain ⟨RES, hRES⟩ : ∃ R, R = (if sDiff S (belS G.E.length) = 0 then Value.tuple #[.string ⟨(G.endsText S).toArray⟩, .int .i64 0] else Value.tuple #[.string ⟨#[]⟩, .int .i64 9]) := ⟨_, rfl⟩
 rw [← hRES]
 have HRES := Lib.hid hRES
 clear h hG ht hT hRES
 refine calls_of_wp_marks Tryz.func37 rfl ?_
 simp only [Tryz.ntmps37, List.size_toArray, List.length_cons, List.length_nil, Nat.reduceAdd, Nat.reduceSub, Array.replicate_succ, Array.replicate_zero, List.push_toArray, List.append_toArray, List.nil_append, List.cons_append]
 go_wp2_with fail
 obtain ⟨W0, hW0⟩ : ∃ W0, W0 = w.alloc (.cells (words S) 79) := ⟨_, rfl⟩
 have hB0 : Below w.heap.size w W0 := by rw [hW0]; exact (Below.refl _ w).alloc (Nat.le_refl _) _
 have hr0 : row? W0 w.heap.size = some (words S) := by rw [hW0]; exact row?_alloc_at _ _ _ _ rfl
 have hs0 := row?_lt hr0
 rw [← hW0]
 clear hW0
 have HB0 := Lib.hid hB0
 have HR0 := Lib.hid hr0
 have HRW := Lib.hid fun W (hw : Below W0.heap.size W0 W) => (row?_below hw hs0).trans hr0
 have HES := Lib.hid fun W (hw : Below W0.heap.size W0 W) => gedgeSet_any g bV bE G HG.out W (H0.out.below (hB0.trans (hw.mono hB0.size)))
 have HSub := Lib.hid fun W => subsetOf_any S (belS G.E.length) hS W
 obtain ⟨q, hq⟩ : ∃ q, q = decide (sDiff S (belS G.E.length) = 0) := ⟨_, rfl⟩
 rw [← hq] at HSub
 have HQ := Lib.hid hq
 clear hB0 hr0 hq
 refine wp_region_free_tail (fun W => Below W0.heap.size W0 W) 4 (by kernel_rfl) (by kernel_rfl) (Below.refl _ _).drew ?_
 simp only [List.take_succ_cons, List.take_zero, List.drop_succ_cons, List.drop_zero]
 repeat (apply wpFree_still; (intro w hw; have k1 := HRW.out _ hw; clear hw; go_simp; (try go_ints); (first | with_reducible rfl | (go_simp; with_reducible rfl))); with_reducible rfl; (intro K hK; go_simp; (try go_ints); refine hK _ ?_; clear hK K))
 apply wpFree_call
 · intro w hw; go_simp; first | with_reducible rfl | with_reducible exact ⟨rfl, rfl⟩
 · with_reducible rfl
 · intro w hw; exact (HES.out w hw).mono fun e w' ⟨h1, h2⟩ => ⟨h1, hw.trans (h2.mono hw.size)⟩
 intro K hK; go_simp; (try go_ints); refine hK _ ?_; clear hK K
 apply wpFree_call
 · intro w hw; go_simp; first | with_reducible rfl | with_reducible exact ⟨rfl, rfl⟩
 · with_reducible rfl
 · intro w hw; exact (HSub.out w).mono fun e w' ⟨h1, h2⟩ => ⟨h1, hw.trans (h2.mono hw.size)⟩
 intro K hK; go_simp; (try go_ints); refine hK _ ?_; clear hK K
 with_reducible refine wpFree_nil ?_
 intro w2 hb2
 have HB2 := Lib.hid (HB0.out.trans (hb2.mono HB0.out.size))
 have HR2 := Lib.hid ((row?_below hb2 hs0).trans HR0.out)
 have hs2 : w.heap.size < w2.heap.size := Nat.lt_of_lt_of_le hs0 hb2.size
 clear hb2 HRW HES HSub HR0 HB0 hs0
 cases q with
 | false =>
   have hne : ¬ sDiff S (belS G.E.length) = 0 := of_decide_eq_false HQ.out.symm
   have HR := Lib.hid (HRES.out.trans (if_neg hne))
   clear hne
   go_wp2_with fail
   exact ⟨_, results_tmp2 rfl _ _ _, by rw [HR.out]; rfl, HB2.out⟩
 | true =>
   have hsub : sDiff S (belS G.E.length) = 0 := of_decide_eq_true HQ.out.symm
   have hin : ∀ p ∈ elems S, p < G.E.length := fun p hp => by
     have h1 := (mem_elems hS).1 hp
     have h2 : (sDiff S (belS G.E.length)).testBit p = false := by rw [hsub]; simp
     rw [sDiff_testBit, h1] at h2
     have h3 : (belS G.E.length).testBit p = true := by simpa using h2
     rw [belS_bit] at h3
     simpa using h3
   have HIN := Lib.hid hin
   have HRE := Lib.hid (HRES.out.trans (if_pos hsub))
   clear hsub hin HQ HRES
   go_wp2_with fail
   refine (gedges_any g bV bE G HG.out w2 (H0.out.below HB2.out)).mono ?_
   rintro e w3 ⟨vE, rfl, hO3, hb3⟩
   obtain ⟨qa, qc, rfl⟩ := hO3.sl
   have hmE := HG.out.most
   have HR3 := Lib.hid ((row?_below hb3 hs2).trans HR2.out)
   have HB3 := Lib.hid (HB2.out.trans (hb3.mono HB2.out.size))
   have hs3 : w.heap.size < w3.heap.size := Nat.lt_of_lt_of_le hs2 hb3.size
   have HO3 := Lib.hid hO3
   have HRS : Hid (∀ o1 o2, row? ((w3.alloc o1).alloc o2) w.heap.size = some (words S)) := Lib.hid fun o1 o2 => (row?_alloc_past _ _ _ (by simp; omega)).trans ((row?_alloc_past _ _ _ hs3).trans HR3.out)
   have hrs := HRS.out
   obtain ⟨LE, hLE⟩ : ∃ n, n = G.E.length := ⟨_, rfl⟩
   have HLE := Lib.hid hLE
   rw [← hLE] at HO3 HIN hmE ⊢
   clear hO3 hb3 HR2 hs2 HRS hLE
   go_wp2_with fail
   generalize hW4 : World.alloc (World.alloc w3 _) _ = W4
   have hr4e : row? W4 w3.heap.size = some #[.slice qa LE qc] := by rw [← hW4]; exact (row?_alloc_past _ _ _ (by simp)).trans (row?_alloc_at _ _ _ _ rfl)
   have hr4l : row? W4 (w3.heap.size + 1) = some #[.slice none 0 0] := by
     rw [← hW4]
     have := row?_alloc_at (w3.alloc (.cells #[.slice qa LE qc] 131)) #[Value.slice none 0 0] 146 _ rfl
     simpa using this
   have hB4 : Below w3.heap.size w3 W4 := by rw [← hW4]; exact ((Below.refl _ w3).alloc (Nat.le_refl _) _).alloc (by simp) _
   have hs4 : W4.heap.size = w3.heap.size + 2 := by rw [← hW4]; simp
   have HO4 := Lib.hid (HO3.out.below hB4 (Nat.le_refl _))
   have HGE := Lib.hid fun g (hg : (Value.slice qa LE qc).ownBlock = some g) => HO3.out.lt g hg
   have HB4 := Lib.hid (HB3.out.trans (hB4.mono HB3.out.size))
   clear hW4 hB4 HO3 HB3 HR3 hrs
   refine (all_any S W4).mono ?_
   rintro e w5 ⟨rfl, hw5⟩
   have hb5 : Below W4.heap.size W4 w5 := by rw [← hw5]; exact (Below.refl _ _).alloc (Nat.le_refl _) _
   have hs5 : w5.heap.size = w3.heap.size + 3 := by rw [← hw5]; simp; omega
   have hE5 : row? w5 W4.heap.size = some (words S) := by rw [← hw5]; exact row?_alloc_at _ _ _ _ rfl
   have HR0 := Lib.hid ((row?_below hb5 (by omega)).trans hr4e)
   have HR2 := Lib.hid ((row?_below hb5 (by omega)).trans hr4l)
   have HB5 := Lib.hid (HB4.out.trans (hb5.mono HB4.out.size))
   have HT5 := Lib.hid (HTab.out.below HB5.out hgt)
   have HE5 := Lib.hid hE5
   have HO5 := Lib.hid (HO4.out.below hb5 (Nat.le_refl _))
   rw [hs4] at HE5 ⊢
   clear hw5 hb5 hE5 hr4e hr4l HTab HO4 HB4 hs4
   go_wp2_with fail
   refine (wpIn_wide (n := 0)).1 ?_
   refine wpIn_range_set 1 8 rfl (fun args w => by simp [go_sem]) (by omega) (enc := fun n : Nat => .int .i64 (n : Int)) (xs := elems S)
     (fun W hW _ => all1_iterates (w3.heap.size + 2) S hS W ((row?_below hW (by omega)).trans HE5.out) (HT5.out.below hW (by omega)) (by have := hW.size; omega))
     (fun M pre W => ∃ v, row? W (w3.heap.size + 1) = some #[v] ∧ OwnStr M W v (pre.map G.endsAt) ∧ Same (fun k => k < w3.heap.size + 1) w5 W) ?_ ?_ ?_ ?_ ?_
   · rintro M pre W W' hM hMW ⟨v, hr, hO, hs⟩ hsame
     exact ⟨v, (row?_congr (hsame.block _ (row?_lt hr) (.inl (by omega)))).trans hr, hO.same fun g hgv => hsame.block g (hO.lt g hgv) (.inr (hO.block g hgv)), hs.trans (hsame.mono fun k _ h => .inl (by omega))⟩
   · intro M W _ _ hb
     exact ⟨_, (row?_below hb (by omega)).trans HR2.out, OwnR.nil _ _, (Same.of_below hb).mono fun k _ h => by omega⟩
   · intro l x W K hK
     gi_wp2
     exact hK
   · rintro l0 M pre x W hM hMW ⟨v, hr, hO, hs⟩ ⟨r, hr0⟩
     have hxl : x < LE := HIN.out _ (by rw [hr0]; simp)
     have hlen : (pre.map G.endsAt).length ≤ 1024 := by
       have := elems_len2 S
       rw [hr0] at this
       simp at this ⊢
       omega
     obtain ⟨q, cq, rfl⟩ := hO.sl
     have HR := Lib.hid hr
     have HO := Lib.hid hO
     have HS := Lib.hid hs
     have hrowe := (row?_congr (hs.block _ (by omega) (by omega))).trans HR0.out
     obtain ⟨y, hy⟩ : ∃ y, G.E[x]? = some y := ⟨_, List.getElem?_eq_getElem (by rw [← HLE.out]; exact hxl)⟩
     have hym := List.mem_of_getElem? hy
     have hid := HG.out.endsI y hym
     have hat : G.endsAt x = endsB y := by unfold Gr.endsAt; rw [hy]; rfl
     obtain ⟨⟨yu, yv⟩, yt⟩ := y
     simp only at hid
     have HU := Lib.hid (inI_of (n := yu) (by omega) (by omega))
     have HV := Lib.hid (inI_of (n := yv) (by omega) (by omega))
     obtain ⟨ge, hge, hgel⟩ : ∃ ge, qa = some ⟨ge, 0, none⟩ ∧ ge < w3.heap.size := by
       rcases HO5.out.2 with ⟨h, h2⟩ | ⟨g, cap, cur, h, h2, h3, _⟩
       · simp only [Value.slice.injEq] at h
         have := hxl
         omega
       · simp only [Value.slice.injEq] at h
         exact ⟨g, h.1, HGE.out g (by rw [h.1]; rfl)⟩
     subst hge
     have hOW : OwnE w2.heap.size W (.slice (some ⟨ge, 0, none⟩) LE qc) G.E := HO5.out.same fun g hg => by
       cases hg
       exact hs.block ge (by omega) (by omega)
     have cu := (own_edge_cells hOW hy).1
     have cv := (own_edge_cells hOW hy).2.1
     have hBW : Below w.heap.size w W := HB5.out.trans (hs.below (by omega) fun k hk => by omega)
     have hlu := Lib.itoa_length_le yu HU.out.1 HU.out.2
     have hlv := Lib.itoa_length_le yv HV.out.1 HV.out.2
     have hgeW : ge < M := by omega
     have HFa := Lib.hid fun W' (hw : Below M W W') => show W'.cell? ⟨w3.heap.size, 0, none⟩ = some (.slice (some ⟨ge, 0, none⟩) LE qc) ∧ W'.cell? ⟨w3.heap.size + 1, 0, none⟩ = some (.slice q (pre.map G.endsAt).length cq) ∧ W'.cell? ⟨ge, x * 4, none⟩ = some (.int .i64 yu) ∧ W'.cell? ⟨ge, x * 4 + 1, none⟩ = some (.int .i64 yv) from
       ⟨(cell?_row (i := 0) ((row?_congr (hw.block _ (by omega))).trans hrowe)).trans rfl, (cell?_row (i := 0) ((row?_congr (hw.block _ (by omega))).trans hr)).trans rfl, (hw.cell (p := ⟨ge, x * 4, none⟩) hgeW).trans cu, (hw.cell (p := ⟨ge, x * 4 + 1, none⟩) hgeW).trans cv⟩
     have HPW := Lib.hid fun W' (hw : Below M W W') => HP.out.on (hBW.trans (hw.mono (by omega)))
     have HIu := Lib.hid fun W' (hw : Below M W W') => itoa_any yu HU.out W' (HPW.out W' hw)
     have HIv := Lib.hid fun W' (hw : Below M W W') => itoa_any yv HV.out W' (HPW.out W' hw)
     have a1 : (Lib.itoa yu).length ≤ 8388608 := by omega
     have a2 : ([45] : List UInt8).length ≤ 8388608 := by decide
     have a3 : (Lib.itoa yu ++ [45]).length ≤ 8388608 := by simp; omega
     have a4 : (Lib.itoa yv).length ≤ 8388608 := by omega
     have a5 : (Lib.itoa yu).length + 1 ≤ 8388608 := by omega
     have a6 : (Lib.itoa yu).length < 8388608 := by omega
     have a7 : (Lib.itoa yu).length ≤ 8388607 := by omega
     have HAT := Lib.hid hat
     have hszW := hs.size
     obtain ⟨acc, hacc⟩ : ∃ acc, acc = pre.map G.endsAt := ⟨_, rfl⟩
     rw [← hacc] at HO HR hlen HFa
     have HACC := Lib.hid hacc
     clear hr hO hs hr0 hy hym hid hat hrowe hOW cu cv hBW hlu hlv hacc
     gi_wp2_with fail
     refine wpIn_round_mix (fun w' => Below M W w') 17 [(0, true), (1, true), (2, true), (3, true), (4, true), (5, true), (8, true), (9, true), (10, true), (11, true), (12, true), (6, false), (7, true), (13, false), (14, true), (15, false), (16, false)] (by kernel_rfl) (by kernel_rfl) (by kernel_rfl) (by rintro ⟨a', w', h'⟩; exact h') ((Below.refl _ _).drew) ?_
     repeat (apply wpPlan_still rfl rfl; (intro w hw; obtain ⟨k1, k2, k3, k4⟩ := HFa.out _ hw; clear hw; go_simp; (try go_ints); (first | with_reducible rfl | (go_simp; with_reducible rfl))); (intro K hK; go_simp; (try go_ints); refine hK _ _ ?_; clear hK K))
     apply wpPlan_act rfl rfl
     intro K hK
     unfold Oper.wp
     go_simp
     refine (HIu.out _ (Below.refl _ _).drew).mono ?_
     rintro e wa ⟨rfl, hba⟩
     have hba' : Below M W wa := (Below.refl _ _).drew.trans (hba.mono (by simp; omega))
     have HBa2 := Lib.hid (show Below W.heap.size W wa from (Below.refl _ _).drew.trans (hba.mono (by simp)))
     refine hK _ _ hba' ?_
     clear hK K hba
     have HBa := Lib.hid hba'
     have hsa := hba'.size
     clear hba'
     repeat (apply wpPlan_still rfl rfl; (intro w hw; clear hw; go_simp; (try go_ints); (first | with_reducible rfl | (go_simp; with_reducible rfl))); (intro K hK; go_simp; (try go_ints); refine hK _ _ ?_; clear hK K))
     apply wpPlan_act rfl rfl
     intro K hK
     unfold Oper.wp
     go_simp
     refine (HIv.out _ HBa.out).mono ?_
     rintro e wb ⟨rfl, hbb⟩
     have hbb' : Below M W wb := HBa.out.trans (hbb.mono (by omega))
     have HBb2 := Lib.hid (show Below W.heap.size W wb from HBa2.out.trans (hbb.mono HBa2.out.size))
     refine hK _ _ hbb' ?_
     clear hK K hbb HBa
     have HBb := Lib.hid hbb'
     have hsb := hbb'.size
     clear hbb'
     repeat (apply wpPlan_still rfl rfl; (intro w hw; clear hw; go_simp; (try go_ints); (first | with_reducible rfl | (go_simp; with_reducible rfl))); (intro K hK; go_simp; (try go_ints); refine hK _ _ ?_; clear hK K))
     apply wpPlan_act rfl rfl
     intro K hK
     unfold Oper.wp
     go_simp
     refine hK _ _ (HBb.out.alloc (by omega) _) ?_
     clear hK K
     have hOb := (HO.out.below HBb2.out (Nat.le_refl _)).alloc (.cells #[.string ⟨(Lib.itoa yu ++ 45 :: Lib.itoa yv).toArray⟩] 9)
     have HOb := Lib.hid hOb
     clear hOb
     apply wpPlan_act rfl rfl
     intro K hK
     refine wp_appO elStr 146 Tryz.underlying146 _ _ rfl M _ acc rfl HOb.out _ (Lib.itoa yu ++ 45 :: Lib.itoa yv) _ rfl (row?_alloc_at _ _ _ _ rfl) (by omega) (by simp; omega) ?_
     intro v2 w2 hO2 hb2 hg2 hl2
     have hMb : Below M W w2 := (HBb.out.alloc (by omega) _).trans hb2
     refine hK _ _ hMb ?_
     clear hK K
     refine wpPlan_nil ?_
     have hr2 : row? w2 (w3.heap.size + 1) = some #[.slice q acc.length cq] := (row?_congr (hMb.block _ (by omega))).trans HR.out
     have hfz2 := frozen?_row (i := 0) hr2
     have k2 := cell?_row (i := 0) hr2
     simp at k2
     have hlt2 := row?_lt hr2
     have HR2' := Lib.hid hr2
     have HO2 := Lib.hid hO2
     have HMb := Lib.hid hMb
     obtain ⟨q2, c2, rfl⟩ := hO2.sl
     clear hO2 hb2 hg2 hl2 hr2 hMb
     go_wp2_with fail
     have hMs := HMb.out.size
     have hk2 : ∀ v k, k < M → k ≠ w3.heap.size + 1 → (w2.setCell ⟨w3.heap.size + 1, 0, none⟩ v).heap[k]? = W.heap[k]? := fun v k hk hne => (heap_setCell_other _ _ k _ hne).trans (HMb.out.block k hk)
     refine ⟨⟨_, ⟨_, HR2'.out, rfl⟩, ?_, ?_⟩, ?_⟩
     · have hO2 := HO2.out
       rw [List.length_append] at hO2
       rw [← HACC.out, HAT.out]
       exact hO2.same fun g hg' => heap_setCell_other _ _ g _ (by have := hO2.block g hg'; show g ≠ w3.heap.size + 1; omega)
     · refine HS.out.trans ⟨HMb.out.os, HMb.out.tape, HMb.out.output, by simp; omega, fun k hk hk' => hk2 _ k (by omega) (by omega)⟩
     · exact ⟨HMb.out.os, HMb.out.tape, HMb.out.output, by simp; omega, fun k hk hk' => hk2 _ k (by omega) (by omega)⟩
   · rintro D M W hD hDM hMW ⟨v, hr, hO, hs⟩ hK
     have k1 := cell?_row (i := 0) hr
     simp at k1
     have HO := Lib.hid hO
     have HS := Lib.hid hs
     have HK := Lib.hid hK
     clear hr hO hs hK
     have hll := elems_len2 S
     have hjl : (Lib.join ((elems S).map G.endsAt) [32]).length ≤ 1000000 := by
       refine Nat.le_trans (join_len (b := 43) (fun l hl => ?_) [32]) (by simp; omega)
       obtain ⟨p, hp, rfl⟩ := List.mem_map.1 hl
       have hpl := HIN.out p hp
       obtain ⟨y, hy⟩ : ∃ y, G.E[p]? = some y := ⟨_, List.getElem?_eq_getElem (by rw [← HLE.out]; exact hpl)⟩
       have hid := HG.out.endsI y (List.mem_of_getElem? hy)
       have h1 := inI_of (n := y.1.1) (by omega) (by omega)
       have h2 := inI_of (n := y.1.2) (by omega) (by omega)
       have h3 := Lib.itoa_length_le _ h1.1 h1.2
       have h4 := Lib.itoa_length_le _ h2.1 h2.2
       unfold Gr.endsAt
       rw [hy]
       unfold endsB
       simp
       omega
     have HJ := Lib.hid (join_own M ((elems S).map G.endsAt) v W HO.out [32] (by simp; omega) hjl)
     obtain ⟨js, hjs⟩ : ∃ js, js = Lib.join ((elems S).map G.endsAt) [32] := ⟨_, rfl⟩
     have HJS : Hid (G.endsText S = [123] ++ js ++ [125]) := Lib.hid (by rw [hjs]; rfl)
     rw [← hjs] at HJ hjl
     clear hjs
     have b1 : ([123] : List UInt8).length ≤ 8388608 := by decide
     have b2 : js.length ≤ 8388608 := by omega
     have b3 : ([125] : List UInt8).length ≤ 8388608 := by decide
     have b4 : js.length + 1 ≤ 8388608 := by omega
     have b5 : js.length < 8388608 := by omega
     have b6 : js.length ≤ 8388607 := by omega
     have hszW := HS.out.size
     go_wp2_with fail
     refine HJ.out.mono ?_
     rintro r w6 ⟨rfl, hb6⟩
     have hKD : w6.heap[D]? = some (.deferred (some [])) := (hb6.block D (by omega)).trans HK.out
     have HKD := Lib.hid hKD
     have HB6 := Lib.hid ((HB5.out.trans (HS.out.below (by omega) fun k hk => by omega)).trans (hb6.mono (by omega)))
     clear hb6 hKD HJ
     go_wp2_with fail
     refine ⟨by simp, .inl ⟨_, _, rfl, run_takeDeferred HKD.out, ?_⟩⟩
     have hp : Same (fun k => k ≠ D) w6 (w6.putObj D (.deferred none)) := Same.putObj _ w6 D _ (by simp)
     refine ⟨_, results_tmp2 rfl _ _ _, ?_, ?_⟩
     · rw [HRE.out, HJS.out]
       rfl
     · have hs6 := HB6.out.size
       exact HB6.out.trans (hp.below hs6 fun k hk => by omega)
end Go.Proofs.YtglnhnjmelilmaaGreatDoor
namespace Go.Pal
open Go Go.RowKit
def ke1 : Ed := ⟨0, 3, 0, 0, 0⟩
def ke2 : Ed := ⟨0, 1, 0, 0, 0⟩
def ke3 : Ed := ⟨2, 3, 1, 0, -2⟩
theorem ke1_wf : ke1.Wf := ⟨⟨by decide, by decide⟩, ⟨by decide, by decide⟩, ⟨by decide, by decide⟩, by decide, ⟨by decide, by decide⟩⟩
theorem ke2_wf : ke2.Wf := ⟨⟨by decide, by decide⟩, ⟨by decide, by decide⟩, ⟨by decide, by decide⟩, by decide, ⟨by decide, by decide⟩⟩
theorem ke3_wf : ke3.Wf := ⟨⟨by decide, by decide⟩, ⟨by decide, by decide⟩, ⟨by decide, by decide⟩, by decide, ⟨by decide, by decide⟩⟩
def kg1 : Gr := ⟨[(3, (0, 0))], []⟩
def kg2 : Gr := ⟨[(1, (0, 0)), (3, (0, 0))], []⟩
def kg3 : Gr := ⟨[(1, (0, 0)), (3, (0, 0))], [((1, 3), (0, -2))]⟩
theorem kg1_of : Gr.none.app ke1 = kg1 := by kernel_rfl
theorem kg2_of : kg1.app ke2 = kg2 := by kernel_rfl
theorem kg3_of : kg2.app ke3 = kg3 := by kernel_rfl
theorem itoa_d {i : Nat} (h : i < 10) : Lib.itoa (i : Int) = [UInt8.ofNat (48 + i)] := by
 unfold Lib.itoa
 rw [if_neg (by omega), Int.toNat_natCast, Lib.decDigits_one h]
theorem itoa_m2 : Lib.itoa (-2) = [45, 50] := by
 unfold Lib.itoa
 rw [if_pos (by decide), show (-2 : Int).natAbs = 2 from rfl, Lib.decDigits_one (by decide)]
 rfl
theorem itoa_0 : Lib.itoa 0 = [48] := itoa_d (i := 0) (by decide)
theorem itoa_1 : Lib.itoa 1 = [49] := itoa_d (i := 1) (by decide)
theorem itoa_3 : Lib.itoa 3 = [51] := itoa_d (i := 3) (by decide)
theorem kg3_text : kg3.text = [118, 101, 114, 116, 101, 120, 32, 49, 32, 48, 32, 48, 10, 118, 101, 114, 116, 101, 120, 32, 51, 32, 48, 32, 48, 10, 101, 100, 103, 101, 32, 49, 32, 51, 32, 48, 32, 45, 50, 10] := by
 unfold Gr.text kg3 vLine eLine lineB spNum
 simp [itoa_0, itoa_1, itoa_3, itoa_m2]
theorem isSet_1 : IsSet 1 := fun n h => by
 rcases Nat.lt_or_ge n 1024 with h' | h'
 · exact h'
 · rw [Nat.testBit_lt_two_pow (Nat.one_lt_two_pow (by omega))] at h
   cases h
theorem elems_1 : elems 1 = [0] := by kernel_rfl
theorem kg3_ends : kg3.endsText 1 = [123, 49, 45, 51, 125] := by
 unfold Gr.endsText
 rw [elems_1]
 simp [Gr.endsAt, kg3, endsB, itoa_1, itoa_3, Lib.join, List.intercalate]
end Go.Pal
namespace Go.Proofs.YtglnhnjmelilmaaGreatDoor
open Go Go.RowKit Go.Pal Go.Shelf
attribute [local go_sem] Oper.semAt_some
def Tab3 (w : World) : Prop := (TabOk w ∧ 1 < w.heap.size) ∧ Pow w
theorem Tab3.on {w w' : World} (h : Tab3 w) (hb : Below w.heap.size w w') : Tab3 w' := ⟨⟨h.1.1.below hb h.1.2, Nat.lt_of_lt_of_le h.1.2 hb.size⟩, h.2.on hb⟩
theorem rdl_row2 {w : World} {g : Nat} {l : List Int} (h : row? w g = some (l.map (Value.int .i64)).toArray) : RdL w (.slice (some ⟨g, 0, none⟩) l.length l.length) l := by
 refine ⟨_, _, rfl, .inr ⟨g, 0, rfl, row?_lt h, fun i z hz => ?_⟩⟩
 rw [Nat.zero_add, cell?_row h]
 simp [hz]
@[go_sem ↓ high] theorem b_Ed1c (u : Int) (w : World) : (Instr.build 23 #[(1, .int .i64 u)]).run Tryz.prog w = .ok (.agg #[.int .i64 0, .int .i64 u, .int .i64 0, .int .u8 0, .int .i64 0]) w := by kernel_rfl
@[go_sem ↓ high] theorem b_Ed4 (o u v t : Int) (w : World) : (Instr.build 23 #[(0, .int .i64 o), (1, .int .i64 u), (2, .int .i64 v), (4, .int .i64 t)]).run Tryz.prog w = .ok (.agg #[.int .i64 o, .int .i64 u, .int .i64 v, .int .u8 0, .int .i64 t]) w := by kernel_rfl
@[go_sem ↓ high] theorem b_Ed1' (o u : Int) (w : World) : (Instr.build 23 #[(0, .int .i64 o), (1, .int .i64 u)]).run Tryz.prog w = .ok (.agg #[.int .i64 o, .int .i64 u, .int .i64 0, .int .u8 0, .int .i64 0]) w := by kernel_rfl
@[go_sem ↓ high] theorem bs_I1 (x : Int) (w : World) : (Instr.buildSlice 82 1 #[(0, .int .i64 x)]).run Tryz.prog w = .ok (.slice (some ⟨w.heap.size, 0, none⟩) 1 1) (w.alloc (.cells #[.int .i64 x] 3)) := by kernel_rfl
theorem known06_any (w : World) (hT : Tab3 w) : Calls Tryz.prog 10 #[] w fun e w' => e = .returned (.bool true) ∧ Below w.heap.size w w' := by
 have HT := Lib.hid hT
 clear hT
 go_enter Tryz.func10, Tryz.ntmps10
 go_wp2_with fail
 refine (gnew_ok w).mono ?_
 rintro e w1 ⟨g, bV, bE, rfl, hG1, hg0, hV0, hE0, hb1⟩
 have hA1 := gapply_any ke1 ke1_wf (.inl rfl) g bV bE Gr.none gr_none_ok w1 hG1
 rw [kg1_of] at hA1
 have HA1 := Lib.hid hA1
 have HB1 := Lib.hid hb1
 clear hG1 hb1 hA1
 go_wp2_with fail
 refine HA1.out.mono ?_
 rintro r w2 ⟨rfl, hG2, hS2⟩
 have hB2 : Below w.heap.size w w2 := HB1.out.trans (hS2.below HB1.out.size fun j hj => by omega)
 have hA2 := gapply_any ke2 ke2_wf (.inl rfl) g bV bE kg1 (by rw [← kg1_of]; exact gr_none_ok.app ke1_wf) w2 hG2
 rw [kg2_of] at hA2
 have HA2 := Lib.hid hA2
 have HB2 := Lib.hid hB2
 clear hG2 hS2 hB2 hA2 HA1
 go_wp2_with fail
 refine HA2.out.mono ?_
 rintro r w3 ⟨rfl, hG3, hS3⟩
 have hB3 : Below w.heap.size w w3 := HB2.out.trans (hS3.below HB2.out.size fun j hj => by omega)
 have hok2 : kg2.Ok := by rw [← kg2_of, ← kg1_of]; exact (gr_none_ok.app ke1_wf).app ke2_wf
 have hA3 := gapply_any ke3 ke3_wf (.inr rfl) g bV bE kg2 hok2 w3 hG3
 rw [kg3_of] at hA3
 have HA3 := Lib.hid hA3
 have HB3 := Lib.hid hB3
 have hok3 : kg3.Ok := by rw [← kg3_of]; exact hok2.app ke3_wf
 have HOK := Lib.hid hok3
 clear hG3 hS3 hB3 hA3 HA2 hok2 hok3
 go_wp2_with fail
 refine HA3.out.mono ?_
 rintro r w4 ⟨rfl, hG4, hS4⟩
 have hB4 : Below w.heap.size w w4 := HB3.out.trans (hS4.below HB3.out.size fun j hj => by omega)
 have HB4 := Lib.hid hB4
 have HG4 := Lib.hid hG4
 have hro : row? (w4.alloc (.cells #[.int .i64 0] 3)) w4.heap.size = some (([0] : List Int).map (Value.int .i64)).toArray := row?_alloc_at _ _ _ _ rfl
 have HOf := Lib.hid (of_any [0] _ _ (rdl_row2 hro) (by decide))
 clear hG4 hS4 hB4 HA3 hro
 go_wp2_with fail
 refine HOf.out.mono ?_
 rintro r w5 ⟨rfl, hb5⟩
 have hb45 : Below w4.heap.size w4 w5 := ((Below.refl _ w4).alloc (Nat.le_refl _) _).trans (hb5.mono (by simp))
 rw [show ofTo [0] ([0] : List Int).length = 1 by kernel_rfl]
 have HG5 := Lib.hid (HG4.out.below hb45)
 have HB5 := Lib.hid (HB4.out.trans (hb45.mono HB4.out.size))
 clear hb5 hb45 HOf
 have hT5 := HT.out.on HB5.out
 have hES := edgeSet_any g bV bE kg3 HOK.out 1 isSet_1 w5 HG5.out hT5.2 hT5.1.1 hT5.1.2
 rw [if_pos (by kernel_rfl), kg3_ends] at hES
 have HES := Lib.hid hES
 clear hT5 hES
 go_wp2_with fail
 refine HES.out.mono ?_
 rintro r w6 ⟨rfl, hb6⟩
 have HB6 := Lib.hid (HB5.out.trans (hb6.mono HB5.out.size))
 have hF := format_any g bV bE kg3 HOK.out w6 (HG5.out.below hb6) ((HT.out.on HB6.out).2)
 rw [kg3_text] at hF
 have HF := Lib.hid hF
 clear hb6 hF HES
 go_wp2_with fail
 refine HF.out.mono ?_
 rintro r w7 ⟨rfl, hb7⟩
 have HB7 := Lib.hid (HB6.out.trans (hb7.mono HB6.out.size))
 clear hb7 HF
 go_wp2_with fail
 go_ret
 exact ⟨rfl, HB7.out⟩
end Go.Proofs.YtglnhnjmelilmaaGreatDoor
