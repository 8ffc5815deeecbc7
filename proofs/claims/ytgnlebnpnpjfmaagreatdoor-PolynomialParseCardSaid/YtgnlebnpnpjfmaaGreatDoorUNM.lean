/- Walk of package bignat: short (division by one word). -/
import Derived.Test.YtgnlebnpnpjfmaaGreatDoorUNK
import Derived.Test.YtgnlebnpnpjfmaaGreatDoorUNH
set_option linter.all false
namespace Go.Pal
open Go Go.RowKit
theorem RdN.putObj {k : IntKind} {w : World} {v : Value} {l : List Nat} {D : Nat} {ds : Option (List Deferred)} (h : RdN k w v l) (hg : w.heap[D]? = some (.deferred ds)) (o : Obj) : RdN k (w.putObj D o) v l := by
 obtain ⟨a, cc, hv, hcap, h⟩ := h
 refine ⟨a, cc, hv, hcap, ?_⟩
 cases l with
 | nil => exact .inl rfl
 | cons x r =>
   rcases h with h | ⟨b, off, ha, hbB, hcell, hz⟩
   · cases h
   · have hb : b ≠ D := by
       rintro rfl
       have h0 := hcell 0 x rfl
       simp [World.cell?, hg] at h0
     exact .inr ⟨b, off, ha, by simpa using hbB, fun i y hy => (World.cell?_of_block (World.putObj_heap_other hb)).trans (hcell i y hy), hz⟩
section
variable {P : Program}
theorem wpIn_round_mix {id l0 : Nat} {Q : Exit → Act → World → Prop} {a : Act} {w : World} {l : List Oper} (S : World → Prop) (n : Nat) (plan : List (Nat × Bool)) (hm : P.follows .mixedOrders = true) (hB : Region.mixB .any l.toArray n plan = true)
   (hD : Region.noDefer l.toArray = true) (hno : ¬ LetsOut Q) (hS : S w.drew)
   (h : wpPlan P l.toArray S noQ (fun a' w' => wpList P l.toArray Q (l.drop n) a' w') plan a w.drew) : (Code.region id l.toArray true).wpIn (Fence.wide.inRound l0) 0 P Q a w := by
 simp only [Region.mixB, Bool.and_eq_true, decide_eq_true_eq] at hB
 obtain ⟨⟨⟨⟨⟨hsel, hn⟩, hs⟩, hc⟩, hpl⟩, hplan⟩ := hB
 have hdl : (l.drop n).length = l.toArray.size - n := by simp
 have inv0 : HeadInv .any l.toArray n (Array.replicate l.toArray.size false) :=
   ⟨by simp, fun j oj _ hl => (by rw [getD_replicate_false] at hl; cases hl), fun t _ ht => getD_in (by simpa using ht) (getD_replicate_false _ _)⟩
 have H := wpAnyH_plan (md := .any) (Q := noQ) (g := l.toArray.size - n) hsel hs hc hn (fun _ _ _ _ h => h) plan _ a w.drew inv0 hplan hS h
 refine wpIn_region_any hm (wpAnyIn_round_of hno (Region.noDefer_spec hD) _ _ _ _ ?_)
 have := wpAny_of_headH (Q := Q) (g := l.toArray.size - n) (fun listed a' w' hL => by
   have := wpAny_of_seq (md := .any) (Q' := Q) (l.drop n) n listed a' w' (fun j => by simp [List.getElem?_drop]) (by rw [hdl]; exact hL.1) hL.2
   rwa [hdl] at this) _ _ _ _ H
 rw [hpl, show n + (l.toArray.size - n) = l.toArray.size by omega] at this
 exact this
theorem results_row_tmp {fn : Func} {p q : Tmp} {ty n : Nat} (h : fn.results = #[.cell p ty, .tmp q]) (hagg : ∀ w, (isAgg ty).run P w = .ok true w) (hn : ∀ w, (sizeOf ty).run P w = .ok n w)
   (tmps : Array Value) (w : World) (g : Nat) (c : Array Value) (hp : tmps.getD p undef = .pointer (some ⟨g, 0, none⟩)) (hg : row? w g = some c) (hc : c.size = n) :
   (results fn tmps).run P w = .ok (.tuple #[.agg c, tmps.getD q undef]) w := by
 have hp' : tmps[p]?.getD undef = .pointer (some ⟨g, 0, none⟩) := by simpa using hp
 have hl := load_row (P := P) hagg hn w g
 rw [hg] at hl
 simp only [hc, if_true] at hl
 unfold rowLoad at hl
 simp [results, h, hp', asAddr, hl]
end
end Go.Pal
namespace Go.Proofs.YtgnlebnpnpjfmaaGreatDoor
open Go Go.RowKit Go.Pal
attribute [local go_sem] Oper.semAt_some
set_option maxRecDepth 10000 in
set_option maxHeartbeats 2000000 in
theorem nshort_any (m n : Nat) (va : Value) (w : World) (ha : NatV w va m) (hm : Fit m) (hn : 0 < n) (hn2 : n < 2147483648) :
   Calls Tryz.prog 75 #[va, .int .u64 (n : Int)] w fun e w' => ∃ v', e = .returned (.tuple #[v', .int .u64 ((m % n : Nat) : Int)]) ∧ NatV w' v' (m / n) ∧ Below w.heap.size w w' := by
 obtain ⟨sa, sc, rfl, hra⟩ := natV_sl ha
 have hlm := natLen hm
 have hdiv := Lib.hid (short_digits (b := 4294967296) (by decide) hn m)
 obtain ⟨x, hx⟩ : ∃ x, x = digB 4294967296 m := ⟨_, rfl⟩
 have hxo : DigOk 4294967296 x := by rw [hx]; exact digB_ok (by decide) m
 rw [← hx] at hra hlm hdiv ⊢
 have hmk := make_W x.length (by omega)
 obtain ⟨W0, hW0⟩ : ∃ W0, ((((((w.alloc (.cells #[.slice sa x.length sc] 49)).alloc (.cells #[.int .u64 (n : Int)] 51)).alloc (.cells #[.slice none 0 0] 49)).alloc (.cells (wordsA (List.replicate x.length 0)) 68)).alloc (.cells #[.slice (some ⟨w.heap.size + 1 + 1 + 1, 0, none⟩) x.length x.length] 47)).alloc (.cells #[.int .u64 0] 51)) = W0 := ⟨_, rfl⟩
 have hb0 : Below w.heap.size w W0 := by
   rw [← hW0]
   exact ((((((Below.refl _ _).alloc (Nat.le_refl _) _).alloc (by simp) _).alloc (by simp; omega) _).alloc (by simp; omega) _).alloc (by simp; omega) _).alloc (by simp; omega) _
 have e0 : row? W0 w.heap.size = some #[.slice sa x.length sc] := by rw [← hW0]; simp [go_sem]
 have e1 : row? W0 (w.heap.size + 1) = some #[.int .u64 (n : Int)] := by rw [← hW0]; simp [go_sem]
 have e2 : row? W0 (w.heap.size + 1 + 1) = some #[.slice none 0 0] := by rw [← hW0]; simp [go_sem]
 have e3 : row? W0 (w.heap.size + 1 + 1 + 1) = some (wordsA (List.replicate x.length 0)) := by rw [← hW0]; simp [go_sem]
 have e4 : row? W0 (w.heap.size + 1 + 1 + 1 + 1) = some #[.slice (some ⟨w.heap.size + 1 + 1 + 1, 0, none⟩) x.length x.length] := by rw [← hW0]; simp [go_sem]
 have e5 : row? W0 (w.heap.size + 1 + 1 + 1 + 1 + 1) = some #[.int .u64 0] := by rw [← hW0]; simp [go_sem]
 have hs0 : W0.heap.size = w.heap.size + 6 := by rw [← hW0]; simp
 have k0 : W0.cell? ⟨w.heap.size, 0, none⟩ = some (.slice sa x.length sc) := cell?_row (i := 0) e0
 have hrw := hra.below hb0
 have HE := Lib.hid (And.intro e1 (And.intro e2 (And.intro e3 (And.intro e4 e5))))
 have HB0 := Lib.hid hb0
 have HXO := Lib.hid hxo
 have HRA := Lib.hid hrw
 have HRA0 := Lib.hid hra
 have HS0 := Lib.hid hs0
 clear ha hm hx hb0 hra e0 e1 e2 e3 e4 e5 hrw hxo hs0
 refine calls_of_wp_marks Tryz.func75 rfl ?_
 simp only [Tryz.ntmps75, List.size_toArray, List.length_cons, List.length_nil, Nat.reduceAdd, Nat.reduceSub, Array.replicate_succ, Array.replicate_zero, List.push_toArray, List.append_toArray, List.nil_append, List.cons_append]
 go_wp2_with fail
 clear k0 hW0 hmk
 refine (backward_any sa x.length sc W0).mono ?_
 rintro r W1 ⟨rfl, hW1⟩
 have hb1 : Below W0.heap.size W0 W1 := by rw [hW1]; exact (Below.refl _ _).alloc (Nat.le_refl _) _
 have hrb : row? W1 (w.heap.size + 6) = some #[.slice sa x.length sc] := by rw [hW1, ← HS0.out]; exact row?_alloc_at _ _ _ _ rfl
 have hs1 : W1.heap.size = w.heap.size + 7 := by rw [hW1]; have := HS0.out; simp; omega
 obtain ⟨f1, f2, f3, f4, f5⟩ := HE.out
 have hs0 := HS0.out
 have HE1 := Lib.hid (And.intro ((row?_below hb1 (by omega)).trans f1) (And.intro ((row?_below hb1 (by omega)).trans f2) (And.intro ((row?_below hb1 (by omega)).trans f3) (And.intro ((row?_below hb1 (by omega)).trans f4) ((row?_below hb1 (by omega)).trans f5)))))
 have HB1 := Lib.hid (HB0.out.trans (hb1.mono (by omega)))
 have HRA1 := Lib.hid (HRA.out.below hb1)
 have HRB := Lib.hid hrb
 have HS1 := Lib.hid hs1
 have hlow : ∀ ba off, sa = some ⟨ba, off, none⟩ → x ≠ [] → ba < w.heap.size := by
   intro ba off hsa hne
   obtain ⟨a', c', hv, -, h⟩ := HRA0.out
   simp only [Value.slice.injEq] at hv
   rcases h with h | ⟨b, o, h1, h2, -⟩
   · exact absurd h hne
   · rw [← hv.1, hsa] at h1
     simp only [Option.some.injEq, Addr.mk.injEq] at h1
     omega
 rw [hs0]
 clear hW1 hb1 hrb hs1 f1 f2 f3 f4 f5 HE HB0 HRA HRA0 hs0 HS0
 go_wp2_with fail
 refine (wpIn_wide (n := 0)).1 ?_
 refine wpIn_range_set2 (fun k => k = w.heap.size + 6 ∨ k < w.heap.size) 8 9 (gf := 127) (lb := #[.pointer (some ⟨w.heap.size + 6, 0, none⟩)]) rfl (fun args w => by simp [go_sem]) (u1 := fun y : Nat × Nat => .int .i64 (y.1 : Int)) (u2 := fun y : Nat × Nat => .int .u32 (y.2 : Int)) (xs := bwd x)
   (fun k hk => by have := HS1.out; omega)
   (fun W hW _ => backward1_iterates _ (w.heap.size + 6) sa sc x (by omega) W ((row?_below hW (by have := HS1.out; omega)).trans HRB.out) (HRA1.out.below hW) (.inl rfl) (fun ba off h1 h2 => .inr (hlow ba off h1 h2)) (fun k hk => by have := HS1.out; have := hW.size; omega))
   (fun M pre W => pre.length ≤ x.length ∧ row? W (w.heap.size + 1 + 1 + 1) = some (wordsA (shortS 4294967296 n x (x.length - pre.length)).1) ∧ row? W (w.heap.size + 1 + 1 + 1 + 1 + 1) = some #[.int .u64 ((shortS 4294967296 n x (x.length - pre.length)).2 : Int)] ∧ Same (fun k => k < w.heap.size + 7 ∧ k ≠ w.heap.size + 1 + 1 + 1 ∧ k ≠ w.heap.size + 1 + 1 + 1 + 1 + 1) W1 W) ?_ ?_ ?_ ?_ ?_
 · rintro M pre W W' hM hMW ⟨h1, h2, h3, h4⟩ hsame
   have := HS1.out
   exact ⟨h1, (row?_congr (hsame.block _ (row?_lt h2) (.inl (by omega)))).trans h2, (row?_congr (hsame.block _ (row?_lt h3) (.inl (by omega)))).trans h3, h4.trans (hsame.mono fun k _ h => .inl (by omega))⟩
 · intro M W _ _ hb
   have := HS1.out
   obtain ⟨-, -, f3, -, f5⟩ := HE1.out
   refine ⟨by simp, ?_, ?_, (Same.of_below hb).mono fun k _ h => by omega⟩
   · rw [List.length_nil, Nat.sub_zero, shortS_all]; exact (row?_below hb (by omega)).trans f3
   · rw [List.length_nil, Nat.sub_zero, shortS_all]; exact (row?_below hb (by omega)).trans f5
 · intro l y W K hK
   gi_wp2
   exact hK
 · rintro l0 M pre y W hM hMW ⟨h1, h2, h3, h4⟩ ⟨r, hr0⟩
   have hyk : (bwd x)[pre.length]? = some y := by rw [hr0]; simp
   have hkl : pre.length < x.length := by
     have := (List.getElem?_eq_some_iff.1 hyk).1
     rwa [bwd_len] at this
   obtain ⟨mm, hmm⟩ : ∃ mm, mm = x.length - 1 - pre.length := ⟨_, rfl⟩
   have hm1 : x.length - pre.length = mm + 1 := by omega
   have hm2 : x.length - (pre ++ [y]).length = mm := by simp; omega
   rw [bwd_at hkl, ← hmm] at hyk
   simp only [Option.some.injEq] at hyk
   subst hyk
   have hmx : mm < x.length := by omega
   have hpl : (pre ++ [(mm, atB x mm)]).length ≤ x.length := by simp; omega
   have hst := shortS_step (b := 4294967296) (n := n) hmx
   obtain ⟨hol, hrl⟩ := shortS_len (b := 4294967296) hn HXO.out (m := mm + 1) (by omega)
   have hXl := atB_lt (by decide) HXO.out mm
   rw [hm1] at h2 h3
   rw [hm2]
   obtain ⟨X, hX⟩ : ∃ X, X = atB x mm := ⟨_, rfl⟩
   obtain ⟨O, hO⟩ : ∃ O, O = (shortS 4294967296 n x (mm + 1)).1 := ⟨_, rfl⟩
   obtain ⟨R, hR⟩ : ∃ R, R = (shortS 4294967296 n x (mm + 1)).2 := ⟨_, rfl⟩
   rw [← hX] at hst hXl hpl ⊢
   rw [← hO] at h2 hol hst
   rw [← hR] at h3 hrl hst
   have hs1 := HS1.out
   obtain ⟨f1, -, -, f4, -⟩ := HE1.out
   have q1 := (row?_congr (h4.block (w.heap.size + 1) (by omega) ⟨by omega, by omega, by omega⟩)).trans f1
   have q4 := (row?_congr (h4.block (w.heap.size + 1 + 1 + 1 + 1) (by omega) ⟨by omega, by omega, by omega⟩)).trans f4
   have c5 : W.cell? ⟨w.heap.size + 1 + 1 + 1 + 1 + 1, 0, none⟩ = some (.int .u64 (R : Int)) := cell?_row (i := 0) h3
   have hsW := h4.size
   have HH := Lib.hid (And.intro h2 (And.intro h3 (And.intro q1 (And.intro q4 h4))))
   have HST := Lib.hid hst
   have HPL := Lib.hid hpl
   have HX := Lib.hid hX
   clear hr0 hX hO hR h2 h3 h4 f1 f4 q1 q4 hst hpl hm1 hm2 hmm hkl h1
   obtain ⟨sv, hsv⟩ : ∃ sv, sv = R * 4294967296 + X := ⟨_, rfl⟩
   have hor : bits .or .u64 ((R : Int) * 4294967296) (X : Int) = (sv : Int) := by
     have h := u64_or_nat (R * 4294967296) X (by omega) (by omega)
     have h2 : R * 4294967296 ||| X = sv := by
       have := Nat.two_pow_add_eq_or_of_lt (i := 32) (b := X) (by omega) R
       rw [hsv, Nat.mul_comm R]
       exact this.symm
     rw [h2, Int.natCast_mul] at h
     exact h
   have hsl : sv < 18446744073709551616 := by omega
   obtain ⟨q, hq⟩ : ∃ q, q = sv / n := ⟨_, rfl⟩
   obtain ⟨u, hu⟩ : ∃ u, u = sv % n := ⟨_, rfl⟩
   have hql : q < 4294967296 := by
     rw [hq, Nat.div_lt_iff_lt_mul hn]
     have : (R + 1) * 4294967296 ≤ n * 4294967296 := Nat.mul_le_mul_right _ hrl
     rw [Nat.add_mul, Nat.one_mul] at this
     rw [Nat.mul_comm 4294967296 n]
     omega
   have g1 : (sv : Int).tdiv (n : Int) = (q : Int) := by rw [Int.tdiv_eq_ediv_of_nonneg (by omega), hq]; exact (Int.natCast_ediv _ _).symm
   have g2 : (sv : Int).tmod (n : Int) = (u : Int) := by rw [Int.tmod_eq_emod_of_nonneg (by omega), hu]; exact (Int.natCast_emod _ _).symm
   have g3 : (sv : Int) / (n : Int) = (q : Int) := by rw [hq]; exact (Int.natCast_ediv _ _).symm
   have g4 : (sv : Int) % (n : Int) = (u : Int) := by rw [hu]; exact (Int.natCast_emod _ _).symm
   have g5 : ¬ (n : Int) = 0 := by omega
   have g6 : ¬ n = 0 := by omega
   rw [← hsv, ← hq, ← hu] at HST
   have g7 : (mm : Int) < (x.length : Int) := by omega
   clear hsv hq hu
   gi_wp2_with fail
   clear hor c5
   have hS : ∀ W', Same (fun k => k ≠ w.heap.size + 1 + 1 + 1) W W' → W'.cell? ⟨w.heap.size + 1 + 1 + 1 + 1, 0, none⟩ = some (.slice (some ⟨w.heap.size + 1 + 1 + 1, 0, none⟩) x.length x.length) ∧ W'.cell? ⟨w.heap.size + 1, 0, none⟩ = some (.int .u64 (n : Int)) := fun W' h =>
     ⟨cell?_row (i := 0) ((row?_congr (h.block _ (by omega) (by omega))).trans HH.out.2.2.2.1), cell?_row (i := 0) ((row?_congr (h.block _ (by omega) (by omega))).trans HH.out.2.2.1)⟩
   have HSS := Lib.hid hS
   clear hS
   refine wpIn_round_mix (fun W' => Same (fun k => k ≠ w.heap.size + 1 + 1 + 1) W W') 11 [(0, true), (1, true), (2, true), (3, true), (4, true), (5, true), (6, true), (7, true), (8, true), (9, true), (10, false)] (by kernel_rfl) (by kernel_rfl) (by kernel_rfl) (by rintro ⟨a', w', h'⟩; exact h') (Same.drew _ _) ?_
   repeat (apply wpPlan_still rfl rfl; (intro w hw; obtain ⟨k1, k2⟩ := HSS.out _ hw; clear hw; go_simp; (try go_ints); (first | with_reducible rfl | (go_simp; with_reducible rfl))); (intro K hK; go_simp; (try go_ints); refine hK _ _ ?_; clear hK K))
   have hzl : mm < O.length := by omega
   obtain ⟨Z, hZ⟩ : ∃ Z, O[mm]? = some Z := ⟨_, List.getElem?_eq_getElem hzl⟩
   have c3 : W.cell? ⟨w.heap.size + 1 + 1 + 1, mm, none⟩ = some (.int .u32 (Z : Int)) := (cell?_row HH.out.1).trans (wordsA_get hZ)
   have c4 : W.frozen? ⟨w.heap.size + 1 + 1 + 1, mm, none⟩ = false := frozen?_row HH.out.1
   have c5 : W.cell? ⟨w.heap.size + 1 + 1 + 1 + 1 + 1, 0, none⟩ = some (.int .u64 (R : Int)) := cell?_row (i := 0) HH.out.2.1
   have c6 : W.frozen? ⟨w.heap.size + 1 + 1 + 1 + 1 + 1, 0, none⟩ = false := frozen?_row HH.out.2.1
   clear hZ HSS
   apply wpPlan_act rfl rfl
   intro K hK
   unfold Oper.wp
   go_simp
   refine hK _ _ ((Same.setCell _ _ _ _ (by simp)).trans (Same.drew _ _)) ?_
   clear hK K
   refine wpPlan_nil ?_
   go_wp2_with fail
   have hsm : ∀ (v v' : Value), Same (fun k => k ≠ w.heap.size + 1 + 1 + 1 ∧ k ≠ w.heap.size + 1 + 1 + 1 + 1 + 1) W ((W.setCell ⟨w.heap.size + 1 + 1 + 1, mm, none⟩ v).setCell ⟨w.heap.size + 1 + 1 + 1 + 1 + 1, 0, none⟩ v').drew := fun v v' =>
     ((Same.setCell _ _ _ _ (by simp)).trans (Same.setCell _ _ _ _ (by simp))).trans (Same.drew _ _)
   refine ⟨⟨by simpa using HPL.out, ⟨_, HH.out.1, by rw [wordsA_set, HST.out]⟩, ⟨_, (row?_setCell_other _ _ _ _ _ (by omega)).trans HH.out.2.1, by rw [HST.out]; rfl⟩, HH.out.2.2.2.2.trans ((hsm _ _).mono fun k _ h => ⟨h.2.1, h.2.2⟩)⟩, (hsm _ _).mono fun k _ h => by omega⟩
 · intro D M W hD hDM hMW ⟨h1, h2, h3, h4⟩ hK
   rw [bwd_len, Nat.sub_self, shortS_zero] at h2 h3
   have hs1 := HS1.out
   obtain ⟨f1, f2, -, f4, -⟩ := HE1.out
   have q2 := (row?_congr (h4.block (w.heap.size + 1 + 1) (by omega) ⟨by omega, by omega, by omega⟩)).trans f2
   have q4 := (row?_congr (h4.block (w.heap.size + 1 + 1 + 1 + 1) (by omega) ⟨by omega, by omega, by omega⟩)).trans f4
   obtain ⟨d1, d2, d3, d4⟩ := hdiv.out
   have hrd := wordsA_rdn h2 (c := x.length) (by omega)
   rw [d4] at hrd
   rw [d2] at h3
   have hbw : Below w.heap.size w W := HB1.out.trans (h4.below (by omega) fun k hk => by omega)
   have HRd := Lib.hid hrd
   have HDV := Lib.hid (And.intro d1 d3)
   have HKD := Lib.hid hK
   have HBW := Lib.hid hbw
   have HR2 := Lib.hid q2
   have hsW := h4.size
   have HSS := Lib.hid fun W' (h : Below W.heap.size W W') => show W'.cell? ⟨w.heap.size + 1 + 1 + 1 + 1, 0, none⟩ = some (.slice (some ⟨w.heap.size + 1 + 1 + 1, 0, none⟩) x.length x.length) ∧ W'.cell? ⟨w.heap.size + 1 + 1 + 1 + 1 + 1, 0, none⟩ = some (.int .u64 ((m % n : Nat) : Int)) from
     ⟨cell?_row (i := 0) ((row?_below h (by omega)).trans q4), cell?_row (i := 0) ((row?_below h (by omega)).trans h3)⟩
   have hlen : (shortB 4294967296 n x).1.length ≤ 1000 := by omega
   have HLEN := Lib.hid d4
   obtain ⟨rr, hrr⟩ : ∃ rr, rr = m % n := ⟨_, rfl⟩
   rw [← hrr] at HSS
   have HRR := Lib.hid hrr
   have hD7 : w.heap.size + 7 ≤ D := by omega
   have hW7 : D < W.heap.size := by omega
   clear h1 h2 h3 h4 f1 f2 f4 q2 q4 d1 d2 d3 d4 hrd hbw hK hrr hs1 hn hn2
   go_wp2_with fail
   refine wp_region_mix (fun W' => W'.cell? ⟨w.heap.size + 1 + 1 + 1 + 1, 0, none⟩ = some (.slice (some ⟨w.heap.size + 1 + 1 + 1, 0, none⟩) x.length x.length) ∧ W'.cell? ⟨w.heap.size + 1 + 1 + 1 + 1 + 1, 0, none⟩ = some (.int .u64 (rr : Int))) 4 [(0, true), (2, true), (1, false), (3, false)] (by kernel_rfl) (by kernel_rfl) (HSS.out _ (Below.refl _ _).drew) ?_
   repeat (apply wpPlan_still rfl rfl; (intro w hw; obtain ⟨k1, k2⟩ := hw; go_simp; (try go_ints); (first | with_reducible rfl | (go_simp; with_reducible rfl))); (intro K hK; go_simp; (try go_ints); refine hK _ _ ?_; clear hK K))
   apply wpPlan_act rfl rfl
   intro K hK
   unfold Oper.wp
   go_simp
   refine (ntrim_any _ _ _ (HRd.out.below (Below.refl _ _).drew) HDV.out.2 (by omega)).mono ?_
   rintro r w2 ⟨v2, rfl, hv2, hb2⟩
   rw [HDV.out.1] at hv2
   have hb3 : Below W.heap.size W w2 := (Below.refl _ _).drew.trans hb2
   refine hK _ _ (HSS.out _ hb3) ?_
   clear hK K hb2
   obtain ⟨a3, c3, rfl, hr3⟩ := natV_sl hv2
   have hrw3 := (row?_below hb3 (by omega)).trans HR2.out
   have HB3 := Lib.hid hb3
   have HR3 := Lib.hid hr3
   have HRW3 := Lib.hid hrw3
   have hk3 := (row?_lt hrw3)
   have HK3 := Lib.hid ((hb3.block D (by omega)).trans HKD.out)
   have hs3 := HSS.out _ hb3
   clear hv2 hb3 hr3
   apply wpPlan_act rfl rfl
   intro K hK
   unfold Oper.wp
   go_simp
   refine hK _ _ ?_ ?_
   · have hne : ∀ j, j ≠ w.heap.size + 1 + 1 → (w2.setRow (w.heap.size + 1 + 1) #[.slice a3 (digB 4294967296 (m / n)).length c3]).cell? ⟨j, 0, none⟩ = w2.cell? ⟨j, 0, none⟩ := fun j hj => World.cell?_of_block (setRow_other _ _ _ _ (by omega))
     exact ⟨(hne _ (by omega)).trans hs3.1, (hne _ (by omega)).trans hs3.2⟩
   clear hK K
   refine wpPlan_nil ?_
   go_wp2_with fail
   have hKS : (w2.setRow (w.heap.size + 1 + 1) #[.slice a3 (digB 4294967296 (m / n)).length c3]).heap[D]? = some (.deferred (some [])) := (setRow_other _ _ _ _ (by omega)).trans HK3.out
   refine ⟨by simp, .inl ⟨_, _, rfl, run_takeDeferred hKS, ?_⟩⟩
   have hp : Same (fun k => k ≠ D) (w2.setRow (w.heap.size + 1 + 1) #[.slice a3 (digB 4294967296 (m / n)).length c3]) ((w2.setRow (w.heap.size + 1 + 1) #[.slice a3 (digB 4294967296 (m / n)).length c3]).putObj D (.deferred none)) := Same.putObj _ _ D _ (by simp)
   have hrf : row? ((w2.setRow (w.heap.size + 1 + 1) #[.slice a3 (digB 4294967296 (m / n)).length c3]).putObj D (.deferred none)) (w.heap.size + 1 + 1) = some #[.slice a3 (digB 4294967296 (m / n)).length c3] := (row?_congr (hp.block _ (by simp; omega) (by omega))).trans (row?_setRow_same _ _ _ (by rw [HRW3.out]; rfl))
   have hb3 := HB3.out.size
   refine ⟨_, results_row_tmp rfl Tryz.isAgg49 Tryz.sizeOf49 _ _ (w.heap.size + 1 + 1) _ rfl hrf rfl, ⟨_, by rw [← HRR.out]; rfl, ⟨_, rfl, ?_⟩, ?_⟩⟩
   · exact (HR3.out.setRow HRW3.out (noInt1 _ _ _) _).putObj hKS _
   · exact (below_setRow (HBW.out.trans (HB3.out.mono HBW.out.size)) (by omega) _).trans (hp.below (by simp; omega) fun k hk => by omega)
end Go.Proofs.YtgnlebnpnpjfmaaGreatDoor
