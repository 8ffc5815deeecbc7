/- Walks of package bignat: Add, small, FromUint64, IsZero. -/
import Derived.Test.YtgnlebnpnpjfmaaGreatDoorUNt
set_option maxHeartbeats 1000000
set_option maxRecDepth 10000
set_option linter.all false
namespace Go.Proofs.YtgnlebnpnpjfmaaGreatDoor
open Go Go.RowKit Go.Pal
theorem natV_sl {w : World} {v : Value} {n : Nat} (h : NatV w v n) : ∃ a c, v = .agg #[.slice a (digB 4294967296 n).length c] ∧ RdN .u32 w (.slice a (digB 4294967296 n).length c) (digB 4294967296 n) := by
 obtain ⟨s, rfl, hs⟩ := h
 have hs2 := hs
 obtain ⟨a, c, rfl, -⟩ := hs
 exact ⟨a, c, rfl, hs2⟩
theorem nadd_any (m n : Nat) (va vb : Value) (w : World) (ha : NatV w va m) (hb : NatV w vb n) (hm : Fit m) (hn : Fit n) :
   Calls Tryz.prog 32 #[va, vb] w fun e w' => ∃ v', e = .returned v' ∧ NatV w' v' (m + n) ∧ Below w.heap.size w w' := by
 obtain ⟨sa, sc, rfl, hra⟩ := natV_sl ha
 obtain ⟨ta, tc, rfl, hrb⟩ := natV_sl hb
 have hlm := natLen hm
 have hln := natLen hn
 have hsum := Lib.hid fun M (h1 : (digB 4294967296 m).length ≤ M) (h2 : (digB 4294967296 n).length ≤ M) => add_digits (b := 4294967296) (by decide) m n M h1 h2
 obtain ⟨x, hx⟩ : ∃ x, x = digB 4294967296 m := ⟨_, rfl⟩
 obtain ⟨y, hy⟩ : ∃ y, y = digB 4294967296 n := ⟨_, rfl⟩
 have hxo : DigOk 4294967296 x := by rw [hx]; exact digB_ok (by decide) m
 have hyo : DigOk 4294967296 y := by rw [hy]; exact digB_ok (by decide) n
 rw [← hx] at hra hlm hsum ⊢
 rw [← hy] at hrb hln hsum ⊢
 have HJ := Lib.hid fun M (hM : M ≤ 1000) (W : World) (hW : AddI w.heap.size (w.heap.size + 1) x y W) =>
   njoin_any (addF 4294967296 x y) (AddI w.heap.size (w.heap.size + 1) x y) M (by omega) 82 #[.pointer (some ⟨w.heap.size, 0, none⟩), .pointer (some ⟨w.heap.size + 1, 0, none⟩)] (fun args w => by simp [go_sem])
     (fun i => by have := (addF_inv (b := 4294967296) (by decide) hxo hyo i).2.1; omega) (fun W W' h hb => h.below hb)
     (fun i W _ hW => nadd1_any _ _ x y hxo hyo i _ (addF_inv (b := 4294967296) (by decide) hxo hyo i).2.1 W hW) W hW
 have hHI : Hid (AddI w.heap.size (w.heap.size + 1) x y (((w.alloc (.cells #[.slice sa x.length sc] 49)).alloc (.cells #[.slice ta y.length tc] 49)).alloc (.cells #[.slice none 0 0] 49))) := Lib.hid ⟨_, _,
   (row?_alloc_past _ _ _ (by simp; omega)).trans ((row?_alloc_past _ _ _ (by simp)).trans (row?_alloc_at _ _ _ _ rfl)), (row?_alloc_past _ _ _ (by simp)).trans (row?_alloc_at _ _ _ _ (by simp)), hra.below ((((Below.refl _ _).alloc (Nat.le_refl _) _).alloc (by simp) _).alloc (by simp; omega) _), hrb.below ((((Below.refl _ _).alloc (Nat.le_refl _) _).alloc (by simp) _).alloc (by simp; omega) _)⟩
 have HB0 := Lib.hid ((((Below.refl w.heap.size w).alloc (Nat.le_refl _) (.cells #[.slice sa x.length sc] 49)).alloc (by simp) (.cells #[.slice ta y.length tc] 49)).alloc (by simp; omega) (.cells #[.slice none 0 0] 49))
 clear ha hb hm hn hx hy hxo hyo hra hrb
 go_enter Tryz.func32, Tryz.ntmps32
 go_wp2_with fail
 case inl =>
   refine (HJ.out y.length (by omega) _ hHI.out).mono ?_
   rintro r w2 ⟨v2, rfl, hv2, hb2⟩
   have HS := Lib.hid (hsum.out y.length (by omega) (by omega))
   have HV2 := Lib.hid hv2
   have hlj := joinR_len (addF 4294967296 x y) y.length
   have hr2 := row?_below (g := w.heap.size + 1 + 1) hb2 (by simp)
   have hs2 := hb2.size
   simp only [World.size_alloc] at hs2
   have HB2 := Lib.hid (HB0.out.trans (hb2.mono (by simp; omega)))
   have HR2 := Lib.hid (hr2.trans (row?_alloc_at _ _ _ _ (by simp)))
   obtain ⟨a2, c2, rfl, -⟩ := hv2
   clear hb2 hr2 HJ hHI HB0 hsum
   go_wp2_with fail
   refine (ntrim_any _ _ w2 HV2.out HS.out.2 (by omega)).mono ?_
   rintro r w3 ⟨v3, rfl, hv3, hb3⟩
   rw [HS.out.1] at hv3
   obtain ⟨a3, c3, rfl, hr3⟩ := natV_sl hv3
   have HR3 := Lib.hid hr3
   have hrw3 := (row?_below hb3 (row?_lt HR2.out)).trans HR2.out
   have HRW3 := Lib.hid hrw3
   have HB3 := Lib.hid (HB2.out.trans (hb3.mono HB2.out.size))
   clear hr3 hb3 hv3
   go_wp2_with fail
   refine ret_row (w.heap.size + 1 + 1) #[.slice a3 (digB 4294967296 (m + n)).length c3] rfl Tryz.isAgg49 Tryz.sizeOf49 rfl rfl ?_ rfl ?_
   · simp [go_sem, hrw3]
   · exact ⟨_, rfl, ⟨_, rfl, HR3.out.setRow HRW3.out (noInt1 _ _ _) _⟩, below_setRow HB3.out (by omega) _⟩
 case inr =>
   refine (HJ.out x.length (by omega) _ hHI.out).mono ?_
   rintro r w2 ⟨v2, rfl, hv2, hb2⟩
   have HS := Lib.hid (hsum.out x.length (by omega) (by omega))
   have HV2 := Lib.hid hv2
   have hlj := joinR_len (addF 4294967296 x y) x.length
   have hr2 := row?_below (g := w.heap.size + 1 + 1) hb2 (by simp)
   have hs2 := hb2.size
   simp only [World.size_alloc] at hs2
   have HB2 := Lib.hid (HB0.out.trans (hb2.mono (by simp; omega)))
   have HR2 := Lib.hid (hr2.trans (row?_alloc_at _ _ _ _ (by simp)))
   obtain ⟨a2, c2, rfl, -⟩ := hv2
   clear hb2 hr2 HJ hHI HB0 hsum
   go_wp2_with fail
   refine (ntrim_any _ _ w2 HV2.out HS.out.2 (by omega)).mono ?_
   rintro r w3 ⟨v3, rfl, hv3, hb3⟩
   rw [HS.out.1] at hv3
   obtain ⟨a3, c3, rfl, hr3⟩ := natV_sl hv3
   have HR3 := Lib.hid hr3
   have hrw3 := (row?_below hb3 (row?_lt HR2.out)).trans HR2.out
   have HRW3 := Lib.hid hrw3
   have HB3 := Lib.hid (HB2.out.trans (hb3.mono HB2.out.size))
   clear hr3 hb3 hv3
   go_wp2_with fail
   refine ret_row (w.heap.size + 1 + 1) #[.slice a3 (digB 4294967296 (m + n)).length c3] rfl Tryz.isAgg49 Tryz.sizeOf49 rfl rfl ?_ rfl ?_
   · simp [go_sem, hrw3]
   · exact ⟨_, rfl, ⟨_, rfl, HR3.out.setRow HRW3.out (noInt1 _ _ _) _⟩, below_setRow HB3.out (by omega) _⟩
def SmallI (b1 b2 b3 : Nat) (x : List Nat) (k plus : Nat) (W : World) : Prop := row? W b1 = some #[.int .u64 (plus : Int)] ∧ row? W b3 = some #[.int .u64 (k : Int)] ∧ ∃ s, row? W b2 = some #[s] ∧ RdN .u32 W s x
theorem SmallI.below {b1 b2 b3 k plus : Nat} {x : List Nat} {W W' : World} (h : SmallI b1 b2 b3 x k plus W) (hb : Below W.heap.size W W') : SmallI b1 b2 b3 x k plus W' := by
 obtain ⟨h1, h2, s, h3, h4⟩ := h
 exact ⟨(row?_below hb (row?_lt h1)).trans h1, (row?_below hb (row?_lt h2)).trans h2, s, (row?_below hb (row?_lt h3)).trans h3, h4.below hb⟩
theorem nsmall1_any (b1 b2 b3 : Nat) (x : List Nat) (hx : DigOk 4294967296 x) (k plus i c : Nat) (hk : k < 4294967296) (hp : plus < 4294967296) (hc : c < 4294967296) (w : World) (h : SmallI b1 b2 b3 x k plus w) :
   Calls Tryz.prog 120 #[.int .i64 (i : Int), .int .u64 (c : Int), .pointer (some ⟨b1, 0, none⟩), .pointer (some ⟨b2, 0, none⟩), .pointer (some ⟨b3, 0, none⟩)] w fun e w' => e = .returned (.tuple #[.int .u32 ((smallF 4294967296 x k plus i c).1 : Int), .int .u64 ((smallF 4294967296 x k plus i c).2 : Int)]) ∧ Below w.heap.size w w' := by
 obtain ⟨h1, h2, s, h3, h4⟩ := h
 have HA := Lib.hid fun W (hb : Below w.heap.size w W) => nword_any x s i W (h4.below hb) hx
 have hxl := atB_lt (by decide) hx i
 obtain ⟨X, hX⟩ : ∃ X, X = atB x i := ⟨_, rfl⟩
 obtain ⟨q, hq⟩ : ∃ q, q = if i = 0 then plus else c := ⟨_, rfl⟩
 have hql : q < 4294967296 := by rw [hq]; split <;> omega
 have hF : smallF 4294967296 x k plus i c = ((X * k + q) % 4294967296, (X * k + q) / 4294967296) := by rw [hX, hq]; rfl
 rw [hF]
 rw [← hX] at HA hxl
 have hmul : X * k ≤ 4294967295 * 4294967295 := Nat.mul_le_mul (by omega) (by omega)
 obtain ⟨p, hpp⟩ : ∃ p, p = X * k := ⟨_, rfl⟩
 have hmi : ((X : Int) * (k : Int)) = (p : Int) := by rw [hpp]; simp
 rw [← hpp] at hmul ⊢
 have hp0 : (0 : Int) ≤ (p : Int) := by omega
 have hp1 : (p : Int) ≤ 18446744065119617025 := by omega
 have HMI := Lib.hid hmi
 have HR := Lib.hid fun W (hb : Below w.heap.size w W) => And.intro ((row?_below hb (row?_lt h1)).trans h1) (And.intro ((row?_below hb (row?_lt h2)).trans h2) ((row?_below hb (row?_lt h3)).trans h3))
 obtain ⟨sa, sc, rfl, -⟩ := h4
 have HQ := Lib.hid hq
 have r0 : w.cell? ⟨b1, 0, none⟩ = some (.int .u64 (plus : Int)) := cell?_row (i := 0) h1
 clear hF hX hx h2 h3 hpp hq hmi h1
 by_cases hi : i = 0
 · subst hi
   have hq2 : q = plus := by rw [HQ.out]; rfl
   subst hq2
   go_enter Tryz.func120, Tryz.ntmps120
   go_wp2_with fail
   refine wp_region_free_tail (fun W => Below w.heap.size w W) 7 (by kernel_rfl) (by kernel_rfl) (Below.refl _ _).drew ?_
   simp only [List.take_succ_cons, List.take_zero, List.drop_succ_cons, List.drop_zero]
   repeat (apply wpFree_still; (intro w hw; obtain ⟨r1, r2, r3⟩ := HR.out w hw; go_simp; (try go_ints); (first | with_reducible rfl | (go_simp; with_reducible rfl))); with_reducible rfl; (intro K hK; go_simp; (try go_ints); refine hK _ ?_; clear hK K))
   apply wpFree_call
   · intro w hw; go_simp; first | with_reducible rfl | with_reducible exact ⟨rfl, rfl⟩
   · with_reducible rfl
   · intro w hw; exact (HA.out w hw).mono fun e W' ⟨he, hb⟩ => ⟨he, hw.trans (hb.mono hw.size)⟩
   intro K hK; go_simp; (try go_ints); refine hK _ ?_; clear hK K
   repeat (apply wpFree_still; (intro w hw; obtain ⟨r1, r2, r3⟩ := HR.out w hw; have r4 : w.cell? ⟨b3, 0, none⟩ = some (.int .u64 (k : Int)) := cell?_row (i := 0) r2; have hmi := HMI.out; go_simp; (try go_ints); (first | with_reducible rfl | (go_simp; with_reducible rfl))); with_reducible rfl; (intro K hK; go_simp; (try go_ints); refine hK _ ?_; clear hK K))
   with_reducible refine wpFree_nil ?_
   intro w' hw'
   have HW := Lib.hid hw'
   clear hw' HR HA
   go_wp2_with fail
   go_ret2
   exact ⟨rfl, HW.out⟩
 · have hq2 : q = c := by rw [HQ.out, if_neg hi]
   subst hq2
   have hi2 : ¬ (i : Int) = 0 := by omega
   go_enter Tryz.func120, Tryz.ntmps120
   go_wp2_with fail
   refine wp_region_free_tail (fun W => Below w.heap.size w W) 7 (by kernel_rfl) (by kernel_rfl) (Below.refl _ _).drew ?_
   simp only [List.take_succ_cons, List.take_zero, List.drop_succ_cons, List.drop_zero]
   repeat (apply wpFree_still; (intro w hw; obtain ⟨r1, r2, r3⟩ := HR.out w hw; go_simp; (try go_ints); (first | with_reducible rfl | (go_simp; with_reducible rfl))); with_reducible rfl; (intro K hK; go_simp; (try go_ints); refine hK _ ?_; clear hK K))
   apply wpFree_call
   · intro w hw; go_simp; first | with_reducible rfl | with_reducible exact ⟨rfl, rfl⟩
   · with_reducible rfl
   · intro w hw; exact (HA.out w hw).mono fun e W' ⟨he, hb⟩ => ⟨he, hw.trans (hb.mono hw.size)⟩
   intro K hK; go_simp; (try go_ints); refine hK _ ?_; clear hK K
   repeat (apply wpFree_still; (intro w hw; obtain ⟨r1, r2, r3⟩ := HR.out w hw; have r4 : w.cell? ⟨b3, 0, none⟩ = some (.int .u64 (k : Int)) := cell?_row (i := 0) r2; have hmi := HMI.out; go_simp; (try go_ints); (first | with_reducible rfl | (go_simp; with_reducible rfl))); with_reducible rfl; (intro K hK; go_simp; (try go_ints); refine hK _ ?_; clear hK K))
   with_reducible refine wpFree_nil ?_
   intro w' hw'
   have HW := Lib.hid hw'
   clear hw' HR HA
   go_wp2_with fail
   go_ret2
   exact ⟨rfl, HW.out⟩
theorem nsmall_any (m k plus : Nat) (va : Value) (w : World) (ha : NatV w va m) (hm : Fit m) (hk : k < 4294967296) (hp : plus < 4294967296) :
   Calls Tryz.prog 92 #[va, .int .u64 (k : Int), .int .u64 (plus : Int)] w fun e w' => ∃ v', e = .returned v' ∧ NatV w' v' (m * k + plus) ∧ Below w.heap.size w w' := by
 obtain ⟨sa, sc, rfl, hra⟩ := natV_sl ha
 have hlm := natLen hm
 have hsum := Lib.hid (small_digits (b := 4294967296) (by decide) m hk hp)
 obtain ⟨x, hx⟩ : ∃ x, x = digB 4294967296 m := ⟨_, rfl⟩
 have hxo : DigOk 4294967296 x := by rw [hx]; exact digB_ok (by decide) m
 rw [← hx] at hra hlm hsum ⊢
 have hcar : ∀ i, (joinB (smallF 4294967296 x k plus) i).2 < 4294967296 := by
   intro i
   cases i with
   | zero => show 0 < 4294967296; decide
   | succ i => exact (smallF_inv (b := 4294967296) (by decide) hxo hk hp i).2.1
 have HJ := Lib.hid fun (W : World) (hW : SmallI (w.heap.size + 1 + 1) w.heap.size (w.heap.size + 1) x k plus W) =>
   njoin_any (smallF 4294967296 x k plus) (SmallI (w.heap.size + 1 + 1) w.heap.size (w.heap.size + 1) x k plus) (x.length + 1) (by omega) 120 #[.pointer (some ⟨w.heap.size + 1 + 1, 0, none⟩), .pointer (some ⟨w.heap.size, 0, none⟩), .pointer (some ⟨w.heap.size + 1, 0, none⟩)] (fun args w => by simp [go_sem])
     hcar (fun W W' h hb => h.below hb) (fun i W _ hW => nsmall1_any _ _ _ x hxo k plus i _ hk hp (hcar i) W hW) W hW
 obtain ⟨W0, hW0⟩ : ∃ W0, (((w.alloc (.cells #[.slice sa x.length sc] 49)).alloc (.cells #[.int .u64 (k : Int)] 51)).alloc (.cells #[.int .u64 (plus : Int)] 51)).alloc (.cells #[.slice none 0 0] 49) = W0 := ⟨_, rfl⟩
 have hb0 : Below w.heap.size w W0 := by
   rw [← hW0]
   exact ((((Below.refl _ _).alloc (Nat.le_refl _) _).alloc (by simp) _).alloc (by simp; omega) _).alloc (by simp; omega) _
 have e0 : row? W0 w.heap.size = some #[.slice sa x.length sc] := by rw [← hW0]; simp [go_sem]
 have e1 : row? W0 (w.heap.size + 1) = some #[.int .u64 (k : Int)] := by rw [← hW0]; simp [go_sem]
 have e2 : row? W0 (w.heap.size + 1 + 1) = some #[.int .u64 (plus : Int)] := by rw [← hW0]; simp [go_sem]
 have e3 : row? W0 (w.heap.size + 1 + 1 + 1) = some #[.slice none 0 0] := by rw [← hW0]; simp [go_sem]
 have k0 : W0.cell? ⟨w.heap.size, 0, none⟩ = some (.slice sa x.length sc) := cell?_row (i := 0) e0
 have hHI := Lib.hid (show SmallI (w.heap.size + 1 + 1) w.heap.size (w.heap.size + 1) x k plus W0 from ⟨e2, e1, _, e0, hra.below hb0⟩)
 have HB0 := Lib.hid hb0
 have HR0 := Lib.hid e3
 clear ha hm hx hxo hra hcar hb0 e0 e1 e2 e3
 go_enter Tryz.func92, Tryz.ntmps92
 go_wp2_with fail
 refine (HJ.out W0 hHI.out).mono ?_
 rintro r w2 ⟨v2, rfl, hv2, hb2⟩
 have HV2 := Lib.hid hv2
 have hlj := joinR_len (smallF 4294967296 x k plus) (x.length + 1)
 have hr2 := row?_below hb2 (row?_lt HR0.out)
 have HB2 := Lib.hid (HB0.out.trans (hb2.mono HB0.out.size))
 have HR2 := Lib.hid (hr2.trans HR0.out)
 obtain ⟨a2, c2, rfl, -⟩ := hv2
 clear hb2 hr2 HJ hHI HB0 hW0 k0 HR0
 go_wp2_with fail
 refine (ntrim_any _ _ w2 HV2.out hsum.out.2 (by omega)).mono ?_
 rintro r w3 ⟨v3, rfl, hv3, hb3⟩
 rw [hsum.out.1] at hv3
 obtain ⟨a3, c3, rfl, hr3⟩ := natV_sl hv3
 have HR3 := Lib.hid hr3
 have hrw3 := (row?_below hb3 (row?_lt HR2.out)).trans HR2.out
 have HRW3 := Lib.hid hrw3
 have HB3 := Lib.hid (HB2.out.trans (hb3.mono HB2.out.size))
 clear hr3 hb3 hv3
 go_wp2_with fail
 refine ret_row (w.heap.size + 1 + 1 + 1) #[.slice a3 (digB 4294967296 (m * k + plus)).length c3] rfl Tryz.isAgg49 Tryz.sizeOf49 rfl rfl ?_ rfl ?_
 · simp [go_sem, hrw3]
 · exact ⟨_, rfl, ⟨_, rfl, HR3.out.setRow HRW3.out (noInt1 _ _ _) _⟩, below_setRow HB3.out (by omega) _⟩
theorem ofs_lit2 (x y : Nat) (hx : x < 4294967296) (hy : y < 4294967296) (w : World) : RdN .u32 (w.alloc (.cells #[.int .u32 (x : Int), .int .u32 (y : Int)] 68)) (.slice (some ⟨w.heap.size, 0, none⟩) 2 2) [x, y] ∧ DigOk 4294967296 [x, y] := by
 refine ⟨⟨_, 2, rfl, Nat.le_refl _, .inr ⟨w.heap.size, 0, rfl, by simp, fun i z hz => ?_, rfl⟩⟩, ?_⟩
 · have hr : row? (w.alloc (.cells #[.int .u32 (x : Int), .int .u32 (y : Int)] 68)) w.heap.size = some #[.int .u32 (x : Int), .int .u32 (y : Int)] := row?_alloc_at _ _ _ _ rfl
   rw [Nat.zero_add, cell?_row hr]
   match i, hz with
   | 0, hz => simp at hz; subst hz; rfl
   | 1, hz => simp at hz; subst hz; rfl
   | i + 2, hz => simp at hz
 · intro z hz
   simp at hz
   rcases hz with rfl | rfl <;> assumption
theorem nfrom_any (n : Nat) (hn : n < 18446744073709551616) (w : World) :
   Calls Tryz.prog 25 #[.int .u64 (n : Int)] w fun e w' => ∃ v', e = .returned v' ∧ NatV w' v' n ∧ Below w.heap.size w w' := by
 obtain ⟨x, hx⟩ : ∃ x, x = n % 4294967296 := ⟨_, rfl⟩
 obtain ⟨y, hy⟩ : ∃ y, y = n / 4294967296 := ⟨_, rfl⟩
 have hxl : x < 4294967296 := by omega
 have hyl : y < 4294967296 := by omega
 have hval : valB 4294967296 [x, y] = n := by simp only [valB_cons, valB_nil]; omega
 have e1 : (n : Int) % 4294967296 = (x : Int) := by omega
 have e2 : (n : Int) / 4294967296 = (y : Int) := by omega
 have HVAL := Lib.hid hval
 obtain ⟨h1, h2⟩ := ofs_lit2 x y hxl hyl (w.alloc (.cells #[.slice none 0 0] 49))
 rw [World.size_alloc] at h1
 have HT := Lib.hid (ntrim_any [x, y] _ _ h1 h2 (by simp))
 have HB0 := Lib.hid (((Below.refl w.heap.size w).alloc (Nat.le_refl _) (.cells #[.slice none 0 0] 49)).alloc (by simp) (.cells #[.int .u32 (x : Int), .int .u32 (y : Int)] 68))
 clear h1 h2 hx hy hval
 go_enter Tryz.func25, Tryz.ntmps25
 go_wp2_with fail
 refine HT.out.mono ?_
 rintro r w3 ⟨v3, rfl, hv3, hb3⟩
 rw [HVAL.out] at hv3
 have HR2 := Lib.hid (show row? ((w.alloc (.cells #[.slice none 0 0] 49)).alloc (.cells #[.int .u32 (x : Int), .int .u32 (y : Int)] 68)) w.heap.size = some #[.slice none 0 0] by simp [go_sem])
 have HB2 := HB0
 clear e1 e2 HT HB0
 obtain ⟨a3, c3, rfl, hr3⟩ := natV_sl hv3
 have HR3 := Lib.hid hr3
 have hrw3 := (row?_below hb3 (row?_lt HR2.out)).trans HR2.out
 have HRW3 := Lib.hid hrw3
 have HB3 := Lib.hid (HB2.out.trans (hb3.mono HB2.out.size))
 clear hr3 hb3 hv3
 go_wp2_with fail
 refine ret_row (w.heap.size) #[.slice a3 (digB 4294967296 (n)).length c3] rfl Tryz.isAgg49 Tryz.sizeOf49 rfl rfl ?_ rfl ?_
 · simp [go_sem, hrw3]
 · exact ⟨_, rfl, ⟨_, rfl, HR3.out.setRow HRW3.out (noInt1 _ _ _) _⟩, below_setRow HB3.out (by omega) _⟩
theorem nisZero_any (n : Nat) (v : Value) (w : World) (h : NatV w v n) :
   Calls Tryz.prog 74 #[v] w fun e w' => e = .returned (.bool (decide (n = 0))) ∧ Below w.heap.size w w' := by
 obtain ⟨a, c, rfl, -⟩ := natV_sl h
 have h0 : decide (n = 0) = decide ((digB 4294967296 n).length = 0) := by
   rw [decide_eq_decide, List.length_eq_zero_iff, digB_nil (by decide)]
 rw [h0]
 obtain ⟨k, hk⟩ : ∃ k, k = (digB 4294967296 n).length := ⟨_, rfl⟩
 rw [← hk] at h ⊢
 have HB := Lib.hid ((Below.refl w.heap.size w).alloc (Nat.le_refl _) (.cells #[.slice a k c] 49))
 clear hk h0 h
 go_enter Tryz.func74, Tryz.ntmps74
 go_wp2_with fail
 go_ret
 exact ⟨by by_cases h : k = 0 <;> simp [h], HB.out⟩
end Go.Proofs.YtgnlebnpnpjfmaaGreatDoor
