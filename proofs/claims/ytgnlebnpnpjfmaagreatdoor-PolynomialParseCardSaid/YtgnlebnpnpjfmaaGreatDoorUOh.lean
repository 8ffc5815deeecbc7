/- Walk of package polynomial: raised. Walk of package polynomial: Eval, Degree. Walk of .. -/
import Derived.Test.YtgnlebnpnpjfmaaGreatDoorUOG
set_option maxHeartbeats 4000000
set_option maxRecDepth 10000
set_option linter.all false
namespace Go.Pal
theorem rz_odd {e f n N : Nat} (h : f + e * n = N) (hn : n % 2 = 1) : (f + e) + (2 * e) * (n / 2) = N := by
 have h1 : n = 2 * (n / 2) + 1 := by omega
 have h2 : e * n = e * (2 * (n / 2)) + e := by rw [h1, Nat.mul_add, Nat.mul_one, ← h1]
 have h3 : (2 * e) * (n / 2) = e * (2 * (n / 2)) := by rw [Nat.mul_comm 2 e, Nat.mul_assoc]
 omega
theorem rz_even {e f n N : Nat} (h : f + e * n = N) (hn : n % 2 = 0) : f + (2 * e) * (n / 2) = N := by
 have h1 : n = 2 * (n / 2) := by omega
 have h3 : (2 * e) * (n / 2) = e * n := by rw [Nat.mul_comm 2 e, Nat.mul_assoc, ← h1]
 omega
theorem pow_le_big (X e M : Nat) (h : e ≤ M) : X ^ e ≤ (X + 1) ^ M := Nat.le_trans (Nat.pow_le_pow_left (Nat.le_succ X) e) (Nat.pow_le_pow_right (Nat.succ_pos X) h)
end Go.Pal
namespace Go.Proofs.YtgnlebnpnpjfmaaGreatDoor
open Go Go.RowKit Go.Pal
theorem NatV.setRow {w : World} {v : Value} {n : Nat} (h : NatV w v n) {g : Nat} {a : Option Addr} {k c : Nat} (hg : row? w g = some #[.slice a k c]) (d : Array Value) : NatV (w.setRow g d) v n :=
 h.same (g := some g) (same_some _ _ _) fun j hj x => by cases hj; rw [cell?_row hg]; simp
def RzI (w : World) (g X N n : Nat) (W : World) : Prop := ∃ (e f : Nat) (a1 : Option Addr) (n1 c1 : Nat) (a2 : Option Addr) (n2 c2 : Nat), f + e * n = N ∧ e ≤ 2 * N + 1 ∧ row? W w.heap.size = some #[.slice a1 n1 c1] ∧ NatV W (.agg #[.slice a1 n1 c1]) (X ^ e) ∧ row? W g = some #[.slice a2 n2 c2] ∧ NatV W (.agg #[.slice a2 n2 c2]) (X ^ f) ∧ row? W (w.heap.size + 1) = some #[.slice none 0 0] ∧ Below w.heap.size w W
theorem praised_any (X N : Nat) (v : Value) (w : World) (hv : NatV w v X) (hN : N ≤ 100000) (hf : Fit ((X + 1) ^ (2 * N + 1))) :
   Calls Tryz.prog 73 #[v, .int .i64 (N : Int)] w fun e w' => ∃ v', e = .returned v' ∧ NatV w' v' (X ^ N) ∧ Below w.heap.size w w' := by
 obtain ⟨sa, sc, rfl, -⟩ := natV_sl hv
 obtain ⟨L, hL⟩ : ∃ L, L = (digB 4294967296 X).length := ⟨_, rfl⟩
 rw [← hL] at hv ⊢
 have HV := Lib.hid hv
 have HF := Lib.hid hf
 have HFR := Lib.hid fun W => nfrom_any 1 (by decide) W
 clear hv hL hf
 go_enter Tryz.func73, Tryz.ntmps73
 go_wp2_with fail
 refine (HFR.out _).mono ?_
 rintro r w1 ⟨v1, rfl, hv1, hb1⟩
 obtain ⟨a1, c1, rfl, -⟩ := natV_sl hv1
 obtain ⟨L1, hL1⟩ : ∃ L1, L1 = (digB 4294967296 1).length := ⟨_, rfl⟩
 rw [← hL1] at hv1 ⊢
 have e1 := (row?_below hb1 (by simp)).trans (row?_alloc_at (w.alloc (.cells #[.slice sa L sc] 49)) #[Value.slice none 0 0] 49 (w.heap.size + 1) (by simp))
 have e0 := (row?_below hb1 (by simp <;> omega)).trans ((row?_alloc_past (w.alloc (.cells #[.slice sa L sc] 49)) (.cells #[.slice none 0 0] 49) w.heap.size (by simp)).trans (row?_alloc_at w #[Value.slice sa L sc] 49 w.heap.size rfl))
 have hbA : Below w.heap.size w ((w.alloc (.cells #[.slice sa L sc] 49)).alloc (.cells #[.slice none 0 0] 49)) := by
   (repeat' (first | (with_reducible first | exact Below.refl _ _ | assumption | refine Below.alloc ?_ ?_ _ | refine Below.drew ?_ | refine Below.setCell ?_ ?_ _ | refine below_setRow ?_ ?_ _ | exact Nat.le_refl _) | omega | (simp; done) | (simp; omega) | (simp at *; omega)))
 have hb0 := hbA.trans (hb1.mono hbA.size)
 have l0 := row?_lt e0
 have l1 := row?_lt e1
 have hbG : Below w1.heap.size w1 (w1.alloc (.cells #[.slice a1 L1 c1] 49)) := (Below.refl _ _).alloc (Nat.le_refl _) _
 obtain ⟨g, hg⟩ : ∃ g, g = w1.heap.size := ⟨_, rfl⟩
 have HG := Lib.hid hg
 have HI := Lib.hid (show RzI w g X N N (w1.alloc (.cells #[.slice a1 L1 c1] 49)) from
   ⟨1, 0, _, _, _, _, _, _, by omega, by omega, (row?_below hbG l0).trans e0, by rw [Nat.pow_one]; exact ((HV.out.below hb0).below hbG), row?_alloc_at _ _ _ _ hg, by rw [Nat.pow_zero]; exact hv1.below hbG, (row?_below hbG l1).trans e1, hb0.trans (hbG.mono hb0.size)⟩)
 have hgs : w.heap.size + 1 < g := by omega
 clear hb1 hv1 hL1 e0 e1 hbA hb0 hbG hg HFR
 go_wp2_with fail
 rw [← HG.out]
 go_loopw [1] (fun i wr => ∃ n : Nat, n ≤ N ∧ i = .int .i64 (n : Int) ∧ RzI w g X N n wr) (fun i _ => (intOf i).toNat)
 case atStart => exact ⟨N, Nat.le_refl _, rfl, HI.out⟩
 case round =>
   obtain ⟨n, hn, rfl, e, f, b1, n1, d1, b2, n2, d2, hef, he, hr0, hx, hr1, ho, hr2, hbl⟩ := hrel
   have HX := Lib.hid hx
   have HO := Lib.hid ho
   have HB := Lib.hid hbl
   have HR2 := Lib.hid hr2
   have hl0 := row?_lt hr0
   have hl1 := row?_lt hr1
   clear HI hx ho hbl HV
   rcases Nat.eq_zero_or_pos n with h0 | h0
   · have hfN : f = N := by rw [h0] at hef; omega
     have hd0 : decide (0 < n) = false := decide_eq_false (by omega)
     have hd1 : decide ((0 : Int) < (n : Int)) = false := decide_eq_false (by omega)
     clear h0
     go_wp2_with fail
     refine ret_row (w.heap.size + 1) #[.slice b2 n2 d2] rfl Tryz.isAgg49 Tryz.sizeOf49 rfl rfl (row?_setRow_same _ _ _ (by rw [hr2]; rfl)) rfl ?_
     refine ⟨_, rfl, ?_, below_setRow HB.out (by omega) _⟩
     rw [← hfN]
     exact HO.out.setRow HR2.out _
   · have hd0 : decide (0 < n) = true := decide_eq_true (by omega)
     have hd1 : decide ((0 : Int) < (n : Int)) = true := decide_eq_true (by omega)
     have heN : e ≤ N := by
       have : e * 1 ≤ e * n := Nat.mul_le_mul (Nat.le_refl _) h0
       omega
     have hfe : f + e ≤ N := by
       have : e * 1 ≤ e * n := Nat.mul_le_mul (Nat.le_refl _) h0
       omega
     have HFE := Lib.hid (show Fit (X ^ e) ∧ Fit (X ^ f) from ⟨HF.out.mono (pow_le_big X e _ (by omega)), HF.out.mono (pow_le_big X f _ (by omega))⟩)
     have hne0 : ¬ w.heap.size = g := by omega
     have hne1 : ¬ w.heap.size + 1 = g := by omega
     have HSQ := Lib.hid (show X ^ e * X ^ e = X ^ (2 * e) by rw [← Nat.pow_add]; congr 1; omega)
     rcases Nat.mod_two_eq_zero_or_one n with hm | hm
     · have hm1 : (n : Int) % 2 = 0 := by omega
       have hm2 : Int.tmod (n : Int) 2 = 0 := by rw [Int.tmod_eq_emod_of_nonneg (by omega)]; exact hm1
       have HEF := Lib.hid (rz_even hef hm)
       clear hef
       go_wp2_with fail
       refine (nmul_any _ _ _ _ _ HX.out HX.out HFE.out.1 HFE.out.1).mono ?_
       rintro e' w2 ⟨v2, rfl, hv2, hb2⟩
       rw [HSQ.out] at hv2
       obtain ⟨b4, d4, rfl, -⟩ := natV_sl hv2
       obtain ⟨n4, hn4⟩ : ∃ n4, n4 = (digB 4294967296 (X ^ (2 * e))).length := ⟨_, rfl⟩
       rw [← hn4] at hv2 ⊢
       have s0 := (row?_below hb2 hl0).trans hr0
       have s1 := (row?_below hb2 hl1).trans hr1
       have s2 := (row?_below hb2 (row?_lt HR2.out)).trans HR2.out
       have hls := row?_lt s0
       have hbw := HB.out.trans (hb2.mono HB.out.size)
       have HI' := Lib.hid (show RzI w g X N (n / 2) (w2.setRow w.heap.size #[.slice b4 n4 d4]) from
         ⟨2 * e, f, _, _, _, _, _, _, HEF.out, by omega, row?_setRow_same _ _ _ (by rw [s0]; rfl), hv2.setRow s0 _, (row?_congr (setRow_other _ _ _ _ (by omega))).trans s1, (HO.out.below hb2).setRow s0 _, (row?_congr (setRow_other _ _ _ _ (by omega))).trans s2, below_setRow hbw (Nat.le_refl _) _⟩)
       clear hv2 hb2 hn4 hr0 hr1 s1 s2 hbw hl0 hl1 HX HO HB HR2
       go_wp2_with fail
       go_roundw
       case rel => exact ⟨n / 2, by omega, by first | rfl | go_num | (simp; done), HI'.out⟩
       case measure => simp [intOf]; omega
     · have hm1 : (n : Int) % 2 = 1 := by omega
       have hm2 : Int.tmod (n : Int) 2 = 1 := by rw [Int.tmod_eq_emod_of_nonneg (by omega)]; exact hm1
       have HEF := Lib.hid (rz_odd hef hm)
       have HFM := Lib.hid (show X ^ f * X ^ e = X ^ (f + e) from (Nat.pow_add X f e).symm)
       clear hef
       go_wp2_with fail
       refine (nmul_any _ _ _ _ _ HO.out HX.out HFE.out.2 HFE.out.1).mono ?_
       rintro e' w0 ⟨v0, rfl, hv0, hb00⟩
       rw [HFM.out] at hv0
       obtain ⟨b3, d3, rfl, -⟩ := natV_sl hv0
       obtain ⟨n3, hn3⟩ : ∃ n3, n3 = (digB 4294967296 (X ^ (f + e))).length := ⟨_, rfl⟩
       rw [← hn3] at hv0 ⊢
       have q0 := (row?_below hb00 hl0).trans hr0
       have q1 := (row?_below hb00 hl1).trans hr1
       have q2 := (row?_below hb00 (row?_lt HR2.out)).trans HR2.out
       have HB00 := HB.out.trans (hb00.mono HB.out.size)
       obtain ⟨wr2, hw2⟩ : ∃ wr2, w0.setRow g #[.slice b3 n3 d3] = wr2 := ⟨_, rfl⟩
       have p0 : row? wr2 w.heap.size = some #[.slice b1 n1 d1] := by rw [← hw2]; exact (row?_congr (setRow_other _ _ _ _ (by omega))).trans q0
       have p1 : row? wr2 g = some #[.slice b3 n3 d3] := by rw [← hw2]; exact row?_setRow_same _ _ _ (by rw [q1]; rfl)
       have p2 : row? wr2 (w.heap.size + 1) = some #[.slice none 0 0] := by rw [← hw2]; exact (row?_congr (setRow_other _ _ _ _ (by omega))).trans q2
       have pX : NatV wr2 (.agg #[.slice b1 n1 d1]) (X ^ e) := by rw [← hw2]; exact (HX.out.below hb00).setRow q1 _
       have pO : NatV wr2 (.agg #[.slice b3 n3 d3]) (X ^ (f + e)) := by rw [← hw2]; exact hv0.setRow q1 _
       have pB : Below w.heap.size w wr2 := by rw [← hw2]; exact below_setRow HB00 (by omega) _
       have hlg := row?_lt q1
       have HW2 := Lib.hid hw2
       clear hw2 hn3
       go_wp2_with fail
       rw [HW2.out]
       clear HX HO HB HR2 hr0 hr1 hl0 hl1 q0 q1 q2 HB00 HW2 hv0
       have HX := Lib.hid pX
       have HO := Lib.hid pO
       have HB := Lib.hid pB
       have HR2 := Lib.hid p2
       have hr0 := p0
       have hr1 := p1
       have hl0 := row?_lt p0
       have hl1 := row?_lt p1
       clear pX pO pB p2 p0 p1
       refine (nmul_any _ _ _ _ _ HX.out HX.out HFE.out.1 HFE.out.1).mono ?_
       rintro e' w2 ⟨v2, rfl, hv2, hb2⟩
       rw [HSQ.out] at hv2
       obtain ⟨b4, d4, rfl, -⟩ := natV_sl hv2
       obtain ⟨n4, hn4⟩ : ∃ n4, n4 = (digB 4294967296 (X ^ (2 * e))).length := ⟨_, rfl⟩
       rw [← hn4] at hv2 ⊢
       have s0 := (row?_below hb2 hl0).trans hr0
       have s1 := (row?_below hb2 hl1).trans hr1
       have s2 := (row?_below hb2 (row?_lt HR2.out)).trans HR2.out
       have hls := row?_lt s0
       have hbw := HB.out.trans (hb2.mono HB.out.size)
       have HI' := Lib.hid (show RzI w g X N (n / 2) (w2.setRow w.heap.size #[.slice b4 n4 d4]) from
         ⟨2 * e, f + e, _, _, _, _, _, _, HEF.out, by omega, row?_setRow_same _ _ _ (by rw [s0]; rfl), hv2.setRow s0 _, (row?_congr (setRow_other _ _ _ _ (by omega))).trans s1, (HO.out.below hb2).setRow s0 _, (row?_congr (setRow_other _ _ _ _ (by omega))).trans s2, below_setRow hbw (Nat.le_refl _) _⟩)
       clear hv2 hb2 hn4 hr0 hr1 s1 s2 hbw hl0 hl1 HX HO HB HR2
       go_wp2_with fail
       go_roundw
       case rel => exact ⟨n / 2, by omega, by first | rfl | go_num | (simp; done), HI'.out⟩
       case measure => simp [intOf]; omega
end Go.Proofs.YtgnlebnpnpjfmaaGreatDoor
namespace Go.Pal
theorem lin_step (f : Ex → Nat) {p done r1 r2 : Pol} {k : Ex} {n : Nat} (h : (done ++ (r1 ++ (k, n) :: r2)).Perm p) : lin f done + f k * n ≤ lin f p := by
 rw [← lin_perm f h, lin_append, lin_append]
 have : lin f ((k, n) :: r2) = f k * n + lin f r2 := by rw [lin]
 omega
theorem eval_append (p q : Pol) (x y : Nat) : evalP (p ++ q) x y = evalP p x y + evalP q x y := lin_append _ p q
theorem eval_one (k : Ex) (n x y : Nat) : evalP [(k, n)] x y = x ^ k.1 * y ^ k.2 * n := by unfold evalP; simp [lin]
theorem eval_perm {p q : Pol} (h : p.Perm q) (x y : Nat) : evalP p x y = evalP q x y := lin_perm _ h
end Go.Pal
namespace Go.Proofs.YtgnlebnpnpjfmaaGreatDoor
open Go Go.RowKit Go.Pal
structure EvB (p : Pol) (x y : Nat) : Prop where
 val : Fit (evalP p x y)
 num : Fit (wt p)
 px : ∀ t ∈ p, Fit ((x + 1) ^ (2 * t.1.1 + 1))
 py : ∀ t ∈ p, Fit ((y + 1) ^ (2 * t.1.2 + 1))
 nx : ∀ t ∈ p, Fit (t.2 * x ^ t.1.1)
theorem peval_any (p : Pol) (x y : Nat) (vp vx vy : Value) (w : World) (hp : PolV w vp p) (hx : NatV w vx x) (hy : NatV w vy y) (hB : EvB p x y) :
   Calls Tryz.prog 26 #[vp, vx, vy] w fun e w' => ∃ v', e = .returned v' ∧ NatV w' v' (evalP p x y) ∧ Below w.heap.size w w' := by
 obtain ⟨m1, rfl, hm1⟩ := hp
 obtain ⟨xa, xc, rfl, -⟩ := natV_sl hx
 obtain ⟨ya, yc, rfl, -⟩ := natV_sl hy
 obtain ⟨LX, hLX⟩ : ∃ L, L = (digB 4294967296 x).length := ⟨_, rfl⟩
 obtain ⟨LY, hLY⟩ : ∃ L, L = (digB 4294967296 y).length := ⟨_, rfl⟩
 rw [← hLX] at hx ⊢
 rw [← hLY] at hy ⊢
 have HUP := Lib.hid hm1.upto
 have HBD := Lib.hid hB
 have hlt1 := hm1.lt
 obtain ⟨W0, hW0⟩ : ∃ W0, ((((w.alloc (.cells #[.map m1] 24)).alloc (.cells #[.slice xa LX xc] 49)).alloc (.cells #[.slice ya LY yc] 49)).alloc (.cells #[.slice none 0 0] 49)).alloc (.cells #[.slice none 0 0] 49) = W0 := ⟨_, rfl⟩
 have hb0 : Below w.heap.size w W0 := by
   rw [← hW0]
   (repeat' (first | (with_reducible first | exact Below.refl _ _ | assumption | refine Below.alloc ?_ ?_ _ | refine Below.drew ?_ | refine Below.setCell ?_ ?_ _ | refine below_setRow ?_ ?_ _ | exact Nat.le_refl _) | omega | (simp; done) | (simp; omega) | (simp at *; omega)))
 have e0 : row? W0 w.heap.size = some #[.map m1] := by rw [← hW0]; simp [go_sem]
 have e1 : row? W0 (w.heap.size + 1) = some #[.slice xa LX xc] := by rw [← hW0]; simp [go_sem]
 have e2 : row? W0 (w.heap.size + 1 + 1) = some #[.slice ya LY yc] := by rw [← hW0]; simp [go_sem]
 have e3 : row? W0 (w.heap.size + 1 + 1 + 1) = some #[.slice none 0 0] := by rw [← hW0]; simp [go_sem]
 have e4 : row? W0 (w.heap.size + 1 + 1 + 1 + 1) = some #[.slice none 0 0] := by rw [← hW0]; simp [go_sem]
 have hs0 : W0.heap.size = w.heap.size + 1 + 1 + 1 + 1 + 1 := by rw [← hW0]; simp
 have c0 : W0.cell? ⟨w.heap.size, 0, none⟩ = some (.map m1) := cell?_row (i := 0) e0
 obtain ⟨W1, hr, hR, hb1, hs1⟩ := (hm1.below hb0).range
 rw [hs0] at hr hR hs1
 have hb01 := hb0.trans (hb1.mono hb0.size)
 obtain ⟨g, hg⟩ : ∃ g, g = w.heap.size + 1 + 1 + 1 + 1 := ⟨_, rfl⟩
 have f1 := (row?_below hb1 (by omega)).trans e1
 have f2 := (row?_below hb1 (by omega)).trans e2
 have f3 := (row?_below hb1 (by omega)).trans e3
 have f4 := (row?_below hb1 (by omega)).trans e4
 have hx1 := hx.below hb01
 have hy1 := hy.below hb01
 rw [← hg] at hr hR f4 hs1
 have hW1 : W1.heap.size = g + 1 + 1 := hs1
 have HC := Lib.hid fun W (hs : Same (fun j => j ≠ g ∧ j ≠ g + 1) W1 W) => show row? W (w.heap.size + 1) = some #[.slice xa LX xc] ∧ row? W (w.heap.size + 1 + 1) = some #[.slice ya LY yc] ∧ row? W (w.heap.size + 1 + 1 + 1) = some #[.slice none 0 0] from
   ⟨(row?_congr (hs.block _ (by omega) (by omega))).trans f1, (row?_congr (hs.block _ (by omega) (by omega))).trans f2, (row?_congr (hs.block _ (by omega) (by omega))).trans f3⟩
 have HK := Lib.hid fun W (hs : Same (fun j => j ≠ g ∧ j ≠ g + 1) W1 W) => show Below w.heap.size w W from hb01.trans (hs.below (by omega) fun j hj => by omega)
 have HX := Lib.hid hx
 have HY := Lib.hid hy
 have HR := Lib.hid hR
 have HF4 := Lib.hid f4
 have HLT := Lib.hid hlt1
 have HG := Lib.hid hg
 have HS1 := Lib.hid hW1
 have HW0 := Lib.hid hW0
 have hgs : w.heap.size + 1 + 1 + 1 < g := by omega
 clear hx hy hx1 hy1 hm1 hLX hLY hB hlt1 hb0 hb1 hb01 e1 e2 e3 e4 f1 f2 f3 f4 hg hs0 hs1 hR hW1
 rw [← hW0] at hr
 clear e0 c0 hW0
 go_enter Tryz.func26, Tryz.ntmps26
 go_wp2_with fail
 rw [← HG.out]
 clear hr
 go_loopw [13] (fun _ wi => ∃ rest : Pol, ∃ done : Pol, (done ++ rest).Perm p ∧ (∃ (a : Option Addr) (n c : Nat), row? wi g = some #[.slice a n c] ∧ NatV wi (.agg #[.slice a n c]) (evalP done x y)) ∧ PRng wi m1 (g + 1) p rest ∧ Same (fun j => j ≠ g ∧ j ≠ g + 1) W1 wi) (fun _ wi => minL (fun rest : Pol => ∃ done : Pol, (done ++ rest).Perm p ∧ (∃ (a : Option Addr) (n c : Nat), row? wi g = some #[.slice a n c] ∧ NatV wi (.agg #[.slice a n c]) (evalP done x y)) ∧ PRng wi m1 (g + 1) p rest ∧ Same (fun j => j ≠ g ∧ j ≠ g + 1) W1 wi) List.length)
 case atStart => exact ⟨p, [], List.Perm.refl _, ⟨_, _, _, HF4.out, natV_zero W1⟩, HR.out, Same.refl _ _⟩
 case round =>
   obtain ⟨rest, ⟨done, hpm, ⟨sa, sn, sc, hrs, hvs⟩, hrn, hsm⟩, hmin⟩ := minL_spec (len := List.length) hrel
   have HMIN := Lib.hid hmin
   clear hrel hmin HR HF4
   rcases hrn.next 0 with ⟨rfl, hrun⟩ | ⟨ke, n, hd, r1, r2, wn, rfl, hrun, hrn2, hmem, hnv, hsn, hszn, hen⟩
   · have hpe : evalP done x y = evalP p x y := eval_perm (by simpa using hpm) x y
     rw [hpe] at hvs
     have HV := Lib.hid hvs
     have HRS := Lib.hid hrs
     have HB := Lib.hid (HK.out wr hsm)
     have hf3 := (HC.out wr hsm).2.2
     have hl3 := row?_lt hf3
     clear hpm hvs hrn hsm HMIN hpe
     go_wp2_with fail
     refine ret_row (w.heap.size + 1 + 1 + 1) #[.slice sa sn sc] rfl Tryz.isAgg49 Tryz.sizeOf49 rfl rfl (row?_setRow_same _ _ _ (by rw [hf3]; rfl)) rfl ?_
     exact ⟨_, rfl, HV.out.setRow hf3 _, below_setRow HB.out (by omega) _⟩
   · have hrl := hrn.lt
     have hsn2 : Same (fun j => j ≠ g ∧ j ≠ g + 1) W1 wn := hsm.trans_new hsn fun j hj h => by simp; omega
     obtain ⟨g1, g2, -⟩ := HC.out wn hsn2
     have hgl := row?_lt hrs
     have grs := (row?_congr (hsn.block g hgl (by simp))).trans hrs
     have hvn : NatV wn (.agg #[.slice sa sn sc]) (evalP done x y) := hvs.same hsn (fun j hj x => by cases hj; exact hrn.noInt 0 _)
     have hB1 := HK.out wn hsn2
     obtain ⟨hk1, hk2⟩ := HUP.out _ hmem
     have hnw := wt_mem hmem
     have hst := lin_step (fun e => x ^ e.1 * y ^ e.2) hpm
     have hfv := HBD.out.val
     have hpx := HBD.out.px _ hmem
     have hpy := HBD.out.py _ hmem
     have hnx := HBD.out.nx _ hmem
     have hfn : Fit n := HBD.out.num.mono hnw
     simp only at hk1 hk2 hnx hpx hpy
     obtain ⟨qa, qn, qc, hq⟩ := hdr_sl hd
     unfold hdrV at hnv
     rw [hq] at hrun hen hnv
     have hbA : Below wn.heap.size wn ((wn.alloc (.cells #[.int .i64 (ke.1 : Int), .int .i64 (ke.2 : Int)] 90)).alloc (.cells #[.slice qa qn qc] 49)) := ((Below.refl _ _).alloc (Nat.le_refl _) _).alloc (by simp) _
     obtain ⟨W3, hW3⟩ : ∃ W3, (wn.alloc (.cells #[.int .i64 (ke.1 : Int), .int .i64 (ke.2 : Int)] 90)).alloc (.cells #[.slice qa qn qc] 49) = W3 := ⟨_, rfl⟩
     have q8 : row? W3 wn.heap.size = some #[.int .i64 (ke.1 : Int), .int .i64 (ke.2 : Int)] := by rw [← hW3]; simp [go_sem]
     have q9 : row? W3 (wn.heap.size + 1) = some #[.slice qa qn qc] := by rw [← hW3]; simp [go_sem]
     rw [hW3] at hbA
     have q1 := (row?_below hbA (row?_lt g1)).trans g1
     have q2 := (row?_below hbA (row?_lt g2)).trans g2
     have q7 := (row?_below hbA (row?_lt grs)).trans grs
     have HXN := Lib.hid ((HX.out.below hB1).below hbA)
     have HYN := Lib.hid ((HY.out.below hB1).below hbA)
     have HNV := Lib.hid (hnv.below hbA)
     have HVN := Lib.hid (hvn.below hbA)
     have HRN := Lib.hid (hrn2.below hbA)
     have HSN := Lib.hid (hsn2.trans ((Same.of_below hbA).mono fun j hj _ => hj))
     have HPM := Lib.hid hpm
     have HFB := Lib.hid (And.intro hfn (And.intro hpx (And.intro hpy hnx)))
     have hmx : n * x ^ ke.1 * y ^ ke.2 = x ^ ke.1 * y ^ ke.2 * n := by rw [Nat.mul_comm n, Nat.mul_assoc, Nat.mul_comm n, ← Nat.mul_assoc]
     have HFS := Lib.hid (show Fit (evalP done x y) ∧ Fit (n * x ^ ke.1 * y ^ ke.2) from by
       rw [hmx]
       exact ⟨hfv.mono (by unfold evalP; omega), hfv.mono (by unfold evalP; omega)⟩)
     have HEV := Lib.hid (show evalP (done ++ [(ke, n)]) x y = evalP done x y + n * x ^ ke.1 * y ^ ke.2 by rw [eval_append, eval_one, hmx])
     have HQ := Lib.hid fun W (hb : Below W3.heap.size W3 W) => show row? W (w.heap.size + 1) = some #[.slice xa LX xc] ∧ row? W (w.heap.size + 1 + 1) = some #[.slice ya LY yc] ∧ row? W g = some #[.slice sa sn sc] ∧ row? W (wn.heap.size + 1) = some #[.slice qa qn qc] ∧ W.cell? ⟨wn.heap.size, 0, none⟩ = some (.int .i64 (ke.1 : Int)) ∧ W.cell? ⟨wn.heap.size, 1, none⟩ = some (.int .i64 (ke.2 : Int)) from
       ⟨(row?_below hb (row?_lt q1)).trans q1, (row?_below hb (row?_lt q2)).trans q2, (row?_below hb (row?_lt q7)).trans q7, (row?_below hb (row?_lt q9)).trans q9, (cell?_row (i := 0) ((row?_below hb (row?_lt q8)).trans q8)).trans rfl, (cell?_row (i := 1) ((row?_below hb (row?_lt q8)).trans q8)).trans rfl⟩
     have HW3 := Lib.hid hW3
     clear hpm hvs hrn hsm hsn2 hvn hnv hsn hrn2 hq hnw hfn hmem hszn hW3 q8 q9 q1 q2 q7 hbA g1 g2 grs hgl hfv hpx hpy hnx hst hB1 hmx hrs
     go_wp2_with fail
     rw [HW3.out]
     clear HW3 hen hrun
     refine wp_region_mix (fun W => Below W3.heap.size W3 W) 13 [(0, true), (1, true), (2, true), (3, true), (4, true), (7, true), (8, true), (9, true), (5, false), (6, false), (10, false), (11, false), (12, false)] (by kernel_rfl) (by kernel_rfl) (Below.refl _ _).drew ?_
     repeat (apply wpPlan_still rfl rfl; (intro w hw; obtain ⟨k1, k2, k3, k4, k5, k6⟩ := HQ.out w hw; clear hw; go_simp; (try go_ints); (first | with_reducible rfl | (go_simp; with_reducible rfl))); (intro K hK; go_simp; (try go_ints); refine hK _ _ ?_; clear hK K))
     apply wpPlan_act rfl rfl
     intro K hK
     unfold Oper.wp
     go_simp
     refine (praised_any x ke.1 _ _ (HXN.out.below (Below.refl _ _).drew) (by omega) HFB.out.2.1).mono ?_
     rintro e wa ⟨va, rfl, hva, hba⟩
     have hb4 : Below W3.heap.size W3 wa := (Below.refl _ _).drew.trans hba
     refine hK _ _ hb4 ?_
     clear hK K hba
     have HVA := Lib.hid hva
     have HBA := Lib.hid hb4
     clear hva hb4
     apply wpPlan_act rfl rfl
     intro K hK
     unfold Oper.wp
     go_simp
     refine (nmul_any n (x ^ ke.1) _ _ _ (HNV.out.below HBA.out) HVA.out HFB.out.1 (HFB.out.2.1.mono (pow_le_big x ke.1 _ (by omega)))).mono ?_
     rintro e wb ⟨vb, rfl, hvb, hbb⟩
     have hb4 : Below W3.heap.size W3 wb := HBA.out.trans (hbb.mono HBA.out.size)
     refine hK _ _ hb4 ?_
     clear hK K hbb
     have HVB := Lib.hid hvb
     have HBB := Lib.hid hb4
     clear hvb hb4 HVA
     apply wpPlan_act rfl rfl
     intro K hK
     unfold Oper.wp
     go_simp
     refine (praised_any y ke.2 _ _ (HYN.out.below HBB.out) (by omega) HFB.out.2.2.1).mono ?_
     rintro e wc ⟨vc, rfl, hvc, hbc⟩
     have hb4 : Below W3.heap.size W3 wc := HBB.out.trans (hbc.mono HBB.out.size)
     have HVB' := Lib.hid (HVB.out.below hbc)
     refine hK _ _ hb4 ?_
     clear hK K hbc
     have HVC := Lib.hid hvc
     have HBC := Lib.hid hb4
     clear hvc hb4 HVB
     apply wpPlan_act rfl rfl
     intro K hK
     unfold Oper.wp
     go_simp
     refine (nmul_any (n * x ^ ke.1) (y ^ ke.2) _ _ _ HVB'.out HVC.out HFB.out.2.2.2 (HFB.out.2.2.1.mono (pow_le_big y ke.2 _ (by omega)))).mono ?_
     rintro e wd ⟨vd, rfl, hvd, hbd⟩
     have hb4 : Below W3.heap.size W3 wd := HBC.out.trans (hbd.mono HBC.out.size)
     refine hK _ _ hb4 ?_
     clear hK K hbd
     have HVD := Lib.hid hvd
     have HBD2 := Lib.hid hb4
     clear hvd hb4 HVB' HVC
     apply wpPlan_act rfl rfl
     intro K hK
     unfold Oper.wp
     go_simp
     refine (nadd_any _ _ _ _ _ (HVN.out.below HBD2.out) HVD.out HFS.out.1 HFS.out.2).mono ?_
     rintro e we ⟨ve, rfl, hve, hbe⟩
     have hb4 : Below W3.heap.size W3 we := HBD2.out.trans (hbe.mono HBD2.out.size)
     refine hK _ _ hb4 ?_
     clear hK K hbe
     rw [← HEV.out] at hve
     obtain ⟨ta, tc, rfl, -⟩ := natV_sl hve
     obtain ⟨LT, hLT⟩ : ∃ L, L = (digB 4294967296 (evalP (done ++ [(ke, n)]) x y)).length := ⟨_, rfl⟩
     rw [← hLT] at hve ⊢
     have r7 := (HQ.out we hb4).2.2.1
     have hRe := HRN.out.below hb4
     have hSe : Same (fun j => j ≠ g ∧ j ≠ g + 1) W1 we := HSN.out.trans ((Same.of_below hb4).mono fun j hj _ => hj)
     have HR' := Lib.hid (show ∃ done' : Pol, (done' ++ (r1 ++ r2)).Perm p ∧ (∃ (a : Option Addr) (n c : Nat), row? (we.setRow g #[.slice ta LT tc]) g = some #[.slice a n c] ∧ NatV (we.setRow g #[.slice ta LT tc]) (.agg #[.slice a n c]) (evalP done' x y)) ∧ PRng (we.setRow g #[.slice ta LT tc]) m1 (g + 1) p (r1 ++ r2) ∧ Same (fun j => j ≠ g ∧ j ≠ g + 1) W1 (we.setRow g #[.slice ta LT tc]) from
       ⟨done ++ [(ke, n)], (step_perm done r1 r2 (ke, n)).trans HPM.out, ⟨_, _, _, row?_setRow_same _ _ _ (by rw [r7]; rfl), hve.setRow r7 _⟩, hRe.same (g := some g) (same_some _ _ _) (by simp) (fun mb' hm' e => by cases e; have := HLT.out _ hm'; omega) (fun j hj x => by cases hj; rw [cell?_row r7]; simp), hSe.trans (Same.setRow _ _ _ _ (by simp))⟩)
     clear hve hb4 hLT hRe hSe
     refine wpPlan_nil ?_
     simp only [List.drop_succ_cons, List.drop_zero]
     go_wp2_with fail
     go_roundw
     case rel => exact ⟨r1 ++ r2, HR'.out⟩
     case measure =>
       refine Nat.lt_of_le_of_lt (minL_le HR'.out) ?_
       rw [← HMIN.out]
       simp
end Go.Proofs.YtgnlebnpnpjfmaaGreatDoor
namespace Go.Pal
theorem degP_app (p : Pol) (x : Ex × Nat) : degP (p ++ [x]) = (max (degP p).1 (x.1.1 : Int), max (degP p).2 (x.1.2 : Int)) := by unfold degP; rw [List.foldl_append]; rfl
theorem degP_perm {p q : Pol} (h : p.Perm q) : degP p = degP q := by
 unfold degP
 refine h.foldl_eq' (fun x _ y _ z => ?_) _
 simp only [Prod.mk.injEq]
 constructor <;> omega
end Go.Pal
namespace Go.Proofs.YtgnlebnpnpjfmaaGreatDoor
open Go Go.RowKit Go.Pal
theorem pdegree_any (p : Pol) (vp : Value) (w : World) (hp : PolV w vp p) :
   Calls Tryz.prog 37 #[vp] w fun e w' => e = .returned (.tuple #[.int .i64 (degP p).1, .int .i64 (degP p).2]) ∧ Below w.heap.size w w' := by
 obtain ⟨m1, rfl, hm1⟩ := hp
 have HUP := Lib.hid hm1.upto
 obtain ⟨W0, hW0⟩ : ∃ W0, w.alloc (.cells #[.map m1] 24) = W0 := ⟨_, rfl⟩
 have hb0 : Below w.heap.size w W0 := by
   rw [← hW0]
   (repeat' (first | (with_reducible first | exact Below.refl _ _ | assumption | refine Below.alloc ?_ ?_ _ | refine Below.drew ?_ | refine Below.setCell ?_ ?_ _ | refine below_setRow ?_ ?_ _ | exact Nat.le_refl _) | omega | (simp; done) | (simp; omega) | (simp at *; omega)))
 have hs0 : W0.heap.size = w.heap.size + 1 := by rw [← hW0]; simp
 obtain ⟨W1, hr, hR, hb1, hs1⟩ := (hm1.below hb0).range
 rw [hs0] at hr hR hs1
 have hb01 := hb0.trans (hb1.mono hb0.size)
 have HK := Lib.hid fun W (hs : Same (fun j => j ≠ w.heap.size + 1) W1 W) => show Below w.heap.size w W from hb01.trans (hs.below (by omega) fun j hj => by omega)
 have HR := Lib.hid hR
 have HS1 := Lib.hid hs1
 rw [← hW0] at hr
 clear hm1 hb0 hb1 hb01 hs0 hs1 hR hW0
 go_enter Tryz.func37, Tryz.ntmps37
 go_wp2_with fail
 clear hr
 go_loopw [4, 5] (fun a b wi => ∃ rest : Pol, ∃ done : Pol, (done ++ rest).Perm p ∧ a = .int .i64 (degP done).1 ∧ b = .int .i64 (degP done).2 ∧ PRng wi m1 (w.heap.size + 1) p rest ∧ Same (fun j => j ≠ w.heap.size + 1) W1 wi) (fun a b wi => minL (fun rest : Pol => ∃ done : Pol, (done ++ rest).Perm p ∧ a = .int .i64 (degP done).1 ∧ b = .int .i64 (degP done).2 ∧ PRng wi m1 (w.heap.size + 1) p rest ∧ Same (fun j => j ≠ w.heap.size + 1) W1 wi) List.length)
 case atStart => exact ⟨p, [], List.Perm.refl _, rfl, rfl, HR.out, Same.refl _ _⟩
 case round =>
   obtain ⟨rest, ⟨done, hpm, rfl, rfl, hrn, hsm⟩, hmin⟩ := minL_spec (len := List.length) hrel
   have HMIN := Lib.hid hmin
   clear hrel hmin HR
   rcases hrn.next 0 with ⟨rfl, hrun⟩ | ⟨ke, n, hd, r1, r2, wn, rfl, hrun, hrn2, hmem, hnv, hsn, hszn, hen⟩
   · have hpe : degP done = degP p := degP_perm (by simpa using hpm)
     have HP := Lib.hid hpe
     have HB := Lib.hid (HK.out wr hsm)
     clear hpm hrn hsm HMIN hpe
     go_wp2_with fail
     go_ret2
     exact ⟨by first | rfl | (rw [HP.out]; rfl), HB.out⟩
   · have hrl := hrn.lt
     have hsn2 : Same (fun j => j ≠ w.heap.size + 1) W1 wn := hsm.trans_new hsn fun j hj h => by simp; omega
     obtain ⟨hk1, hk2⟩ := HUP.out _ hmem
     simp only at hk1 hk2
     have hbA : Below wn.heap.size wn (wn.alloc (.cells #[.int .i64 (ke.1 : Int), .int .i64 (ke.2 : Int)] 90)) := (Below.refl _ _).alloc (Nat.le_refl _) _
     obtain ⟨W3, hW3⟩ : ∃ W3, wn.alloc (.cells #[.int .i64 (ke.1 : Int), .int .i64 (ke.2 : Int)] 90) = W3 := ⟨_, rfl⟩
     have q8 : row? W3 wn.heap.size = some #[.int .i64 (ke.1 : Int), .int .i64 (ke.2 : Int)] := by rw [← hW3]; simp [go_sem]
     rw [hW3] at hbA
     have HR' := Lib.hid (show ∃ done' : Pol, (done' ++ (r1 ++ r2)).Perm p ∧ Value.int .i64 (max (degP done).1 (ke.1 : Int)) = .int .i64 (degP done').1 ∧ Value.int .i64 (max (degP done).2 (ke.2 : Int)) = .int .i64 (degP done').2 ∧ PRng W3.drew m1 (w.heap.size + 1) p (r1 ++ r2) ∧ Same (fun j => j ≠ w.heap.size + 1) W1 W3.drew from
       ⟨done ++ [(ke, n)], (step_perm done r1 r2 (ke, n)).trans hpm, by rw [degP_app], by rw [degP_app], (hrn2.below hbA).below (Below.refl _ _).drew, (hsn2.trans ((Same.of_below hbA).mono fun j hj _ => hj)).trans (Same.drew _ _)⟩)
     have HQ := Lib.hid fun W (hb : Below W3.heap.size W3 W) => show W.cell? ⟨wn.heap.size, 0, none⟩ = some (.int .i64 (ke.1 : Int)) ∧ W.cell? ⟨wn.heap.size, 1, none⟩ = some (.int .i64 (ke.2 : Int)) from
       ⟨(cell?_row (i := 0) ((row?_below hb (row?_lt q8)).trans q8)).trans rfl, (cell?_row (i := 1) ((row?_below hb (row?_lt q8)).trans q8)).trans rfl⟩
     have HW3 := Lib.hid hW3
     obtain ⟨d1, hd1⟩ : ∃ d1, d1 = (degP done).1 := ⟨_, rfl⟩
     obtain ⟨d2, hd2⟩ : ∃ d2, d2 = (degP done).2 := ⟨_, rfl⟩
     rw [← hd1, ← hd2] at HR' HMIN ⊢
     clear hpm hrn hsm hsn2 hnv hsn hrn2 hmem hszn hW3 q8 hbA hd1 hd2
     go_wp2_with fail
     rw [HW3.out]
     clear HW3 hen hrun
     refine wp_region_mix (fun W => Below W3.heap.size W3 W) 9 [(0, true), (1, true), (2, true), (3, true), (4, true), (5, true), (6, true), (7, true), (8, true)] (by kernel_rfl) (by kernel_rfl) (Below.refl _ _).drew ?_
     repeat (apply wpPlan_still rfl rfl; (intro w hw; obtain ⟨k1, k2⟩ := HQ.out w hw; clear hw; go_simp; (try go_ints); (first | with_reducible rfl | (go_simp; with_reducible rfl))); (intro K hK; go_simp; (try go_ints); refine hK _ _ ?_; clear hK K))
     refine wpPlan_nil ?_
     simp only [List.drop_succ_cons, List.drop_zero]
     go_wp2_with fail
     go_roundw
     case rel => exact ⟨r1 ++ r2, HR'.out⟩
     case measure =>
       refine Nat.lt_of_le_of_lt (minL_le HR'.out) ?_
       rw [← HMIN.out]
       simp
end Go.Proofs.YtgnlebnpnpjfmaaGreatDoor
