/- Walks: the reference's Text; bignat's Parse. Walk: bignat's Parse of a number's decimal .. -/
import Derived.Test.YtgnlebnpnpjfmaaGreatDoorUNQ
import Derived.Test.YtgnlebnpnpjfmaaGreatDoorUNJ
set_option maxHeartbeats 2000000
set_option maxRecDepth 100000
set_option linter.all false
namespace Go.Pal
open Go Go.RowKit
def bytesA (l : List UInt8) : Array Value := (l.map fun c : UInt8 => Value.int .u8 (c.toNat : Int)).toArray
theorem bytesA_get {l : List UInt8} {i : Nat} {c : UInt8} (h : l[i]? = some c) : (bytesA l)[i]? = some (.int .u8 (c.toNat : Int)) := by simp [bytesA, h]
theorem bytesA_set (l : List UInt8) (i : Nat) (c : UInt8) : (bytesA l).setIfInBounds i (.int .u8 (c.toNat : Int)) = bytesA (l.set i c) := by
 apply Array.ext'
 simp [bytesA, Array.toList_setIfInBounds, List.map_set]
theorem bytesA_zeros (n : Nat) : Array.replicate n (Value.int .u8 0) = bytesA (List.replicate n 0) := by
 apply Array.ext'
 simp [bytesA]
def txtS (l : List Nat) (k : Nat) : List UInt8 := List.replicate (l.length - k) 0 ++ dgT (l.take k)
theorem dgT_len (l : List Nat) : (dgT l).length = l.length := by simp [dgT]
theorem txtS_len (l : List Nat) {k : Nat} (h : k ≤ l.length) : (txtS l k).length = l.length := by
 unfold txtS
 rw [List.length_append, List.length_replicate, dgT_len, List.length_take]
 omega
theorem txtS_step {l : List Nat} {k x : Nat} (hx : l[k]? = some x) : txtS l (k + 1) = (txtS l k).set (l.length - 1 - k) (UInt8.ofNat (48 + x)) := by
 have hk := (List.getElem?_eq_some_iff.1 hx).1
 unfold txtS
 obtain ⟨r, hr⟩ : ∃ r, l.length - k = r + 1 := ⟨l.length - k - 1, by omega⟩
 have ht : dgT (l.take (k + 1)) = UInt8.ofNat (48 + x) :: dgT (l.take k) := by
   rw [List.take_add_one, hx]
   simp [dgT]
 rw [ht, hr, show l.length - (k + 1) = r by omega, show l.length - 1 - k = r by omega, List.replicate_succ', List.append_assoc, List.set_append, if_neg (by simp), List.length_replicate, Nat.sub_self]
 rfl
end Go.Pal
namespace Go.Proofs.YtgnlebnpnpjfmaaGreatDoor
open Go Go.RowKit Go.Pal Go.Shelf
theorem infoU8 : (Tryz.prog.info? 5).map (fun i => (i.zero, i.size, i.bytes)) = some (some (.int .u8 0), 1, 1) := by kernel_rfl
theorem make_B (n : Nat) (hn : n ≤ 1000000) (W : World) : (Instr.makeSlice 124 (.int .i64 (n : Int)) (.int .i64 (n : Int))).run Tryz.prog W = .ok (.slice (some ⟨W.heap.size, 0, none⟩) n n) (W.alloc (.cells (bytesA (List.replicate n 0)) 5)) := by
 rw [run_make1 (P := Tryz.prog) Tryz.underlying124 infoU8 rfl n (by omega) (by omega) W, bytesA_zeros]
theorem bytes_text (W : World) (g : Nat) (l : List UInt8) (h : row? W g = some (bytesA l)) (c : Nat) : (convert 124 9 (.slice (some ⟨g, 0, none⟩) l.length c)).run Tryz.prog W = .ok (.string ⟨l.toArray⟩) W :=
 run_convert_bytes_back (P := Tryz.prog) W 124 9 5 ⟨g, 0, none⟩ c l Tryz.underlying124 Tryz.underlying5 Tryz.underlying9 (fun j hj => by
   have e1 : (⟨g, 0, none⟩ : Addr).add j = ⟨g, j, none⟩ := by unfold Addr.add; split <;> simp_all
   rw [e1, cell?_row h, bytesA_get (List.getElem?_eq_getElem hj)])
theorem dtext_any (m : Nat) (v : Value) (w : World) (hv : RefV w v m) (hm : Fit m) :
   Calls Tryz.prog 28 #[v] w fun e w' => e = .returned (.string ⟨(Lib.decDigits m).toArray⟩) ∧ Below w.heap.size w w' := by
 have hlm := refLen hm
 unfold RefV at hv
 have hdig := fun h : 0 < m => dgT_digB h
 have hnil := digB_nil (b := 10) (n := m) (by decide)
 have hok := digB_ok (b := 10) (by decide) m
 obtain ⟨x, hx⟩ : ∃ x, x = digB 10 m := ⟨_, rfl⟩
 rw [← hx] at hv hlm hdig hnil hok
 have HV := Lib.hid hv
 have HOK := Lib.hid hok
 obtain ⟨a, c, rfl, -⟩ := hv
 by_cases h0 : m = 0
 · have hx0 := hnil.2 h0
   subst h0
   rw [hx0] at HV ⊢
   clear hdig hnil hok hx hx0 hlm HOK
   go_enter Tryz.func28, Tryz.ntmps28
   go_wp2_with fail
   go_ret
   exact ⟨by rw [dec_small (by omega)]; rfl, Below.refl _ _⟩
 · have HD := Lib.hid (hdig (by omega))
   have hne : x ≠ [] := fun e => h0 (hnil.1 e)
   have hpos := List.length_pos_iff.2 hne
   have hmk := make_B x.length (by omega)
   have hl0 : ¬ (x.length : Int) = 0 := by omega
   obtain ⟨W0, hW0⟩ : ∃ W0, w.alloc (.cells (bytesA (List.replicate x.length 0)) 5) = W0 := ⟨_, rfl⟩
   have hb0 : Below w.heap.size w W0 := by rw [← hW0]; exact (Below.refl _ _).alloc (Nat.le_refl _) _
   have e0 : row? W0 w.heap.size = some (bytesA (txtS x 0)) := by rw [← hW0]; simp [go_sem, txtS, dgT]
   have HB0 := Lib.hid hb0
   have HE := Lib.hid e0
   have hs0 := row?_lt e0
   have HS0 := Lib.hid hs0
   clear hdig hnil hok hx hne h0 hb0 e0 hs0
   go_enter Tryz.func28, Tryz.ntmps28
   go_wp2_with fail
   clear hW0 hmk
   go_loopw [4] (fun i wr => ∃ k : Nat, k ≤ x.length ∧ i = .int .i64 (k : Int) ∧ row? wr w.heap.size = some (bytesA (txtS x k)) ∧ Same (fun j => j ≠ w.heap.size) W0 wr) (fun i _ => x.length - (intOf i).toNat)
   case atStart => exact ⟨0, by omega, rfl, HE.out, Same.refl _ _⟩
   case round =>
     obtain ⟨k, hk, rfl, hr, hs⟩ := hrel
     have hb : Below w.heap.size w wr := HB0.out.trans (hs.below (by have := HS0.out; omega) fun j hj => by omega)
     have HR := Lib.hid hr
     have HS := Lib.hid hs
     have HB := Lib.hid hb
     have htl := txtS_len x hk
     clear hr hs
     by_cases hlt : k < x.length
     · obtain ⟨b1, o1, c1, X, hsl, -, hX, hc⟩ := HV.out.at hlt
       simp only [Value.slice.injEq] at hsl
       obtain ⟨rfl, -, rfl⟩ := hsl
       have c0 := hc wr hb
       have hXl := HOK.out X (List.mem_of_getElem? hX)
       have hst := txtS_step hX
       have HST := Lib.hid hst
       obtain ⟨Z, hZ⟩ : ∃ Z, (txtS x k)[x.length - 1 - k]? = some Z := ⟨_, List.getElem?_eq_getElem (by omega)⟩
       have c3 : wr.cell? ⟨w.heap.size, x.length - 1 - k, none⟩ = some (.int .u8 (Z.toNat : Int)) := (cell?_row HR.out).trans (bytesA_get hZ)
       have c4 : wr.frozen? ⟨w.heap.size, x.length - 1 - k, none⟩ = false := frozen?_row HR.out
       obtain ⟨j, hj⟩ : ∃ j, j = x.length - 1 - k := ⟨_, rfl⟩
       rw [← hj] at c3 c4 HST
       have e1 : (x.length : Int) - 1 - (k : Int) = (j : Int) := by omega
       have e2 : (j : Int) < (x.length : Int) := by omega
       have HU8 := Lib.hid (show (48 : Int) + (X : Int) = ((UInt8.ofNat (48 + X)).toNat : Int) by rw [dig_of hXl]; omega)
       clear hc hX hst hZ hj hb
       go_wp2_with fail
       go_roundw
       case rel =>
         refine ⟨k + 1, by omega, by go_num, ?_, HS.out.trans (Same.setCell _ _ _ _ (by simp))⟩
         rw [row?_setCell_same, HR.out, HST.out, ← bytesA_set, ← HU8.out]
         rfl
       case measure => simp [intOf]; omega
     · have hkn : k = x.length := by omega
       subst hkn
       have hcv := bytes_text wr w.heap.size _ HR.out x.length
       rw [htl] at hcv
       unfold txtS at hcv
       rw [List.take_length, Nat.sub_self, List.replicate_zero, List.nil_append, HD.out] at hcv
       clear htl
       go_wp2_with fail
       go_ret
       exact ⟨rfl, HB.out⟩
end Go.Proofs.YtgnlebnpnpjfmaaGreatDoor
namespace Go.Pal
open Go Go.RowKit
theorem str_get (l : List UInt8) (i : Nat) (h : i < (⟨l.toArray⟩ : ByteArray).size) : (⟨l.toArray⟩ : ByteArray)[i] = l[i]'(by simpa [ByteArray.size] using h) := by
 show l.toArray[i] = _
 simp
section
variable {P : Program}
theorem ret_row_tmp {fn : Func} {R : Ending → World → Prop} {a : Act} {w : World} {p q : Tmp} {ty n : Nat} (g : Nat) (c : Array Value) (h : fn.results = #[.cell p ty, .tmp q]) (hagg : ∀ w, (isAgg ty).run P w = .ok true w) (hn : ∀ w, (sizeOf ty).run P w = .ok n w)
   (hp : a.tmps.getD p undef = .pointer (some ⟨g, 0, none⟩)) (hd : a.defers = []) (hg : row? w g = some c) (hc : c.size = n) (hR : R (.returned (.tuple #[.agg c, a.tmps.getD q undef])) w) : bodyPost P fn R .ret a w :=
 bodyPost_ret (results_row_tmp h hagg hn a.tmps w g c hp hg hc) hd hR
end
end Go.Pal
namespace Go.Proofs.YtgnlebnpnpjfmaaGreatDoor
open Go Go.RowKit Go.Pal Go.Shelf
attribute [local go_sem] str_get
theorem dval_take_le (l : List UInt8) (k : Nat) : dval 0 (l.take k) ≤ dval 0 l := by
 have e := dval_append (l.take k) (l.drop k) 0
 rw [List.take_append_drop] at e
 rw [e]
 exact dval_le _ _
theorem nparse_any (s : List UInt8) (hs : numS s = true) (hl : s.length ≤ 7000) (w : World) :
   Calls Tryz.prog 57 #[.string ⟨s.toArray⟩] w fun e w' => ∃ v', e = .returned (.tuple #[v', .int .i64 0]) ∧ NatV w' v' (dval 0 s) ∧ Below w.heap.size w w' := by
 obtain ⟨hd, hpos⟩ := dec_numS hs
 obtain ⟨hne, hh, hall⟩ := numS_iff.1 hs
 have hfit : Fit (dval 0 s) := by
   have h1 := dval_lt s hall
   refine fit_of (k := 4 * s.length) ?_ (by unfold fitK; omega)
   refine Nat.lt_of_lt_of_le h1 ?_
   rw [Nat.pow_mul]
   exact Nat.pow_le_pow_left (by decide) _
 cases s with
 | nil => exact absurd rfl hne
 | cons c0 s =>
   have hc0 : c0 ≠ 48 := fun e => hh (by rw [e]; rfl)
   have HT := Lib.hid fun W => trim_any (c0 :: s) (by omega) W
   rw [(trim_nil (c0 :: s)).2 hall] at HT
   have HALL := Lib.hid hall
   have HFIT := Lib.hid hfit
   have HC0 := Lib.hid hc0
   have hcn : ¬ (c0.toNat : Int) = 48 := fun e => hc0 (UInt8.toNat_inj.1 (by show c0.toNat = 48; omega))
   have hsz : (⟨(c0 :: s).toArray⟩ : ByteArray).size = s.length + 1 := by simp [ByteArray.size]
   have HCV := Lib.hid fun W : World => show ∃ cap WB, (convert 9 124 (.string ⟨(c0 :: s).toArray⟩)).run Tryz.prog W = .ok (.slice (some ⟨W.heap.size, 0, none⟩) (s.length + 1) cap) WB ∧ Below W.heap.size W WB ∧ W.heap.size < WB.heap.size ∧ ∀ (j : Nat) (c : UInt8), (c0 :: s)[j]? = some c → WB.cell? ⟨W.heap.size, j, none⟩ = some (.int .u8 (c.toNat : Int)) from by
     have h := Lib.run_convert_string_bytes W 9 124 5 ⟨(c0 :: s).toArray⟩ Tryz.underlying9 Tryz.underlying124 Tryz.underlying5
     rw [hsz] at h
     refine ⟨_, _, h, Lib.bytesWorld_below W 5 ⟨(c0 :: s).toArray⟩, by rw [Lib.bytesWorld_size]; omega, fun j c hc => ?_⟩
     have hj := (List.getElem?_eq_some_iff.1 hc).1
     rw [Lib.bytesWorld_cell W 5 ⟨(c0 :: s).toArray⟩ j (by rw [hsz]; exact hj)]
     simp [hc]
   clear hd hpos hne hh hs hfit hall hc0 hsz
   go_enter Tryz.func57, Tryz.ntmps57
   go_wp2_with fail
   refine (HT.out _).mono ?_
   rintro r w1 ⟨rfl, hb1⟩
   have HB1 := Lib.hid (((Below.refl w.heap.size w).alloc (Nat.le_refl _) _).trans (hb1.mono (by simp)))
   have HR1 := Lib.hid ((row?_below hb1 (by simp)).trans (row?_alloc_at w #[Value.slice none 0 0] 49 w.heap.size rfl))
   obtain ⟨W2, hW2⟩ : ∃ W2, w1.alloc (.cells #[.slice none 0 0] 49) = W2 := ⟨_, rfl⟩
   obtain ⟨cap, WB, hcv, hbw, hlB, hcc⟩ := HCV.out W2
   have hb12 : Below w1.heap.size w1 W2 := by rw [← hW2]; exact (Below.refl _ _).alloc (Nat.le_refl _) _
   have r2 : row? W2 w1.heap.size = some #[.slice none 0 0] := by rw [← hW2]; exact row?_alloc_at _ _ _ _ rfl
   have hl2 := row?_lt r2
   have rB := (row?_below hbw hl2).trans r2
   have hb1B : Below w1.heap.size w1 WB := hb12.trans (hbw.mono hb12.size)
   have HRB := Lib.hid rB
   have HRR := Lib.hid ((row?_below hb1B (row?_lt HR1.out)).trans HR1.out)
   have HBB := Lib.hid (HB1.out.trans (hb1B.mono HB1.out.size))
   have HCC := Lib.hid hcc
   have hsB := hbw.size
   have hs1 := row?_lt HR1.out
   have d1 : decide ((20000 : Int) < (s.length : Int) + 1) = false := decide_eq_false (by simp at hl; omega)
   have d2 : ((c0.toNat : Int) == 48) = false := by simpa using hcn
   have hl3 : s.length ≤ 6999 := by simpa using hl
   clear hb1 HT hb12 r2 rB hb1B hcc HCV HB1 HR1 hbw hl
   rcases Nat.eq_zero_or_pos s.length with h0 | h0
   · have d3 : decide ((1 : Int) < (s.length : Int) + 1) = false := decide_eq_false (by omega)
     have H0 := Lib.hid h0
     clear h0
     go_wp2_with fail
     clear hcv hW2 d3
     go_loopw [32] (fun i wr => ∃ k : Nat, k ≤ s.length + 1 ∧ i = .int .i64 (k : Int) ∧ (∃ sv, row? wr w1.heap.size = some #[sv] ∧ RdN .u32 wr sv (digB 4294967296 (dval 0 ((c0 :: s).take k)))) ∧ Same (fun j => j ≠ w1.heap.size) WB wr) (fun i _ => s.length + 1 - (intOf i).toNat)
     case atStart => exact ⟨0, by omega, rfl, ⟨_, HRB.out, RdN.nil _ _⟩, Same.refl _ _⟩
     case round =>
       obtain ⟨k, hk, rfl, ⟨sv, hr, hrd⟩, hs⟩ := hrel
       obtain ⟨a1, e1, rfl, -⟩ := id hrd
       have HS := Lib.hid hs
       have HR := Lib.hid hr
       have HRD := Lib.hid hrd
       have hwr := hs.size
       obtain ⟨m, hm⟩ : ∃ m, m = dval 0 ((c0 :: s).take k) := ⟨_, rfl⟩
       have HM := Lib.hid hm
       have hfm : Fit m := by rw [hm]; exact HFIT.out.mono (dval_take_le _ _)
       rw [← hm] at HRD HR
       obtain ⟨K, hK⟩ : ∃ K, K = (digB 4294967296 m).length := ⟨_, rfl⟩
       rw [← hK] at HRD HR
       have r0 := HR.out
       have hrl := row?_lt r0
       clear hr hrd hs hm hK
       by_cases hlt : k < s.length + 1
       · obtain ⟨c, hc⟩ : ∃ c, (c0 :: s)[k]? = some c := ⟨_, List.getElem?_eq_getElem (by simpa using hlt)⟩
         have hcd := HALL.out c (List.mem_of_getElem? hc)
         unfold isDig at hcd
         obtain ⟨hcd1, hcd2⟩ := hcd
         have c1 : wr.cell? ⟨W2.heap.size, k, none⟩ = some (.int .u8 (c.toNat : Int)) := (World.cell?_of_block (HS.out.block W2.heap.size (by omega) (by omega))).trans (HCC.out k c hc)
         have hst : dval 0 ((c0 :: s).take (k + 1)) = m * 10 + (c.toNat - 48) := by rw [List.take_add_one, hc, HM.out]; exact dval_snoc _ _ _
         have HST := Lib.hid hst
         obtain ⟨d, hd⟩ : ∃ d, d = c.toNat - 48 := ⟨_, rfl⟩
         rw [← hd] at HST
         have e2 : (c.toNat : Int) - 48 = (d : Int) := by omega
         have hdl : d < 10 := by omega
         have HSM := Lib.hid (nsmall_any m 10 d _ wr ⟨_, rfl, HRD.out⟩ hfm (by decide) (by omega))
         clear hc hst hd
         go_wp2_with fail
         refine HSM.out.mono ?_
         rintro r w3 ⟨v3, rfl, hv3, hb3⟩
         obtain ⟨a3, c3, rfl, hr3⟩ := natV_sl hv3
         have HR3 := Lib.hid hr3
         have r3 := (row?_below hb3 hrl).trans HR.out
         have HRW3 := Lib.hid r3
         have HS3 := Lib.hid (HS.out.trans ((Same.of_below hb3).mono fun j hj hne => by omega))
         clear hv3 hr3 hb3 HSM c1 r0
         go_wp2_with fail
         refine ⟨⟨k + 1, by omega, by go_num, ⟨_, row?_setRow_same _ _ _ (by rw [HRW3.out]; rfl), ?_⟩, HS3.out.trans (Same.setRow _ _ _ _ (by simp))⟩, by simp [intOf]; omega⟩
         rw [HST.out]
         exact HR3.out.setRow HRW3.out (noInt1 _ _ _) _
       · have hkn : k = s.length + 1 := by omega
         subst hkn
         have hmt : m = dval 0 (c0 :: s) := by rw [HM.out, List.take_of_length_le (by simp)]
         have HMT := Lib.hid hmt
         have HBL := Lib.hid (nbitLen_any m _ wr ⟨_, rfl, HRD.out⟩ hfm)
         clear hmt
         go_wp2_with fail
         refine HBL.out.mono ?_
         rintro r w3 ⟨bl, rfl, hbl, hb3⟩
         have r3 := (row?_below hb3 hrl).trans HR.out
         have rr := (row?_below hb3 (by omega)).trans ((row?_congr (HS.out.block w.heap.size (by omega) (by omega))).trans HRR.out)
         have HRD3 := Lib.hid (HRD.out.below hb3)
         have HRR3 := Lib.hid rr
         have HB3 := Lib.hid (HBB.out.trans ((HS.out.below (by omega) fun j hj => by omega).trans (hb3.mono (by omega))))
         clear hb3 HBL r0
         go_wp2_with fail
         refine ret_row_tmp w.heap.size #[.slice a1 K e1] rfl Tryz.isAgg49 Tryz.sizeOf49 rfl rfl ?_ rfl ?_
         · simp [go_sem, rr]
         · refine ⟨_, rfl, ⟨_, rfl, ?_⟩, below_setRow HB3.out (Nat.le_refl _) _⟩
           rw [← HMT.out]
           exact HRD3.out.setRow HRR3.out (noInt1 _ _ _) _
   · have d3 : decide ((1 : Int) < (s.length : Int) + 1) = true := decide_eq_true (by omega)
     have H0 := Lib.hid h0
     clear h0
     go_wp2_with fail
     clear hcv hW2 d3
     go_loopw [32] (fun i wr => ∃ k : Nat, k ≤ s.length + 1 ∧ i = .int .i64 (k : Int) ∧ (∃ sv, row? wr w1.heap.size = some #[sv] ∧ RdN .u32 wr sv (digB 4294967296 (dval 0 ((c0 :: s).take k)))) ∧ Same (fun j => j ≠ w1.heap.size) WB wr) (fun i _ => s.length + 1 - (intOf i).toNat)
     case atStart => exact ⟨0, by omega, rfl, ⟨_, HRB.out, RdN.nil _ _⟩, Same.refl _ _⟩
     case round =>
       obtain ⟨k, hk, rfl, ⟨sv, hr, hrd⟩, hs⟩ := hrel
       obtain ⟨a1, e1, rfl, -⟩ := id hrd
       have HS := Lib.hid hs
       have HR := Lib.hid hr
       have HRD := Lib.hid hrd
       have hwr := hs.size
       obtain ⟨m, hm⟩ : ∃ m, m = dval 0 ((c0 :: s).take k) := ⟨_, rfl⟩
       have HM := Lib.hid hm
       have hfm : Fit m := by rw [hm]; exact HFIT.out.mono (dval_take_le _ _)
       rw [← hm] at HRD HR
       obtain ⟨K, hK⟩ : ∃ K, K = (digB 4294967296 m).length := ⟨_, rfl⟩
       rw [← hK] at HRD HR
       have r0 := HR.out
       have hrl := row?_lt r0
       clear hr hrd hs hm hK
       by_cases hlt : k < s.length + 1
       · obtain ⟨c, hc⟩ : ∃ c, (c0 :: s)[k]? = some c := ⟨_, List.getElem?_eq_getElem (by simpa using hlt)⟩
         have hcd := HALL.out c (List.mem_of_getElem? hc)
         unfold isDig at hcd
         obtain ⟨hcd1, hcd2⟩ := hcd
         have c1 : wr.cell? ⟨W2.heap.size, k, none⟩ = some (.int .u8 (c.toNat : Int)) := (World.cell?_of_block (HS.out.block W2.heap.size (by omega) (by omega))).trans (HCC.out k c hc)
         have hst : dval 0 ((c0 :: s).take (k + 1)) = m * 10 + (c.toNat - 48) := by rw [List.take_add_one, hc, HM.out]; exact dval_snoc _ _ _
         have HST := Lib.hid hst
         obtain ⟨d, hd⟩ : ∃ d, d = c.toNat - 48 := ⟨_, rfl⟩
         rw [← hd] at HST
         have e2 : (c.toNat : Int) - 48 = (d : Int) := by omega
         have hdl : d < 10 := by omega
         have HSM := Lib.hid (nsmall_any m 10 d _ wr ⟨_, rfl, HRD.out⟩ hfm (by decide) (by omega))
         clear hc hst hd
         go_wp2_with fail
         refine HSM.out.mono ?_
         rintro r w3 ⟨v3, rfl, hv3, hb3⟩
         obtain ⟨a3, c3, rfl, hr3⟩ := natV_sl hv3
         have HR3 := Lib.hid hr3
         have r3 := (row?_below hb3 hrl).trans HR.out
         have HRW3 := Lib.hid r3
         have HS3 := Lib.hid (HS.out.trans ((Same.of_below hb3).mono fun j hj hne => by omega))
         clear hv3 hr3 hb3 HSM c1 r0
         go_wp2_with fail
         refine ⟨⟨k + 1, by omega, by go_num, ⟨_, row?_setRow_same _ _ _ (by rw [HRW3.out]; rfl), ?_⟩, HS3.out.trans (Same.setRow _ _ _ _ (by simp))⟩, by simp [intOf]; omega⟩
         rw [HST.out]
         exact HR3.out.setRow HRW3.out (noInt1 _ _ _) _
       · have hkn : k = s.length + 1 := by omega
         subst hkn
         have hmt : m = dval 0 (c0 :: s) := by rw [HM.out, List.take_of_length_le (by simp)]
         have HMT := Lib.hid hmt
         have HBL := Lib.hid (nbitLen_any m _ wr ⟨_, rfl, HRD.out⟩ hfm)
         clear hmt
         go_wp2_with fail
         refine HBL.out.mono ?_
         rintro r w3 ⟨bl, rfl, hbl, hb3⟩
         have r3 := (row?_below hb3 hrl).trans HR.out
         have rr := (row?_below hb3 (by omega)).trans ((row?_congr (HS.out.block w.heap.size (by omega) (by omega))).trans HRR.out)
         have HRD3 := Lib.hid (HRD.out.below hb3)
         have HRR3 := Lib.hid rr
         have HB3 := Lib.hid (HBB.out.trans ((HS.out.below (by omega) fun j hj => by omega).trans (hb3.mono (by omega))))
         clear hb3 HBL r0
         go_wp2_with fail
         refine ret_row_tmp w.heap.size #[.slice a1 K e1] rfl Tryz.isAgg49 Tryz.sizeOf49 rfl rfl ?_ rfl ?_
         · simp [go_sem, rr]
         · refine ⟨_, rfl, ⟨_, rfl, ?_⟩, below_setRow HB3.out (Nat.le_refl _) _⟩
           rw [← HMT.out]
           exact HRD3.out.setRow HRR3.out (noInt1 _ _ _) _
end Go.Proofs.YtgnlebnpnpjfmaaGreatDoor
