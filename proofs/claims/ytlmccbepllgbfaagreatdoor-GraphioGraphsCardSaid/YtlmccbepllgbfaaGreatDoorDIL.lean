/- Walks: the reference's text of a graph; the text of no graph. -/
import Derived.Test.YtlmccbepllgbfaaGreatDoorDVC
import Derived.Test.YtlmccbepllgbfaaGreatDoorDYC
import Derived.Test.YtlmccbepllgbfaaGreatDoorDWf
import Derived.Test.YtlmccbepllgbfaaGreatDoorDHE
import Derived.Test.YtlmccbepllgbfaaGreatDoorDVb
set_option maxHeartbeats 4000000
set_option maxRecDepth 10000
set_option linter.all false
namespace Go.Proofs.YtlmccbepllgbfaaGreatDoor
open Go Go.RowKit Go.Pal Go.Shelf
attribute [local go_sem] Oper.semAt_some
theorem rlineT_any (s : List UInt8) (hs : s.length ≤ 100) (ns : List Int) (hn : ∀ n ∈ ns, -9223372036854775807 ≤ n ∧ n ≤ 9223372036854775807) (hl : ns.length ≤ 100) (v : Value) (w : World) (hv : RdL w v ns) :
   Calls Tryz.prog 45 #[.string ⟨s.toArray⟩, v] w fun e w' => e = .returned (.string ⟨(lineB s ns).toArray⟩) ∧ Below w.heap.size w w' := by
 have HV := Lib.hid hv
 have HN := Lib.hid hn
 have HS := Lib.hid hs
 obtain ⟨a, c, rfl, -⟩ := hv
 clear hn hs
 go_enter Tryz.func45, Tryz.ntmps45
 go_wp2_with fail
 go_loopw [5, 6] (fun sv i wr => ∃ k : Nat, k ≤ ns.length ∧ i = .int .i64 (k : Int) ∧ sv = .string ⟨(lineB s (ns.take k)).toArray⟩ ∧ Below w.heap.size w wr) (fun _ i _ => ns.length - (intOf i).toNat)
 case atStart => exact ⟨0, by omega, rfl, by simp [lineB], Below.refl _ _⟩
 case round =>
   obtain ⟨k, hk, rfl, rfl, hb⟩ := hrel
   have HB := Lib.hid hb
   clear hb
   by_cases hlt : k < ns.length
   · obtain ⟨b, off, c', z, h1, hz, hc⟩ := HV.out.at hlt
     simp only [Value.slice.injEq] at h1
     obtain ⟨rfl, -, rfl⟩ := h1
     have c0 := hc wr HB.out
     have hzi := HN.out z (List.mem_of_getElem? hz)
     have hlz := Lib.itoa_length_le z (by omega) (by omega)
     have hls := lineB_len (s := s) (ns := ns.take k) fun n hn => by have := HN.out n (List.mem_of_mem_take hn); exact ⟨by omega, by omega⟩
     rw [List.length_take] at hls
     have hss := HS.out
     have HE := Lib.hid (show lineB s (ns.take (k + 1)) = lineB s (ns.take k) ++ spNum z by rw [List.take_add_one, hz]; exact lineB_snoc _ _ _)
     have HZ := Lib.hid hzi
     obtain ⟨acc, hacc⟩ : ∃ acc, acc = lineB s (ns.take k) := ⟨_, rfl⟩
     rw [← hacc] at HE hls ⊢
     have hal : acc.length ≤ 10000 := by omega
     have hal2 : (acc ++ [32]).length ≤ 10001 := by simp; omega
     have hzl2 : (Lib.itoa z).length ≤ 8388608 := by omega
     clear hz hc hzi hacc hls
     go_wp2_with (first | (refine wpList_strAdd rfl _ _ _ _ rfl acc [32] rfl rfl (by simp; omega) ?_) | fail)
     refine (rnum_any z HZ.out.1 HZ.out.2 wr).mono ?_
     rintro r w2 ⟨rfl, hb2⟩
     have HB2 := Lib.hid (HB.out.trans (hb2.mono HB.out.size))
     clear hb2 c0
     go_wp2_with (first | (refine wpList_strAdd rfl _ _ _ _ rfl (acc ++ [32]) (Lib.itoa z) rfl rfl (by simp; omega) ?_) | fail)
     go_roundw
     case rel => exact ⟨k + 1, by omega, by go_num, by rw [HE.out]; unfold spNum; simp, HB2.out⟩
     case measure => simp [intOf]; omega
   · have hkn : k = ns.length := by omega
     subst hkn
     go_wp2_with fail
     go_ret
     exact ⟨by first | rfl | (rw [List.take_length]; rfl), HB.out⟩
theorem rgraphT_any (G : Gr) (hG : G.Ok) (vV vE : Value) (w : World) (hg : RefG w vV vE G) :
   Calls Tryz.prog 17 #[.agg #[vV, vE]] w fun e w' => e = .returned (.string ⟨G.text.toArray⟩) ∧ Below w.heap.size w w' := by
 have HG := Lib.hid hG
 have HRG := Lib.hid hg
 have hlV := hG.len
 have hlE := hG.most
 obtain ⟨aV, cV, rfl⟩ := hg.1.sl
 obtain ⟨aE, cE, rfl⟩ := hg.2.sl
 obtain ⟨LV, hLV⟩ : ∃ n, n = G.V.length := ⟨_, rfl⟩
 obtain ⟨LE, hLE⟩ : ∃ n, n = G.E.length := ⟨_, rfl⟩
 rw [← hLV] at hlV
 rw [← hLE] at hlE
 rw [← hLV, ← hLE] at HRG
 rw [← hLV, ← hLE]
 have HLV := Lib.hid hLV
 have HLE := Lib.hid hLE
 clear hG hg hLV hLE
 go_enter Tryz.func17, Tryz.ntmps17
 go_wp2_with fail
 generalize hW0 : World.alloc w _ = W0
 obtain ⟨q0, hb0⟩ := alloc_row hW0
 have hs0 := row?_lt q0
 have HB0 := Lib.hid hb0
 have HF := Lib.hid fun W (hW : Below W0.heap.size W0 W) => show W.cell? ⟨w.heap.size, 0, none⟩ = some (.slice aV LV cV) ∧ W.cell? ⟨w.heap.size, 1, none⟩ = some (.slice aE LE cE) from
   have r := (row?_below hW hs0).trans q0
   ⟨(cell?_row (i := 0) r).trans rfl, (cell?_row (i := 1) r).trans rfl⟩
 clear hW0 q0 hb0
 go_loopw [3, 4] (fun sv i wr => ∃ k : Nat, k ≤ LV ∧ i = .int .i64 (k : Int) ∧ sv = .string ⟨((G.V.take k).flatMap vLine).toArray⟩ ∧ Below W0.heap.size W0 wr) (fun _ i _ => LV - (intOf i).toNat)
 case atStart => exact ⟨0, by omega, rfl, by simp, Below.refl _ _⟩
 case round =>
   obtain ⟨k, hk, rfl, rfl, hb⟩ := hrel
   have HBW := Lib.hid hb
   have HB := Lib.hid (HB0.out.trans (hb.mono (Nat.le_of_lt hs0)))
   obtain ⟨f0, f1⟩ := HF.out wr hb
   have htl := Gr.textV_len HG.out k
   clear hb
   by_cases hlt : k < LV
   · obtain ⟨b, off, c', x, e1, hbb, hx, hcell⟩ := HRG.out.1.at (i := k) (by rw [← HLV.out]; exact hlt)
     simp only [Value.slice.injEq] at e1
     obtain ⟨rfl, -, rfl⟩ := e1
     have hm := List.mem_of_getElem? hx
     have h1 := HG.out.ids x hm
     obtain ⟨h2, h3, h4⟩ := HG.out.thV x hm
     have HE := Lib.hid (flatMap_take_snoc (f := vLine) hx)
     obtain ⟨xi, xl, xw⟩ := x
     have jl : rowLoad Tryz.prog 127 ⟨b, off + k * 3, none⟩ wr = .ok (.agg #[.int .i64 xi, .int .u8 (xl : Int), .int .i64 xw]) wr := load_cells Tryz.isAgg127 Tryz.sizeOf127 wr b _ _ rfl fun j u hu => hcell wr HB.out j u hu
     obtain ⟨acc, hacc⟩ : ∃ acc, acc = (G.V.take k).flatMap vLine := ⟨_, rfl⟩
     rw [← hacc] at HE htl ⊢
     have hal : acc.length ≤ 8388608 := by omega
     have HI := Lib.hid (show ∀ n ∈ [xi, (xl : Int), xw], -9223372036854775807 ≤ n ∧ n ≤ 9223372036854775807 from fun n hn => by
       simp only [List.mem_cons, List.not_mem_nil, or_false] at hn
       simp only at h1 h2 h3 h4
       rcases hn with rfl | rfl | rfl <;> omega)
     have hxl : xl < 256 := h2
     have hLb := lineB_len (s := [118, 101, 114, 116, 101, 120]) (ns := [xi, (xl : Int), xw]) fun n hn => by have := HI.out n hn; exact ⟨by omega, by omega⟩
     simp only [List.length_cons, List.length_nil] at hLb
     clear hx hm hcell hbb hacc h1 h2 h3 h4
     go_wp2_with fail
     obtain ⟨Wa, hWa⟩ : ∃ Wa, Wa = wr.alloc (.cells #[.int .i64 xi, .int .u8 (xl : Int), .int .i64 xw] 127) := ⟨_, rfl⟩
     rw [← hWa]
     have hsa : wr.heap.size + 1 = Wa.heap.size := by rw [hWa]; simp
     have hba : Below wr.heap.size wr Wa := by rw [hWa]; exact (Below.refl _ _).alloc (Nat.le_refl _) _
     have hrd := rdl_lit3 Wa 3 xi (xl : Int) xw 3
     rw [hsa]
     generalize hWb : Wa.alloc _ = Wb at hrd ⊢
     have hbb : Below Wa.heap.size Wa Wb := by rw [← hWb]; exact (Below.refl _ _).alloc (Nat.le_refl _) _
     have HBb := Lib.hid (HBW.out.trans ((hba.trans (hbb.mono hba.size)).mono HBW.out.size))
     clear hWa hWb hba hbb hsa jl f0 f1
     refine (rlineT_any [118, 101, 114, 116, 101, 120] (by decide) [xi, (xl : Int), xw] HI.out (by simp) _ Wb hrd).mono ?_
     rintro r w5 ⟨rfl, hb5⟩
     have HB5 := Lib.hid (HBb.out.trans (hb5.mono HBb.out.size))
     obtain ⟨ln, hln⟩ : ∃ ln, ln = lineB [118, 101, 114, 116, 101, 120] [xi, (xl : Int), xw] := ⟨_, rfl⟩
     have HLn := Lib.hid (show vLine (xi, (xl, xw)) = ln ++ [10] from by rw [hln]; rfl)
     rw [← hln] at hLb ⊢
     clear hb5 hrd hln
     have hl1 : ln.length ≤ 8388608 := by omega
     go_wp2_with (first | (refine wpList_strAdd rfl _ _ _ _ rfl acc ln rfl rfl (by omega) ?_) | (refine wpList_strAdd rfl _ _ _ _ rfl (acc ++ ln) [10] rfl rfl (by simp; omega) ?_) | fail)
     go_roundw
     case rel => exact ⟨k + 1, by omega, by go_num, by rw [HE.out, HLn.out], HB5.out⟩
     case measure => simp [intOf]; omega
   · have hkn : k = LV := by omega
     subst hkn
     have hte : (G.V.take k).flatMap vLine = G.V.flatMap vLine := by rw [List.take_of_length_le (by rw [← HLV.out]; exact Nat.le_refl _)]
     rw [hte] at htl ⊢
     have HT0 := Lib.hid (show G.text = G.V.flatMap vLine ++ (G.E.take G.E.length).flatMap eLine from by rw [List.take_length]; rfl)
     obtain ⟨TV, hTV⟩ : ∃ TV, TV = G.V.flatMap vLine := ⟨_, rfl⟩
     rw [← hTV] at HT0 htl ⊢
     clear hte hTV
     go_wp2_with fail
     clear f0 f1
     go_loopw [3, 6] (fun sv i ws => ∃ k : Nat, k ≤ LE ∧ i = .int .i64 (k : Int) ∧ sv = .string ⟨(TV ++ (G.E.take k).flatMap eLine).toArray⟩ ∧ Below W0.heap.size W0 ws) (fun _ i _ => LE - (intOf i).toNat)
     case atStart => exact ⟨0, by omega, rfl, by simp, HBW.out⟩
     case round =>
       clear HBW HB
       rename World => wr
       obtain ⟨k, hk, rfl, rfl, hb⟩ := hrel
       have HBW := Lib.hid hb
       have HB := Lib.hid (HB0.out.trans (hb.mono (Nat.le_of_lt hs0)))
       obtain ⟨f0, f1⟩ := HF.out wr hb
       have htl2 := Gr.textE_len HG.out k
       clear hb
       by_cases hlt : k < LE
       · obtain ⟨b, off, c', x, e1, hbb, hx, hcell⟩ := HRG.out.2.at (i := k) (by rw [← HLE.out]; exact hlt)
         simp only [Value.slice.injEq] at e1
         obtain ⟨rfl, -, rfl⟩ := e1
         have hm := List.mem_of_getElem? hx
         have h1 := HG.out.endsI x hm
         obtain ⟨h2, h3, h4⟩ := HG.out.thE x hm
         have HE := Lib.hid (flatMap_take_snoc (f := eLine) hx)
         obtain ⟨⟨xu, xv⟩, xl, xw⟩ := x
         have jl : rowLoad Tryz.prog 128 ⟨b, off + k * 4, none⟩ wr = .ok (.agg #[.int .i64 xu, .int .i64 xv, .int .u8 (xl : Int), .int .i64 xw]) wr := load_cells Tryz.isAgg128 Tryz.sizeOf128 wr b _ _ rfl fun j u hu => hcell wr HB.out j u hu
         obtain ⟨acc, hacc⟩ : ∃ acc, acc = TV ++ (G.E.take k).flatMap eLine := ⟨_, rfl⟩
         have hal : acc.length ≤ 8388608 := by rw [hacc, List.length_append]; omega
         have HAc := Lib.hid (show TV ++ (G.E.take (k + 1)).flatMap eLine = acc ++ eLine ((xu, xv), (xl, xw)) from by rw [HE.out, hacc, List.append_assoc])
         rw [← hacc]
         have HI := Lib.hid (show ∀ n ∈ [xu, xv, (xl : Int), xw], -9223372036854775807 ≤ n ∧ n ≤ 9223372036854775807 from fun n hn => by
           simp only [List.mem_cons, List.not_mem_nil, or_false] at hn
           simp only at h1 h2 h3 h4
           rcases hn with rfl | rfl | rfl | rfl <;> omega)
         have hxl : xl < 256 := h2
         have hLb := lineB_len (s := [101, 100, 103, 101]) (ns := [xu, xv, (xl : Int), xw]) fun n hn => by have := HI.out n hn; exact ⟨by omega, by omega⟩
         simp only [List.length_cons, List.length_nil] at hLb
         clear hx hm hcell hbb hacc h1 h2 h3 h4 HE
         go_wp2_with fail
         obtain ⟨Wa, hWa⟩ : ∃ Wa, Wa = wr.alloc (.cells #[.int .i64 xu, .int .i64 xv, .int .u8 (xl : Int), .int .i64 xw] 128) := ⟨_, rfl⟩
         rw [← hWa]
         have hsa : wr.heap.size + 1 = Wa.heap.size := by rw [hWa]; simp
         have hba : Below wr.heap.size wr Wa := by rw [hWa]; exact (Below.refl _ _).alloc (Nat.le_refl _) _
         have hrd := rdl_lit4 Wa 3 xu xv (xl : Int) xw 4
         rw [hsa]
         generalize hWb : Wa.alloc _ = Wb at hrd ⊢
         have hbb : Below Wa.heap.size Wa Wb := by rw [← hWb]; exact (Below.refl _ _).alloc (Nat.le_refl _) _
         have HBb := Lib.hid (HBW.out.trans ((hba.trans (hbb.mono hba.size)).mono HBW.out.size))
         clear hWa hWb hba hbb hsa jl f0 f1
         refine (rlineT_any [101, 100, 103, 101] (by decide) [xu, xv, (xl : Int), xw] HI.out (by simp) _ Wb hrd).mono ?_
         rintro r w5 ⟨rfl, hb5⟩
         have HB5 := Lib.hid (HBb.out.trans (hb5.mono HBb.out.size))
         obtain ⟨ln, hln⟩ : ∃ ln, ln = lineB [101, 100, 103, 101] [xu, xv, (xl : Int), xw] := ⟨_, rfl⟩
         have HLn := Lib.hid (show eLine ((xu, xv), (xl, xw)) = ln ++ [10] from by rw [hln]; rfl)
         rw [← hln] at hLb ⊢
         clear hb5 hrd hln
         have hl1 : ln.length ≤ 8388608 := by omega
         go_wp2_with (first | (refine wpList_strAdd rfl _ _ _ _ rfl acc ln rfl rfl (by omega) ?_) | (refine wpList_strAdd rfl _ _ _ _ rfl (acc ++ ln) [10] rfl rfl (by simp; omega) ?_) | fail)
         go_roundw
         case rel => exact ⟨k + 1, by omega, by go_num, by rw [HAc.out, HLn.out], HB5.out⟩
         case measure => simp [intOf]; omega
       · have hkn : k = LE := by omega
         subst hkn
         have HT1 := Lib.hid (show TV ++ (G.E.take k).flatMap eLine = G.text from by rw [HT0.out, HLE.out])
         rw [HT1.out]
         go_wp2_with fail
         go_ret
         exact ⟨rfl, HB.out⟩
theorem format_nil (w : World) : Calls Tryz.prog 16 #[.pointer none] w fun e w' => e = .returned (.string ⟨#[]⟩) ∧ Below w.heap.size w w' := by
 go_enter Tryz.func16, Tryz.ntmps16
 go_wp2_with fail
 obtain ⟨W0, hW0⟩ : ∃ W0, W0 = w.alloc (.cells #[.pointer none, .slice none 0 0] 113) := ⟨_, rfl⟩
 have hI0 : IsB w.heap.size w.heap.size [] W0 := by rw [hW0]; exact isB_fresh w
 have hB0 : Below w.heap.size w W0 := by rw [hW0]; exact (Below.refl _ w).alloc (Nat.le_refl _) _
 rw [← hW0]
 clear hW0
 refine (gverticesP_any (.pointer none) Gr.none gr_none_ok W0 (.inl ⟨rfl, rfl⟩)).mono ?_
 rintro r w1 ⟨v, rfl, hO, hb1⟩
 obtain ⟨q, c, rfl⟩ := hO.sl
 have HI1 := Lib.hid (hI0.below hb1 (Nat.le_refl _))
 have HB1 := Lib.hid (hB0.trans (hb1.mono hB0.size))
 clear hO hb1 hI0 hB0
 rw [show Gr.none.V.length = 0 from rfl]
 go_wp2_with fail
 go_loopw [11] (fun i wr => i = .int .i64 0 ∧ wr = w1) (fun _ _ => 0)
 case atStart => exact ⟨rfl, rfl⟩
 case round =>
   obtain ⟨rfl, hwr⟩ := hrel
   rw [hwr]
   clear hwr
   go_wp2_with fail
   refine (gedgesP_any (.pointer none) Gr.none gr_none_ok w1 (.inl ⟨rfl, rfl⟩)).mono ?_
   rintro r w2 ⟨v, rfl, hO, hb2⟩
   obtain ⟨q2, c2, rfl⟩ := hO.sl
   have HI2 := Lib.hid (HI1.out.below hb2 (Nat.le_refl _))
   have HB2 := Lib.hid (HB1.out.trans (hb2.mono HB1.out.size))
   clear hO hb2
   rw [show Gr.none.E.length = 0 from rfl]
   go_wp2_with fail
   go_loopw [30] (fun i wr => i = .int .i64 0 ∧ wr = w2) (fun _ _ => 0)
   case atStart => exact ⟨rfl, rfl⟩
   case round =>
     obtain ⟨rfl, hwr⟩ := hrel
     rw [hwr]
     clear hwr
     go_wp2_with fail
     refine (built_any w.heap.size w.heap.size [] w2 HI2.out HB2.out.size).mono ?_
     rintro r w3 ⟨rfl, hb3⟩
     have HB3 := Lib.hid (HB2.out.trans hb3)
     clear hb3
     go_wp2_with fail
     go_ret
     exact ⟨rfl, HB3.out⟩
end Go.Proofs.YtlmccbepllgbfaaGreatDoor
