/- Walks: the reference's text of a graph; the text of no graph. -/
import Derived.Test.YtglnhnjmelilmaaGreatDoorPVc
import Derived.Test.YtglnhnjmelilmaaGreatDoorPYC
import Derived.Test.YtglnhnjmelilmaaGreatDoorPWf
import Derived.Test.YtglnhnjmelilmaaGreatDoorPHE
import Derived.Test.YtglnhnjmelilmaaGreatDoorPVb
set_option linter.all false
namespace Go.Proofs.YtglnhnjmelilmaaGreatDoor
open Go Go.RowKit Go.Pal Go.Shelf
attribute [local go_sem] Oper.semAt_some
set_option maxRecDepth 10000 in
set_option maxHeartbeats 1000000 in
theorem rlineT_any (s : List UInt8) (hs : s.length ≤ 100) (ns : List Int) (hn : ∀ n ∈ ns, -9223372036854775807 ≤ n ∧ n ≤ 9223372036854775807) (hl : ns.length ≤ 100) (v : Value) (w : World) (hv : RdL w v ns) :
   Calls Tryz.prog 51 #[.string ⟨s.toArray⟩, v] w fun e w' => e = .returned (.string ⟨(lineB s ns).toArray⟩) ∧ Below w.heap.size w w' := by
 have HV := Lib.hid hv
 have HN := Lib.hid hn
 have HS := Lib.hid hs
 obtain ⟨a, c, rfl, -⟩ := hv
 clear hn hs
 go_enter Tryz.func51, Tryz.ntmps51
 go_wp2_with fail
 go_loopw [5, 6] (fun sv i wr => ∃ k : Nat, k ≤ ns.length ∧ i = .int .i64 (k : Int) ∧ sv = .string ⟨(lineB s (ns.take k)).toArray⟩ ∧ Below w.heap.size w wr) (fun _ i _ => ns.length - (intOf i).toNat)
 case atStart => exact ⟨0, by omega, rfl, by simp [lineB], Below.refl _ _⟩
 case round =>
   obtain ⟨k, hk, rfl, rfl, hb⟩ := hrel
   have HB := Lib.hid hb
   clear hb
   by_cases hlt : k < ns.length
   · obtain ⟨b, off, c', z, h1, hz, hc⟩ := HV.out.at hlt
     simp only [Value.slice.injEq] at h1
     obtain ⟨rfl, -, rfl⟩ := h1
     have c0 := hc wr HB.out
     have hzi := HN.out z (List.mem_of_getElem? hz)
     have hlz := Lib.itoa_length_le z (by omega) (by omega)
     have hls := lineB_len (s := s) (ns := ns.take k) fun n hn => by have := HN.out n (List.mem_of_mem_take hn); exact ⟨by omega, by omega⟩
     rw [List.length_take] at hls
     have hss := HS.out
     have HE := Lib.hid (show lineB s (ns.take (k + 1)) = lineB s (ns.take k) ++ spNum z by rw [List.take_add_one, hz]; exact lineB_snoc _ _ _)
     have HZ := Lib.hid hzi
     obtain ⟨acc, hacc⟩ : ∃ acc, acc = lineB s (ns.take k) := ⟨_, rfl⟩
     rw [← hacc] at HE hls ⊢
     have hal : acc.length ≤ 10000 := by omega
     have hal2 : (acc ++ [32]).length ≤ 10001 := by simp; omega
     have hzl2 : (Lib.itoa z).length ≤ 8388608 := by omega
     clear hz hc hzi hacc hls
     go_wp2_with (first | (refine wpList_strAdd rfl _ _ _ _ rfl acc [32] rfl rfl (by simp; omega) ?_) | fail)
     refine (rnum_any z HZ.out.1 HZ.out.2 wr).mono ?_
     rintro r w2 ⟨rfl, hb2⟩
     have HB2 := Lib.hid (HB.out.trans (hb2.mono HB.out.size))
     clear hb2 c0
     go_wp2_with (first | (refine wpList_strAdd rfl _ _ _ _ rfl (acc ++ [32]) (Lib.itoa z) rfl rfl (by simp; omega) ?_) | fail)
     go_roundw
     case rel => exact ⟨k + 1, by omega, by go_num, by rw [HE.out]; unfold spNum; simp, HB2.out⟩
     case measure => simp [intOf]; omega
   · have hkn : k = ns.length := by omega
     subst hkn
     go_wp2_with fail
     go_ret
     exact ⟨by first | rfl | (rw [List.take_length]; rfl), HB.out⟩
end Go.Proofs.YtglnhnjmelilmaaGreatDoor
