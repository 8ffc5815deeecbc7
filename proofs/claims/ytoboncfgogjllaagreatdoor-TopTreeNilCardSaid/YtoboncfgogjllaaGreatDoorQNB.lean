/-
  The walk of the statement TopTreeNil.
-/
import Derived.Test.YtoboncfgogjllaaGreatDoorQNA
namespace Go.Proofs.YtoboncfgogjllaaGreatDoor
open Go Go.RowKit Go.Pal Go.Shelf

set_option maxRecDepth 20000 in
set_option maxHeartbeats 2000000 in
theorem nil_any (hKnown : ∀ w, Tabs w → Calls Tryz.prog 13 #[] w fun e w' => e = .returned (.bool true) ∧ Below w.heap.size w w') (at0 : Int) (w : World) (hT : Tabs w) :
    Calls Tryz.prog 3 #[.int .i64 at0] w fun e w' => e = .returned (.bool true) ∧ Below w.heap.size w w' := by
  have HK := Lib.hid hKnown
  have HT := Lib.hid hT
  clear hT hKnown
  go_enter Tryz.func3, Tryz.ntmps3
  go_wp2_with fail
  refine (tnew_nil w).mono ?_
  rintro e w1 ⟨rfl, rfl⟩
  go_wp2_with fail
  refine (gnew_any _).mono ?_
  rintro e w2 ⟨g, rfl, hb2⟩
  have HB2 := Lib.hid hb2
  clear hb2
  go_wp2_with fail
  refine (tports_nil at0 _ w2).mono ?_
  rintro e w3 ⟨rfl, rfl⟩
  go_wp2_with fail
  refine (tleafTerm_nil at0 _ _).mono ?_
  rintro e w4 ⟨rfl, hb4⟩
  have HB4 := Lib.hid (HB2.out.trans (hb4.mono HB2.out.size))
  have HB4a := Lib.hid (HB4.out.alloc HB4.out.size (Obj.cells tm0 34))
  clear hb4
  go_wp2_with fail
  refine (tterm_nil _ _).mono ?_
  rintro e w5 ⟨rfl, hb5⟩
  have HB5 := Lib.hid (HB4a.out.trans (hb5.mono HB4a.out.size))
  have HB5a := Lib.hid (HB5.out.alloc HB5.out.size (Obj.cells tm0 34))
  clear hb5
  go_wp2_with fail
  refine (tnode_nil at0 _).mono ?_
  rintro e w6 ⟨rfl, hb6⟩
  have hone := TN.allOne tn0 ⟨_, _, _, rfl⟩
  have HB6 := Lib.hid (HB5a.out.trans (hb6.mono HB5a.out.size))
  have HB6a := Lib.hid (HB6.out.alloc HB6.out.size (Obj.cells tn0.cells 42))
  clear hb6
  go_wp2_with fail
  refine (tleaf_nil at0 _).mono ?_
  rintro e w7 ⟨rfl, rfl⟩
  go_wp2_with fail
  refine (tmerge_nil at0 _).mono ?_
  rintro e w8 ⟨rfl, hb8⟩
  have HB8 := Lib.hid (HB6a.out.trans (hb8.mono HB6a.out.size))
  have HB8a := Lib.hid (HB8.out.alloc HB8.out.size (Obj.cells #[.slice none 0 0, .slice none 0 0, .slice none 0 0, .slice none 0 0] 48))
  clear hb8
  go_wp2_with fail
  refine (HK.out _ (HT.out.on HB8a.out)).mono ?_
  rintro e w9 ⟨rfl, hb9⟩
  have HB9 := Lib.hid (HB8a.out.trans (hb9.mono HB8a.out.size))
  clear hb9
  go_wp2_with fail
  refine (tframe_nil w9).mono ?_
  rintro e w10 ⟨rfl, rfl⟩
  go_wp2_with fail
  refine (tlen_nil _).mono ?_
  rintro e w11 ⟨rfl, rfl⟩
  go_wp2_with fail
  refine (troot_nil _).mono ?_
  rintro e w12 ⟨rfl, rfl⟩
  go_wp2_with fail
  refine (tparent_nil at0 _).mono ?_
  rintro e w13 ⟨rfl, rfl⟩
  go_wp2_with fail
  refine (tpath_nil at0 _).mono ?_
  rintro e w14 ⟨rfl, rfl⟩
  go_wp2_with fail
  refine (tdepth_nil _).mono ?_
  rintro e w15 ⟨rfl, hb15⟩
  have HB15 := Lib.hid (HB9.out.trans (hb15.mono HB9.out.size))
  clear hb15
  go_wp2_with fail
  go_ret
  exact ⟨rfl, HB15.out⟩
end Go.Proofs.YtoboncfgogjllaaGreatDoor
