/- Walks: the reference's forms of edits: has, word, wrong. Walks: the reference's text of .. -/
import Derived.Test.YtglnhnjmelilmaaGreatDoorPIQ
import Derived.Test.YtglnhnjmelilmaaGreatDoorPIe
import Derived.Test.YtglnhnjmelilmaaGreatDoorPIL
set_option maxHeartbeats 4000000
set_option maxRecDepth 10000
set_option linter.all false
namespace Go.Pal
open Go
def wrongF (fv fl fw : Bool) (u v la wt : Int) : Nat :=
 if (idB u && (!fv || idB v) && (!fl || labB la) && (!fw || wtB wt)) = true then (if fv = true ∧ u = v then 15 else 0) else 2
theorem wrongF_eq {fv fl fw : Bool} {u v la wt : Int} (h : stray fv fl fw v la wt = false) : wrongF fv fl fw u v la wt = if (idB u && idB v && labB la && wtB wt) = true then (if fv = true ∧ u = v then 15 else 0) else 2 := by
 unfold stray at h
 unfold wrongF
 have h1 : (!fv || idB v) = idB v := by
   cases fv with
   | true => rfl
   | false => simp at h; rw [h.1.1]; rfl
 have h2 : (!fl || labB la) = labB la := by
   cases fl with
   | true => rfl
   | false => simp at h; rw [h.1.2]; rfl
 have h3 : (!fw || wtB wt) = wtB wt := by
   cases fw with
   | true => rfl
   | false => simp at h; rw [h.2]; rfl
 rw [h1, h2, h3]
end Go.Pal
namespace Go.Proofs.YtglnhnjmelilmaaGreatDoor
open Go Go.RowKit Go.Pal Go.Shelf
attribute [local go_sem] Oper.semAt_some
theorem rhasO_any (k : Nat) (hk : k < 8) (w : World) : Calls Tryz.prog 49 #[.int .i64 (k : Int)] w fun e w' => e = .returned (.tuple #[.bool (hasV k), .bool (hasL k), .bool (hasW k)]) ∧ w' = w := by
 rcases (show k = 0 ∨ k = 1 ∨ k = 2 ∨ k = 3 ∨ k = 4 ∨ k = 5 ∨ k = 6 ∨ k = 7 by omega) with rfl | rfl | rfl | rfl | rfl | rfl | rfl | rfl
 · go_enter Tryz.func49, Tryz.ntmps49
   go_wp2_with fail
   go_ret3
   exact ⟨rfl, rfl⟩
 · go_enter Tryz.func49, Tryz.ntmps49
   go_wp2_with fail
   go_ret3
   exact ⟨rfl, rfl⟩
 · go_enter Tryz.func49, Tryz.ntmps49
   go_wp2_with fail
   go_ret3
   exact ⟨rfl, rfl⟩
 · go_enter Tryz.func49, Tryz.ntmps49
   go_wp2_with fail
   go_ret3
   exact ⟨rfl, rfl⟩
 · go_enter Tryz.func49, Tryz.ntmps49
   go_wp2_with fail
   go_ret3
   exact ⟨rfl, rfl⟩
 · go_enter Tryz.func49, Tryz.ntmps49
   go_wp2_with fail
   go_ret3
   exact ⟨rfl, rfl⟩
 · go_enter Tryz.func49, Tryz.ntmps49
   go_wp2_with fail
   go_ret3
   exact ⟨rfl, rfl⟩
 · go_enter Tryz.func49, Tryz.ntmps49
   go_wp2_with fail
   go_ret3
   exact ⟨rfl, rfl⟩
@[go_sem ↓ high] theorem bs_s8 (w : World) : (Instr.buildSlice 146 8 #[(0, .string ⟨#[97, 100, 100]⟩), (1, .string ⟨#[100, 114, 111, 112]⟩), (2, .string ⟨#[106, 111, 105, 110]⟩), (3, .string ⟨#[112, 97, 114, 116]⟩), (4, .string ⟨#[109, 97, 114, 107]⟩), (5, .string ⟨#[119, 101, 105, 103, 104]⟩), (6, .string ⟨#[109, 97, 114, 107, 101, 100, 103, 101]⟩), (7, .string ⟨#[119, 101, 105, 103, 104, 101, 100, 103, 101]⟩)]).run Tryz.prog w = .ok (.slice (some ⟨w.heap.size, 0, none⟩) 8 8) (w.alloc (.cells #[.string ⟨#[97, 100, 100]⟩, .string ⟨#[100, 114, 111, 112]⟩, .string ⟨#[106, 111, 105, 110]⟩, .string ⟨#[112, 97, 114, 116]⟩, .string ⟨#[109, 97, 114, 107]⟩, .string ⟨#[119, 101, 105, 103, 104]⟩, .string ⟨#[109, 97, 114, 107, 101, 100, 103, 101]⟩, .string ⟨#[119, 101, 105, 103, 104, 101, 100, 103, 101]⟩] 9)) := by kernel_rfl
theorem rword_any (k : Nat) (hk : k < 8) (w : World) : Calls Tryz.prog 52 #[.int .i64 (k : Int)] w fun e w' => e = .returned (.string ⟨(opW k).toArray⟩) ∧ Below w.heap.size w w' := by
 rcases (show k = 0 ∨ k = 1 ∨ k = 2 ∨ k = 3 ∨ k = 4 ∨ k = 5 ∨ k = 6 ∨ k = 7 by omega) with rfl | rfl | rfl | rfl | rfl | rfl | rfl | rfl
 · go_enter Tryz.func52, Tryz.ntmps52
   go_wp2_with fail
   go_ret
   exact ⟨rfl, (Below.refl _ w).alloc (Nat.le_refl _) _⟩
 · go_enter Tryz.func52, Tryz.ntmps52
   go_wp2_with fail
   go_ret
   exact ⟨rfl, (Below.refl _ w).alloc (Nat.le_refl _) _⟩
 · go_enter Tryz.func52, Tryz.ntmps52
   go_wp2_with fail
   go_ret
   exact ⟨rfl, (Below.refl _ w).alloc (Nat.le_refl _) _⟩
 · go_enter Tryz.func52, Tryz.ntmps52
   go_wp2_with fail
   go_ret
   exact ⟨rfl, (Below.refl _ w).alloc (Nat.le_refl _) _⟩
 · go_enter Tryz.func52, Tryz.ntmps52
   go_wp2_with fail
   go_ret
   exact ⟨rfl, (Below.refl _ w).alloc (Nat.le_refl _) _⟩
 · go_enter Tryz.func52, Tryz.ntmps52
   go_wp2_with fail
   go_ret
   exact ⟨rfl, (Below.refl _ w).alloc (Nat.le_refl _) _⟩
 · go_enter Tryz.func52, Tryz.ntmps52
   go_wp2_with fail
   go_ret
   exact ⟨rfl, (Below.refl _ w).alloc (Nat.le_refl _) _⟩
 · go_enter Tryz.func52, Tryz.ntmps52
   go_wp2_with fail
   go_ret
   exact ⟨rfl, (Below.refl _ w).alloc (Nat.le_refl _) _⟩
theorem rwrongO_any (k : Nat) (hk : k < 8) (u v la wt : Int) (w : World) : Calls Tryz.prog 50 #[.int .i64 (k : Int), .int .i64 u, .int .i64 v, .int .i64 la, .int .i64 wt] w fun e w' => e = .returned (.int .i64 (wrongF (hasV k) (hasL k) (hasW k) u v la wt : Nat)) ∧ w' = w := by
 have HH := Lib.hid (rhasO_any k hk w)
 obtain ⟨X, hX⟩ : ∃ X, X = wrongF (hasV k) (hasL k) (hasW k) u v la wt := ⟨_, rfl⟩
 rw [← hX]
 obtain ⟨fv, hfv⟩ : ∃ b, b = hasV k := ⟨_, rfl⟩
 obtain ⟨fl, hfl⟩ : ∃ b, b = hasL k := ⟨_, rfl⟩
 obtain ⟨fw, hfw⟩ : ∃ b, b = hasW k := ⟨_, rfl⟩
 rw [← hfv, ← hfl, ← hfw] at hX HH
 have HX := Lib.hid hX
 clear hX hfv hfl hfw
 go_enter Tryz.func50, Tryz.ntmps50
 go_wp2_with fail
 refine HH.out.mono ?_
 rintro e w1 ⟨rfl, hw1⟩
 rw [hw1]
 clear hw1 HH
 cases hu : idB u with
 | false =>
   have HE := Lib.hid (show X = 2 from by rw [HX.out]; simp [wrongF, *])
   go_wp2_with (first | (with_reducible refine (sid_any u _).mono ?_; rintro e w0 ⟨rfl, hw0⟩; rw [hu, hw0]; clear hw0) | (with_reducible refine (sid_any v _).mono ?_; rintro e w0 ⟨rfl, hw0⟩; rw [hv, hw0]; clear hw0) | (with_reducible refine (slab_any la _).mono ?_; rintro e w0 ⟨rfl, hw0⟩; rw [hl, hw0]; clear hw0) | (with_reducible refine (swt_any wt _).mono ?_; rintro e w0 ⟨rfl, hw0⟩; rw [hw, hw0]; clear hw0))
   go_ret
   exact ⟨by rw [HE.out]; rfl, rfl⟩
 | true =>
 cases fv with
 | true =>
   cases hv : idB v with
   | false =>
     have HE := Lib.hid (show X = 2 from by rw [HX.out]; simp [wrongF, *])
     go_wp2_with (first | (with_reducible refine (sid_any u _).mono ?_; rintro e w0 ⟨rfl, hw0⟩; rw [hu, hw0]; clear hw0) | (with_reducible refine (sid_any v _).mono ?_; rintro e w0 ⟨rfl, hw0⟩; rw [hv, hw0]; clear hw0) | (with_reducible refine (slab_any la _).mono ?_; rintro e w0 ⟨rfl, hw0⟩; rw [hl, hw0]; clear hw0) | (with_reducible refine (swt_any wt _).mono ?_; rintro e w0 ⟨rfl, hw0⟩; rw [hw, hw0]; clear hw0))
     go_ret
     exact ⟨by rw [HE.out]; rfl, rfl⟩
   | true =>
     cases fl with
     | true =>
       cases hl : labB la with
       | false =>
         have HE := Lib.hid (show X = 2 from by rw [HX.out]; simp [wrongF, *])
         go_wp2_with (first | (with_reducible refine (sid_any u _).mono ?_; rintro e w0 ⟨rfl, hw0⟩; rw [hu, hw0]; clear hw0) | (with_reducible refine (sid_any v _).mono ?_; rintro e w0 ⟨rfl, hw0⟩; rw [hv, hw0]; clear hw0) | (with_reducible refine (slab_any la _).mono ?_; rintro e w0 ⟨rfl, hw0⟩; rw [hl, hw0]; clear hw0) | (with_reducible refine (swt_any wt _).mono ?_; rintro e w0 ⟨rfl, hw0⟩; rw [hw, hw0]; clear hw0))
         go_ret
         exact ⟨by rw [HE.out]; rfl, rfl⟩
       | true =>
         cases fw with
         | true =>
           cases hw : wtB wt with
           | false =>
             have HE := Lib.hid (show X = 2 from by rw [HX.out]; simp [wrongF, *])
             go_wp2_with (first | (with_reducible refine (sid_any u _).mono ?_; rintro e w0 ⟨rfl, hw0⟩; rw [hu, hw0]; clear hw0) | (with_reducible refine (sid_any v _).mono ?_; rintro e w0 ⟨rfl, hw0⟩; rw [hv, hw0]; clear hw0) | (with_reducible refine (slab_any la _).mono ?_; rintro e w0 ⟨rfl, hw0⟩; rw [hl, hw0]; clear hw0) | (with_reducible refine (swt_any wt _).mono ?_; rintro e w0 ⟨rfl, hw0⟩; rw [hw, hw0]; clear hw0))
             go_ret
             exact ⟨by rw [HE.out]; rfl, rfl⟩
           | true =>
             by_cases huv : u = v
             · have HE := Lib.hid (show X = 15 from by rw [HX.out]; simp [wrongF, *])
               have e1 : (u == v) = true := by rw [huv]; exact beq_self_eq_true _
               have HUV := Lib.hid huv
               clear huv
               go_wp2_with (first | (with_reducible refine (sid_any u _).mono ?_; rintro e w0 ⟨rfl, hw0⟩; rw [hu, hw0]; clear hw0) | (with_reducible refine (sid_any v _).mono ?_; rintro e w0 ⟨rfl, hw0⟩; rw [hv, hw0]; clear hw0) | (with_reducible refine (slab_any la _).mono ?_; rintro e w0 ⟨rfl, hw0⟩; rw [hl, hw0]; clear hw0) | (with_reducible refine (swt_any wt _).mono ?_; rintro e w0 ⟨rfl, hw0⟩; rw [hw, hw0]; clear hw0))
               go_ret
               exact ⟨by rw [HE.out]; rfl, rfl⟩
             · have HE := Lib.hid (show X = 0 from by rw [HX.out]; simp [wrongF, *])
               have e1 : (u == v) = false := beq_false_of_ne huv
               go_wp2_with (first | (with_reducible refine (sid_any u _).mono ?_; rintro e w0 ⟨rfl, hw0⟩; rw [hu, hw0]; clear hw0) | (with_reducible refine (sid_any v _).mono ?_; rintro e w0 ⟨rfl, hw0⟩; rw [hv, hw0]; clear hw0) | (with_reducible refine (slab_any la _).mono ?_; rintro e w0 ⟨rfl, hw0⟩; rw [hl, hw0]; clear hw0) | (with_reducible refine (swt_any wt _).mono ?_; rintro e w0 ⟨rfl, hw0⟩; rw [hw, hw0]; clear hw0))
               go_ret
               exact ⟨by rw [HE.out]; rfl, rfl⟩
         | false =>
           by_cases huv : u = v
           · have HE := Lib.hid (show X = 15 from by rw [HX.out]; simp [wrongF, *])
             have e1 : (u == v) = true := by rw [huv]; exact beq_self_eq_true _
             have HUV := Lib.hid huv
             clear huv
             go_wp2_with (first | (with_reducible refine (sid_any u _).mono ?_; rintro e w0 ⟨rfl, hw0⟩; rw [hu, hw0]; clear hw0) | (with_reducible refine (sid_any v _).mono ?_; rintro e w0 ⟨rfl, hw0⟩; rw [hv, hw0]; clear hw0) | (with_reducible refine (slab_any la _).mono ?_; rintro e w0 ⟨rfl, hw0⟩; rw [hl, hw0]; clear hw0) | (with_reducible refine (swt_any wt _).mono ?_; rintro e w0 ⟨rfl, hw0⟩; rw [hw, hw0]; clear hw0))
             go_ret
             exact ⟨by rw [HE.out]; rfl, rfl⟩
           · have HE := Lib.hid (show X = 0 from by rw [HX.out]; simp [wrongF, *])
             have e1 : (u == v) = false := beq_false_of_ne huv
             go_wp2_with (first | (with_reducible refine (sid_any u _).mono ?_; rintro e w0 ⟨rfl, hw0⟩; rw [hu, hw0]; clear hw0) | (with_reducible refine (sid_any v _).mono ?_; rintro e w0 ⟨rfl, hw0⟩; rw [hv, hw0]; clear hw0) | (with_reducible refine (slab_any la _).mono ?_; rintro e w0 ⟨rfl, hw0⟩; rw [hl, hw0]; clear hw0) | (with_reducible refine (swt_any wt _).mono ?_; rintro e w0 ⟨rfl, hw0⟩; rw [hw, hw0]; clear hw0))
             go_ret
             exact ⟨by rw [HE.out]; rfl, rfl⟩
     | false =>
       cases fw with
       | true =>
         cases hw : wtB wt with
         | false =>
           have HE := Lib.hid (show X = 2 from by rw [HX.out]; simp [wrongF, *])
           go_wp2_with (first | (with_reducible refine (sid_any u _).mono ?_; rintro e w0 ⟨rfl, hw0⟩; rw [hu, hw0]; clear hw0) | (with_reducible refine (sid_any v _).mono ?_; rintro e w0 ⟨rfl, hw0⟩; rw [hv, hw0]; clear hw0) | (with_reducible refine (slab_any la _).mono ?_; rintro e w0 ⟨rfl, hw0⟩; rw [hl, hw0]; clear hw0) | (with_reducible refine (swt_any wt _).mono ?_; rintro e w0 ⟨rfl, hw0⟩; rw [hw, hw0]; clear hw0))
           go_ret
           exact ⟨by rw [HE.out]; rfl, rfl⟩
         | true =>
           by_cases huv : u = v
           · have HE := Lib.hid (show X = 15 from by rw [HX.out]; simp [wrongF, *])
             have e1 : (u == v) = true := by rw [huv]; exact beq_self_eq_true _
             have HUV := Lib.hid huv
             clear huv
             go_wp2_with (first | (with_reducible refine (sid_any u _).mono ?_; rintro e w0 ⟨rfl, hw0⟩; rw [hu, hw0]; clear hw0) | (with_reducible refine (sid_any v _).mono ?_; rintro e w0 ⟨rfl, hw0⟩; rw [hv, hw0]; clear hw0) | (with_reducible refine (slab_any la _).mono ?_; rintro e w0 ⟨rfl, hw0⟩; rw [hl, hw0]; clear hw0) | (with_reducible refine (swt_any wt _).mono ?_; rintro e w0 ⟨rfl, hw0⟩; rw [hw, hw0]; clear hw0))
             go_ret
             exact ⟨by rw [HE.out]; rfl, rfl⟩
           · have HE := Lib.hid (show X = 0 from by rw [HX.out]; simp [wrongF, *])
             have e1 : (u == v) = false := beq_false_of_ne huv
             go_wp2_with (first | (with_reducible refine (sid_any u _).mono ?_; rintro e w0 ⟨rfl, hw0⟩; rw [hu, hw0]; clear hw0) | (with_reducible refine (sid_any v _).mono ?_; rintro e w0 ⟨rfl, hw0⟩; rw [hv, hw0]; clear hw0) | (with_reducible refine (slab_any la _).mono ?_; rintro e w0 ⟨rfl, hw0⟩; rw [hl, hw0]; clear hw0) | (with_reducible refine (swt_any wt _).mono ?_; rintro e w0 ⟨rfl, hw0⟩; rw [hw, hw0]; clear hw0))
             go_ret
             exact ⟨by rw [HE.out]; rfl, rfl⟩
       | false =>
         by_cases huv : u = v
         · have HE := Lib.hid (show X = 15 from by rw [HX.out]; simp [wrongF, *])
           have e1 : (u == v) = true := by rw [huv]; exact beq_self_eq_true _
           have HUV := Lib.hid huv
           clear huv
           go_wp2_with (first | (with_reducible refine (sid_any u _).mono ?_; rintro e w0 ⟨rfl, hw0⟩; rw [hu, hw0]; clear hw0) | (with_reducible refine (sid_any v _).mono ?_; rintro e w0 ⟨rfl, hw0⟩; rw [hv, hw0]; clear hw0) | (with_reducible refine (slab_any la _).mono ?_; rintro e w0 ⟨rfl, hw0⟩; rw [hl, hw0]; clear hw0) | (with_reducible refine (swt_any wt _).mono ?_; rintro e w0 ⟨rfl, hw0⟩; rw [hw, hw0]; clear hw0))
           go_ret
           exact ⟨by rw [HE.out]; rfl, rfl⟩
         · have HE := Lib.hid (show X = 0 from by rw [HX.out]; simp [wrongF, *])
           have e1 : (u == v) = false := beq_false_of_ne huv
           go_wp2_with (first | (with_reducible refine (sid_any u _).mono ?_; rintro e w0 ⟨rfl, hw0⟩; rw [hu, hw0]; clear hw0) | (with_reducible refine (sid_any v _).mono ?_; rintro e w0 ⟨rfl, hw0⟩; rw [hv, hw0]; clear hw0) | (with_reducible refine (slab_any la _).mono ?_; rintro e w0 ⟨rfl, hw0⟩; rw [hl, hw0]; clear hw0) | (with_reducible refine (swt_any wt _).mono ?_; rintro e w0 ⟨rfl, hw0⟩; rw [hw, hw0]; clear hw0))
           go_ret
           exact ⟨by rw [HE.out]; rfl, rfl⟩
 | false =>
   cases fl with
   | true =>
     cases hl : labB la with
     | false =>
       have HE := Lib.hid (show X = 2 from by rw [HX.out]; simp [wrongF, *])
       go_wp2_with (first | (with_reducible refine (sid_any u _).mono ?_; rintro e w0 ⟨rfl, hw0⟩; rw [hu, hw0]; clear hw0) | (with_reducible refine (sid_any v _).mono ?_; rintro e w0 ⟨rfl, hw0⟩; rw [hv, hw0]; clear hw0) | (with_reducible refine (slab_any la _).mono ?_; rintro e w0 ⟨rfl, hw0⟩; rw [hl, hw0]; clear hw0) | (with_reducible refine (swt_any wt _).mono ?_; rintro e w0 ⟨rfl, hw0⟩; rw [hw, hw0]; clear hw0))
       go_ret
       exact ⟨by rw [HE.out]; rfl, rfl⟩
     | true =>
       cases fw with
       | true =>
         cases hw : wtB wt with
         | false =>
           have HE := Lib.hid (show X = 2 from by rw [HX.out]; simp [wrongF, *])
           go_wp2_with (first | (with_reducible refine (sid_any u _).mono ?_; rintro e w0 ⟨rfl, hw0⟩; rw [hu, hw0]; clear hw0) | (with_reducible refine (sid_any v _).mono ?_; rintro e w0 ⟨rfl, hw0⟩; rw [hv, hw0]; clear hw0) | (with_reducible refine (slab_any la _).mono ?_; rintro e w0 ⟨rfl, hw0⟩; rw [hl, hw0]; clear hw0) | (with_reducible refine (swt_any wt _).mono ?_; rintro e w0 ⟨rfl, hw0⟩; rw [hw, hw0]; clear hw0))
           go_ret
           exact ⟨by rw [HE.out]; rfl, rfl⟩
         | true =>
           have HE := Lib.hid (show X = 0 from by rw [HX.out]; simp [wrongF, *])
           go_wp2_with (first | (with_reducible refine (sid_any u _).mono ?_; rintro e w0 ⟨rfl, hw0⟩; rw [hu, hw0]; clear hw0) | (with_reducible refine (sid_any v _).mono ?_; rintro e w0 ⟨rfl, hw0⟩; rw [hv, hw0]; clear hw0) | (with_reducible refine (slab_any la _).mono ?_; rintro e w0 ⟨rfl, hw0⟩; rw [hl, hw0]; clear hw0) | (with_reducible refine (swt_any wt _).mono ?_; rintro e w0 ⟨rfl, hw0⟩; rw [hw, hw0]; clear hw0))
           go_ret
           exact ⟨by rw [HE.out]; rfl, rfl⟩
       | false =>
         have HE := Lib.hid (show X = 0 from by rw [HX.out]; simp [wrongF, *])
         go_wp2_with (first | (with_reducible refine (sid_any u _).mono ?_; rintro e w0 ⟨rfl, hw0⟩; rw [hu, hw0]; clear hw0) | (with_reducible refine (sid_any v _).mono ?_; rintro e w0 ⟨rfl, hw0⟩; rw [hv, hw0]; clear hw0) | (with_reducible refine (slab_any la _).mono ?_; rintro e w0 ⟨rfl, hw0⟩; rw [hl, hw0]; clear hw0) | (with_reducible refine (swt_any wt _).mono ?_; rintro e w0 ⟨rfl, hw0⟩; rw [hw, hw0]; clear hw0))
         go_ret
         exact ⟨by rw [HE.out]; rfl, rfl⟩
   | false =>
     cases fw with
     | true =>
       cases hw : wtB wt with
       | false =>
         have HE := Lib.hid (show X = 2 from by rw [HX.out]; simp [wrongF, *])
         go_wp2_with (first | (with_reducible refine (sid_any u _).mono ?_; rintro e w0 ⟨rfl, hw0⟩; rw [hu, hw0]; clear hw0) | (with_reducible refine (sid_any v _).mono ?_; rintro e w0 ⟨rfl, hw0⟩; rw [hv, hw0]; clear hw0) | (with_reducible refine (slab_any la _).mono ?_; rintro e w0 ⟨rfl, hw0⟩; rw [hl, hw0]; clear hw0) | (with_reducible refine (swt_any wt _).mono ?_; rintro e w0 ⟨rfl, hw0⟩; rw [hw, hw0]; clear hw0))
         go_ret
         exact ⟨by rw [HE.out]; rfl, rfl⟩
       | true =>
         have HE := Lib.hid (show X = 0 from by rw [HX.out]; simp [wrongF, *])
         go_wp2_with (first | (with_reducible refine (sid_any u _).mono ?_; rintro e w0 ⟨rfl, hw0⟩; rw [hu, hw0]; clear hw0) | (with_reducible refine (sid_any v _).mono ?_; rintro e w0 ⟨rfl, hw0⟩; rw [hv, hw0]; clear hw0) | (with_reducible refine (slab_any la _).mono ?_; rintro e w0 ⟨rfl, hw0⟩; rw [hl, hw0]; clear hw0) | (with_reducible refine (swt_any wt _).mono ?_; rintro e w0 ⟨rfl, hw0⟩; rw [hw, hw0]; clear hw0))
         go_ret
         exact ⟨by rw [HE.out]; rfl, rfl⟩
     | false =>
       have HE := Lib.hid (show X = 0 from by rw [HX.out]; simp [wrongF, *])
       go_wp2_with (first | (with_reducible refine (sid_any u _).mono ?_; rintro e w0 ⟨rfl, hw0⟩; rw [hu, hw0]; clear hw0) | (with_reducible refine (sid_any v _).mono ?_; rintro e w0 ⟨rfl, hw0⟩; rw [hv, hw0]; clear hw0) | (with_reducible refine (slab_any la _).mono ?_; rintro e w0 ⟨rfl, hw0⟩; rw [hl, hw0]; clear hw0) | (with_reducible refine (swt_any wt _).mono ?_; rintro e w0 ⟨rfl, hw0⟩; rw [hw, hw0]; clear hw0))
       go_ret
       exact ⟨by rw [HE.out]; rfl, rfl⟩
theorem OwnI.single {B : Nat} {w : World} (z : Int) (hB : B ≤ w.heap.size) : OwnI B (w.alloc (.cells #[.int .i64 z] 3)) (.slice (some ⟨w.heap.size, 0, none⟩) 1 1) [z] :=
 ⟨rfl, .inr ⟨w.heap.size, 1, #[.int .i64 z], rfl, hB, heap_alloc_new _ _, Nat.le_refl _, by decide, rfl, rfl⟩⟩
theorem redit_any (e : Ed) (he : e.Wf) (w : World) :
   Calls Tryz.prog 12 #[.agg (edC e)] w fun r w' => r = .returned (.tuple #[.string ⟨e.text.1.toArray⟩, .int .i64 (e.text.2 : Nat)]) ∧ Below w.heap.size w w' := by
 have hlab := he.lab
 obtain ⟨X, hX⟩ : ∃ X, X = e.text := ⟨_, rfl⟩
 rw [← hX]
 have HX := Lib.hid hX
 obtain ⟨op, u, v, lab, wt⟩ := e
 simp only at hlab
 clear he hX
 rw [show edC ⟨op, u, v, lab, wt⟩ = #[.int .i64 op, .int .i64 u, .int .i64 v, .int .u8 (lab : Int), .int .i64 wt] from rfl]
 go_enter Tryz.func12, Tryz.ntmps12
 by_cases hop : op < 0
 · have HE := Lib.hid (show X = ([], 11) from by rw [HX.out]; exact text_of_bad (bad_kind (.inl hop)) (by decide))
   have d1 : decide (op < 0) = true := decide_eq_true hop
   go_wp2_with fail
   go_ret2
   exact ⟨by rw [HE.out]; rfl, (Below.refl _ w).alloc (Nat.le_refl _) _⟩
 have d1 : decide (op < 0) = false := decide_eq_false hop
 by_cases hop2 : 7 < op
 · have HE := Lib.hid (show X = ([], 11) from by rw [HX.out]; exact text_of_bad (bad_kind (.inr (by show 8 ≤ op; omega))) (by decide))
   have d2 : decide ((7 : Int) < op) = true := decide_eq_true hop2
   go_wp2_with fail
   go_ret2
   exact ⟨by rw [HE.out]; rfl, (Below.refl _ w).alloc (Nat.le_refl _) _⟩
 have d2 : decide ((7 : Int) < op) = false := decide_eq_false hop2
 obtain ⟨k, rfl⟩ : ∃ k : Nat, op = (k : Int) := ⟨op.toNat, by omega⟩
 have hk8 : k < 8 := by omega
 have HHas := Lib.hid fun W => rhasO_any k hk8 W
 have HBad := Lib.hid (bad_at k u v lab wt hk8)
 obtain ⟨fv, hfv⟩ : ∃ b, b = hasV k := ⟨_, rfl⟩
 obtain ⟨fl, hfl⟩ : ∃ b, b = hasL k := ⟨_, rfl⟩
 obtain ⟨fw, hfw⟩ : ∃ b, b = hasW k := ⟨_, rfl⟩
 rw [← hfv, ← hfl, ← hfw] at HBad HHas
 have HFv := Lib.hid hfv
 have HFl := Lib.hid hfl
 have HFw := Lib.hid hfw
 have hwl : (opW k).length ≤ 100 := (by decide : ∀ k, k < 8 → (opW k).length ≤ 100) k hk8
 clear hfv hfl hfw hop hop2
 go_wp2_with fail
 generalize hW0 : World.alloc w _ = W0
 obtain ⟨q0, hb0⟩ := alloc_row hW0
 have HB0 := Lib.hid hb0
 have c1 := (cell?_row (i := 1) q0).trans rfl
 have c2 := (cell?_row (i := 2) q0).trans rfl
 have c3 := (cell?_row (i := 3) q0).trans rfl
 have c4 := (cell?_row (i := 4) q0).trans rfl
 have c0 := (cell?_row (i := 0) q0).trans rfl
 have hz0 := row?_lt q0
 have HCC := Lib.hid fun W (hW : Below W0.heap.size W0 W) => show W.cell? ⟨w.heap.size, 0, none⟩ = some (.int .i64 (k : Int)) ∧ W.cell? ⟨w.heap.size, 1, none⟩ = some (.int .i64 u) ∧ W.cell? ⟨w.heap.size, 2, none⟩ = some (.int .i64 v) ∧ W.cell? ⟨w.heap.size, 3, none⟩ = some (.int .u8 (lab : Int)) ∧ W.cell? ⟨w.heap.size, 4, none⟩ = some (.int .i64 wt) from by
   have q := (row?_below hW hz0).trans q0
   exact ⟨(cell?_row (i := 0) q).trans rfl, (cell?_row (i := 1) q).trans rfl, (cell?_row (i := 2) q).trans rfl, (cell?_row (i := 3) q).trans rfl, (cell?_row (i := 4) q).trans rfl⟩
 clear hW0 q0 hb0
 refine (HHas.out W0).mono ?_
 rintro r w0 ⟨rfl, hw0⟩
 rw [hw0]
 clear hw0 HHas
 cases fv with
 | true =>
   cases fl with
   | true =>
     cases fw with
     | true =>
       have HBe := Lib.hid (show (⟨k, u, v, lab, wt⟩ : Ed).bad = if (idB u && idB (v) && labB ((lab : Int)) && wtB (wt)) = true then _ else 2 from HBad.out.trans (if_neg (by simp [stray])))
       have HWr := Lib.hid (rwrongO_any k hk8 u v (lab : Int) wt W0)
       rw [← HFv.out, ← HFl.out, ← HFw.out, wrongF_eq (by simp [stray]), ← HBe.out] at HWr
       obtain ⟨wr0, hwr0⟩ : ∃ q, q = (⟨k, u, v, lab, wt⟩ : Ed).bad := ⟨_, rfl⟩
       rw [← hwr0] at HWr
       have HWq := Lib.hid hwr0
       clear hwr0
       go_wp2_with fail
       refine HWr.out.mono ?_
       rintro r w0 ⟨rfl, hw0⟩
       rw [hw0]
       clear hw0 HWr
       by_cases hz : wr0 = 0
       · have hbz := HWq.out.symm.trans hz
         have HE := Lib.hid (show X = (lineB (opW k) ((⟨k, u, v, lab, wt⟩ : Ed).nums k), 0) from by rw [HX.out]; exact text_of_good hbz)
         have HNr := Lib.hid (show ∀ n ∈ (⟨k, u, v, lab, wt⟩ : Ed).nums k, -9223372036854775807 ≤ n ∧ n ≤ 9223372036854775807 from fun n hn => by have := nums_range (Ed.bad_range hbz) k n hn; omega)
         have hnl := nums_len (⟨k, u, v, lab, wt⟩ : Ed) k
         have hml := manyOp_le k
         obtain ⟨ns, hns⟩ : ∃ ns, ns = (⟨k, u, v, lab, wt⟩ : Ed).nums k := ⟨_, rfl⟩
         rw [← hns] at HE HNr hnl
         have hln : ns.length ≤ 100 := by omega
         have HNs := Lib.hid (show ns = [u, v, (lab : Int), wt] from by rw [hns]; unfold Ed.nums; rw [← HFv.out, ← HFl.out, ← HFw.out]; simp [optN])
         have e1 : ((wr0 : Int) != 0) = false := by rw [hz]; rfl
         have e2 : (wr0 : Int) = 0 := by omega
         subst hz
         clear hbz hns hnl hml
         go_wp2_with (at_builtin; refine wpList_appT rfl 82 Tryz.underlying82 _ _ rfl (W0.heap.size) _ ([u]) rfl ((OwnI.single (B := W0.heap.size) (w := W0) u (Nat.le_refl _)).alloc _) _ (v) _ rfl (by simp [go_sem]) (by first | omega | (simp; done) | (simp; omega)) (by first | (simp; done) | (simp; omega)) ?_)
         intro v1 w1 hO1 hb1
         obtain ⟨q1, cap1, hv1⟩ := hO1.sl
         subst hv1
         have HO1 := Lib.hid hO1
         have HBW1 := Lib.hid ((((Below.refl _ W0).alloc (Nat.le_refl _) _).alloc (by simp) _).trans hb1)
         have HBO1 := Lib.hid (HB0.out.trans (HBW1.out.mono HB0.out.size))
         have hz1 := HBW1.out.size
         obtain ⟨m0, m1, m2, m3, m4⟩ := HCC.out w1 HBW1.out
         clear hO1 hb1
         go_wp2_with (at_builtin; refine wpList_appT rfl 82 Tryz.underlying82 _ _ rfl (W0.heap.size) _ (([u] ++ [v])) rfl (HO1.out.alloc _) _ ((lab : Int)) _ rfl (by simp [go_sem]) (by first | omega | (simp; done) | (simp; omega)) (by first | (simp; done) | (simp; omega)) ?_)
         intro v2 w2 hO2 hb2
         obtain ⟨q2, cap2, hv2⟩ := hO2.sl
         subst hv2
         have HO2 := Lib.hid hO2
         have HBW2 := Lib.hid ((HBW1.out.alloc HBW1.out.size _).trans hb2)
         have HBO2 := Lib.hid (HB0.out.trans (HBW2.out.mono HB0.out.size))
         have hz2 := HBW2.out.size
         obtain ⟨m0, m1, m2, m3, m4⟩ := HCC.out w2 HBW2.out
         clear hO2 hb2
         go_wp2_with (at_builtin; refine wpList_appT rfl 82 Tryz.underlying82 _ _ rfl (W0.heap.size) _ (([u] ++ [v] ++ [(lab : Int)])) rfl (HO2.out.alloc _) _ (wt) _ rfl (by simp [go_sem]) (by first | omega | (simp; done) | (simp; omega)) (by first | (simp; done) | (simp; omega)) ?_)
         intro v3 w3 hO3 hb3
         obtain ⟨q3, cap3, hv3⟩ := hO3.sl
         subst hv3
         have HO3 := Lib.hid hO3
         have HBW3 := Lib.hid ((HBW2.out.alloc HBW2.out.size _).trans hb3)
         have HBO3 := Lib.hid (HB0.out.trans (HBW3.out.mono HB0.out.size))
         have hz3 := HBW3.out.size
         obtain ⟨m0, m1, m2, m3, m4⟩ := HCC.out w3 HBW3.out
         clear hO3 hb3
         go_wp2_with fail
         refine (rword_any k hk8 _).mono ?_
         rintro r w8 ⟨rfl, hb8⟩
         have HB8 := Lib.hid (HBO3.out.trans (hb8.mono HBO3.out.size))
         have hO8 := (HO3.out).below hb8 (Nat.le_refl _)
         have HLi := Lib.hid (rlineT_any (opW k) hwl ns HNr.out hln _ w8 (by rw [HNs.out]; exact hO8.rdl))
         clear hb8 hO8
         go_wp2_with fail
         refine HLi.out.mono ?_
         rintro r w9 ⟨rfl, hb9⟩
         have HB9 := Lib.hid (HB8.out.trans (hb9.mono HB8.out.size))
         clear hb9
         go_wp2_with fail
         go_ret2
         exact ⟨by rw [HE.out]; rfl, HB9.out⟩
       · have HE := Lib.hid (show X = ([], wr0) from by rw [HX.out]; exact text_of_bad HWq.out.symm hz)
         have e1 : ((wr0 : Int) != 0) = true := by rw [bne_iff_ne]; omega
         have e2 : ¬ (wr0 : Int) = 0 := by omega
         clear hz
         go_wp2_with fail
         go_ret2
         exact ⟨by rw [HE.out]; rfl, HB0.out⟩
     | false =>
       by_cases hw0 : wt = 0
       · subst hw0
         have HBe := Lib.hid (show (⟨k, u, v, lab, 0⟩ : Ed).bad = if (idB u && idB (v) && labB ((lab : Int)) && wtB (0)) = true then _ else 2 from HBad.out.trans (if_neg (by simp [stray])))
         have HWr := Lib.hid (rwrongO_any k hk8 u v (lab : Int) 0 W0)
         rw [← HFv.out, ← HFl.out, ← HFw.out, wrongF_eq (by simp [stray]), ← HBe.out] at HWr
         obtain ⟨wr0, hwr0⟩ : ∃ q, q = (⟨k, u, v, lab, 0⟩ : Ed).bad := ⟨_, rfl⟩
         rw [← hwr0] at HWr
         have HWq := Lib.hid hwr0
         clear hwr0
         go_wp2_with fail
         refine HWr.out.mono ?_
         rintro r w0 ⟨rfl, hw0⟩
         rw [hw0]
         clear hw0 HWr
         by_cases hz : wr0 = 0
         · have hbz := HWq.out.symm.trans hz
           have HE := Lib.hid (show X = (lineB (opW k) ((⟨k, u, v, lab, 0⟩ : Ed).nums k), 0) from by rw [HX.out]; exact text_of_good hbz)
           have HNr := Lib.hid (show ∀ n ∈ (⟨k, u, v, lab, 0⟩ : Ed).nums k, -9223372036854775807 ≤ n ∧ n ≤ 9223372036854775807 from fun n hn => by have := nums_range (Ed.bad_range hbz) k n hn; omega)
           have hnl := nums_len (⟨k, u, v, lab, 0⟩ : Ed) k
           have hml := manyOp_le k
           obtain ⟨ns, hns⟩ : ∃ ns, ns = (⟨k, u, v, lab, 0⟩ : Ed).nums k := ⟨_, rfl⟩
           rw [← hns] at HE HNr hnl
           have hln : ns.length ≤ 100 := by omega
           have HNs := Lib.hid (show ns = [u, v, (lab : Int)] from by rw [hns]; unfold Ed.nums; rw [← HFv.out, ← HFl.out, ← HFw.out]; simp [optN])
           have e1 : ((wr0 : Int) != 0) = false := by rw [hz]; rfl
           have e2 : (wr0 : Int) = 0 := by omega
           subst hz
           clear hbz hns hnl hml
           go_wp2_with (at_builtin; refine wpList_appT rfl 82 Tryz.underlying82 _ _ rfl (W0.heap.size) _ ([u]) rfl ((OwnI.single (B := W0.heap.size) (w := W0) u (Nat.le_refl _)).alloc _) _ (v) _ rfl (by simp [go_sem]) (by first | omega | (simp; done) | (simp; omega)) (by first | (simp; done) | (simp; omega)) ?_)
           intro v1 w1 hO1 hb1
           obtain ⟨q1, cap1, hv1⟩ := hO1.sl
           subst hv1
           have HO1 := Lib.hid hO1
           have HBW1 := Lib.hid ((((Below.refl _ W0).alloc (Nat.le_refl _) _).alloc (by simp) _).trans hb1)
           have HBO1 := Lib.hid (HB0.out.trans (HBW1.out.mono HB0.out.size))
           have hz1 := HBW1.out.size
           obtain ⟨m0, m1, m2, m3, m4⟩ := HCC.out w1 HBW1.out
           clear hO1 hb1
           go_wp2_with (at_builtin; refine wpList_appT rfl 82 Tryz.underlying82 _ _ rfl (W0.heap.size) _ (([u] ++ [v])) rfl (HO1.out.alloc _) _ ((lab : Int)) _ rfl (by simp [go_sem]) (by first | omega | (simp; done) | (simp; omega)) (by first | (simp; done) | (simp; omega)) ?_)
           intro v2 w2 hO2 hb2
           obtain ⟨q2, cap2, hv2⟩ := hO2.sl
           subst hv2
           have HO2 := Lib.hid hO2
           have HBW2 := Lib.hid ((HBW1.out.alloc HBW1.out.size _).trans hb2)
           have HBO2 := Lib.hid (HB0.out.trans (HBW2.out.mono HB0.out.size))
           have hz2 := HBW2.out.size
           obtain ⟨m0, m1, m2, m3, m4⟩ := HCC.out w2 HBW2.out
           clear hO2 hb2
           go_wp2_with fail
           refine (rword_any k hk8 _).mono ?_
           rintro r w8 ⟨rfl, hb8⟩
           have HB8 := Lib.hid (HBO2.out.trans (hb8.mono HBO2.out.size))
           have hO8 := (HO2.out).below hb8 (Nat.le_refl _)
           have HLi := Lib.hid (rlineT_any (opW k) hwl ns HNr.out hln _ w8 (by rw [HNs.out]; exact hO8.rdl))
           clear hb8 hO8
           go_wp2_with fail
           refine HLi.out.mono ?_
           rintro r w9 ⟨rfl, hb9⟩
           have HB9 := Lib.hid (HB8.out.trans (hb9.mono HB8.out.size))
           clear hb9
           go_wp2_with fail
           go_ret2
           exact ⟨by rw [HE.out]; rfl, HB9.out⟩
         · have HE := Lib.hid (show X = ([], wr0) from by rw [HX.out]; exact text_of_bad HWq.out.symm hz)
           have e1 : ((wr0 : Int) != 0) = true := by rw [bne_iff_ne]; omega
           have e2 : ¬ (wr0 : Int) = 0 := by omega
           clear hz
           go_wp2_with fail
           go_ret2
           exact ⟨by rw [HE.out]; rfl, HB0.out⟩
       · have HE := Lib.hid (show X = ([], 3) from by rw [HX.out]; exact text_of_bad (HBad.out.trans (if_pos (by simp [stray, hw0]))) (by decide))
         have e1 : (wt != 0) = true := by rw [bne_iff_ne]; exact hw0
         go_wp2_with fail
         go_ret2
         exact ⟨by rw [HE.out]; rfl, HB0.out⟩
   | false =>
     by_cases hl0 : lab = 0
     · subst hl0
       cases fw with
       | true =>
         have HBe := Lib.hid (show (⟨k, u, v, 0, wt⟩ : Ed).bad = if (idB u && idB (v) && labB (0) && wtB (wt)) = true then _ else 2 from HBad.out.trans (if_neg (by simp [stray])))
         have HWr := Lib.hid (rwrongO_any k hk8 u v 0 wt W0)
         rw [← HFv.out, ← HFl.out, ← HFw.out, wrongF_eq (by simp [stray]), ← HBe.out] at HWr
         obtain ⟨wr0, hwr0⟩ : ∃ q, q = (⟨k, u, v, 0, wt⟩ : Ed).bad := ⟨_, rfl⟩
         rw [← hwr0] at HWr
         have HWq := Lib.hid hwr0
         clear hwr0
         go_wp2_with fail
         refine HWr.out.mono ?_
         rintro r w0 ⟨rfl, hw0⟩
         rw [hw0]
         clear hw0 HWr
         by_cases hz : wr0 = 0
         · have hbz := HWq.out.symm.trans hz
           have HE := Lib.hid (show X = (lineB (opW k) ((⟨k, u, v, 0, wt⟩ : Ed).nums k), 0) from by rw [HX.out]; exact text_of_good hbz)
           have HNr := Lib.hid (show ∀ n ∈ (⟨k, u, v, 0, wt⟩ : Ed).nums k, -9223372036854775807 ≤ n ∧ n ≤ 9223372036854775807 from fun n hn => by have := nums_range (Ed.bad_range hbz) k n hn; omega)
           have hnl := nums_len (⟨k, u, v, 0, wt⟩ : Ed) k
           have hml := manyOp_le k
           obtain ⟨ns, hns⟩ : ∃ ns, ns = (⟨k, u, v, 0, wt⟩ : Ed).nums k := ⟨_, rfl⟩
           rw [← hns] at HE HNr hnl
           have hln : ns.length ≤ 100 := by omega
           have HNs := Lib.hid (show ns = [u, v, wt] from by rw [hns]; unfold Ed.nums; rw [← HFv.out, ← HFl.out, ← HFw.out]; simp [optN])
           have e1 : ((wr0 : Int) != 0) = false := by rw [hz]; rfl
           have e2 : (wr0 : Int) = 0 := by omega
           subst hz
           clear hbz hns hnl hml
           go_wp2_with (at_builtin; refine wpList_appT rfl 82 Tryz.underlying82 _ _ rfl (W0.heap.size) _ ([u]) rfl ((OwnI.single (B := W0.heap.size) (w := W0) u (Nat.le_refl _)).alloc _) _ (v) _ rfl (by simp [go_sem]) (by first | omega | (simp; done) | (simp; omega)) (by first | (simp; done) | (simp; omega)) ?_)
           intro v1 w1 hO1 hb1
           obtain ⟨q1, cap1, hv1⟩ := hO1.sl
           subst hv1
           have HO1 := Lib.hid hO1
           have HBW1 := Lib.hid ((((Below.refl _ W0).alloc (Nat.le_refl _) _).alloc (by simp) _).trans hb1)
           have HBO1 := Lib.hid (HB0.out.trans (HBW1.out.mono HB0.out.size))
           have hz1 := HBW1.out.size
           obtain ⟨m0, m1, m2, m3, m4⟩ := HCC.out w1 HBW1.out
           clear hO1 hb1
           go_wp2_with (at_builtin; refine wpList_appT rfl 82 Tryz.underlying82 _ _ rfl (W0.heap.size) _ (([u] ++ [v])) rfl (HO1.out.alloc _) _ (wt) _ rfl (by simp [go_sem]) (by first | omega | (simp; done) | (simp; omega)) (by first | (simp; done) | (simp; omega)) ?_)
           intro v2 w2 hO2 hb2
           obtain ⟨q2, cap2, hv2⟩ := hO2.sl
           subst hv2
           have HO2 := Lib.hid hO2
           have HBW2 := Lib.hid ((HBW1.out.alloc HBW1.out.size _).trans hb2)
           have HBO2 := Lib.hid (HB0.out.trans (HBW2.out.mono HB0.out.size))
           have hz2 := HBW2.out.size
           obtain ⟨m0, m1, m2, m3, m4⟩ := HCC.out w2 HBW2.out
           clear hO2 hb2
           go_wp2_with fail
           refine (rword_any k hk8 _).mono ?_
           rintro r w8 ⟨rfl, hb8⟩
           have HB8 := Lib.hid (HBO2.out.trans (hb8.mono HBO2.out.size))
           have hO8 := (HO2.out).below hb8 (Nat.le_refl _)
           have HLi := Lib.hid (rlineT_any (opW k) hwl ns HNr.out hln _ w8 (by rw [HNs.out]; exact hO8.rdl))
           clear hb8 hO8
           go_wp2_with fail
           refine HLi.out.mono ?_
           rintro r w9 ⟨rfl, hb9⟩
           have HB9 := Lib.hid (HB8.out.trans (hb9.mono HB8.out.size))
           clear hb9
           go_wp2_with fail
           go_ret2
           exact ⟨by rw [HE.out]; rfl, HB9.out⟩
         · have HE := Lib.hid (show X = ([], wr0) from by rw [HX.out]; exact text_of_bad HWq.out.symm hz)
           have e1 : ((wr0 : Int) != 0) = true := by rw [bne_iff_ne]; omega
           have e2 : ¬ (wr0 : Int) = 0 := by omega
           clear hz
           go_wp2_with fail
           go_ret2
           exact ⟨by rw [HE.out]; rfl, HB0.out⟩
       | false =>
         by_cases hw0 : wt = 0
         · subst hw0
           have HBe := Lib.hid (show (⟨k, u, v, 0, 0⟩ : Ed).bad = if (idB u && idB (v) && labB (0) && wtB (0)) = true then _ else 2 from HBad.out.trans (if_neg (by simp [stray])))
           have HWr := Lib.hid (rwrongO_any k hk8 u v 0 0 W0)
           rw [← HFv.out, ← HFl.out, ← HFw.out, wrongF_eq (by simp [stray]), ← HBe.out] at HWr
           obtain ⟨wr0, hwr0⟩ : ∃ q, q = (⟨k, u, v, 0, 0⟩ : Ed).bad := ⟨_, rfl⟩
           rw [← hwr0] at HWr
           have HWq := Lib.hid hwr0
           clear hwr0
           go_wp2_with fail
           refine HWr.out.mono ?_
           rintro r w0 ⟨rfl, hw0⟩
           rw [hw0]
           clear hw0 HWr
           by_cases hz : wr0 = 0
           · have hbz := HWq.out.symm.trans hz
             have HE := Lib.hid (show X = (lineB (opW k) ((⟨k, u, v, 0, 0⟩ : Ed).nums k), 0) from by rw [HX.out]; exact text_of_good hbz)
             have HNr := Lib.hid (show ∀ n ∈ (⟨k, u, v, 0, 0⟩ : Ed).nums k, -9223372036854775807 ≤ n ∧ n ≤ 9223372036854775807 from fun n hn => by have := nums_range (Ed.bad_range hbz) k n hn; omega)
             have hnl := nums_len (⟨k, u, v, 0, 0⟩ : Ed) k
             have hml := manyOp_le k
             obtain ⟨ns, hns⟩ : ∃ ns, ns = (⟨k, u, v, 0, 0⟩ : Ed).nums k := ⟨_, rfl⟩
             rw [← hns] at HE HNr hnl
             have hln : ns.length ≤ 100 := by omega
             have HNs := Lib.hid (show ns = [u, v] from by rw [hns]; unfold Ed.nums; rw [← HFv.out, ← HFl.out, ← HFw.out]; simp [optN])
             have e1 : ((wr0 : Int) != 0) = false := by rw [hz]; rfl
             have e2 : (wr0 : Int) = 0 := by omega
             subst hz
             clear hbz hns hnl hml
             go_wp2_with (at_builtin; refine wpList_appT rfl 82 Tryz.underlying82 _ _ rfl (W0.heap.size) _ ([u]) rfl ((OwnI.single (B := W0.heap.size) (w := W0) u (Nat.le_refl _)).alloc _) _ (v) _ rfl (by simp [go_sem]) (by first | omega | (simp; done) | (simp; omega)) (by first | (simp; done) | (simp; omega)) ?_)
             intro v1 w1 hO1 hb1
             obtain ⟨q1, cap1, hv1⟩ := hO1.sl
             subst hv1
             have HO1 := Lib.hid hO1
             have HBW1 := Lib.hid ((((Below.refl _ W0).alloc (Nat.le_refl _) _).alloc (by simp) _).trans hb1)
             have HBO1 := Lib.hid (HB0.out.trans (HBW1.out.mono HB0.out.size))
             have hz1 := HBW1.out.size
             obtain ⟨m0, m1, m2, m3, m4⟩ := HCC.out w1 HBW1.out
             clear hO1 hb1
             go_wp2_with fail
             refine (rword_any k hk8 _).mono ?_
             rintro r w8 ⟨rfl, hb8⟩
             have HB8 := Lib.hid (HBO1.out.trans (hb8.mono HBO1.out.size))
             have hO8 := (HO1.out).below hb8 (Nat.le_refl _)
             have HLi := Lib.hid (rlineT_any (opW k) hwl ns HNr.out hln _ w8 (by rw [HNs.out]; exact hO8.rdl))
             clear hb8 hO8
             go_wp2_with fail
             refine HLi.out.mono ?_
             rintro r w9 ⟨rfl, hb9⟩
             have HB9 := Lib.hid (HB8.out.trans (hb9.mono HB8.out.size))
             clear hb9
             go_wp2_with fail
             go_ret2
             exact ⟨by rw [HE.out]; rfl, HB9.out⟩
           · have HE := Lib.hid (show X = ([], wr0) from by rw [HX.out]; exact text_of_bad HWq.out.symm hz)
             have e1 : ((wr0 : Int) != 0) = true := by rw [bne_iff_ne]; omega
             have e2 : ¬ (wr0 : Int) = 0 := by omega
             clear hz
             go_wp2_with fail
             go_ret2
             exact ⟨by rw [HE.out]; rfl, HB0.out⟩
         · have HE := Lib.hid (show X = ([], 3) from by rw [HX.out]; exact text_of_bad (HBad.out.trans (if_pos (by simp [stray, hw0]))) (by decide))
           have e1 : (wt != 0) = true := by rw [bne_iff_ne]; exact hw0
           go_wp2_with fail
           go_ret2
           exact ⟨by rw [HE.out]; rfl, HB0.out⟩
     · have HE := Lib.hid (show X = ([], 3) from by rw [HX.out]; exact text_of_bad (HBad.out.trans (if_pos (by simp [stray, hl0]))) (by decide))
       have e1 : ((lab : Int) != 0) = true := by rw [bne_iff_ne]; omega
       have e2 : ¬ (lab : Int) = 0 := by omega
       go_wp2_with fail
       go_ret2
       exact ⟨by rw [HE.out]; rfl, HB0.out⟩
 | false =>
   by_cases hv0 : v = 0
   · subst hv0
     cases fl with
     | true =>
       cases fw with
       | true =>
         have HBe := Lib.hid (show (⟨k, u, 0, lab, wt⟩ : Ed).bad = if (idB u && idB (0) && labB ((lab : Int)) && wtB (wt)) = true then _ else 2 from HBad.out.trans (if_neg (by simp [stray])))
         have HWr := Lib.hid (rwrongO_any k hk8 u 0 (lab : Int) wt W0)
         rw [← HFv.out, ← HFl.out, ← HFw.out, wrongF_eq (by simp [stray]), ← HBe.out] at HWr
         obtain ⟨wr0, hwr0⟩ : ∃ q, q = (⟨k, u, 0, lab, wt⟩ : Ed).bad := ⟨_, rfl⟩
         rw [← hwr0] at HWr
         have HWq := Lib.hid hwr0
         clear hwr0
         go_wp2_with fail
         refine HWr.out.mono ?_
         rintro r w0 ⟨rfl, hw0⟩
         rw [hw0]
         clear hw0 HWr
         by_cases hz : wr0 = 0
         · have hbz := HWq.out.symm.trans hz
           have HE := Lib.hid (show X = (lineB (opW k) ((⟨k, u, 0, lab, wt⟩ : Ed).nums k), 0) from by rw [HX.out]; exact text_of_good hbz)
           have HNr := Lib.hid (show ∀ n ∈ (⟨k, u, 0, lab, wt⟩ : Ed).nums k, -9223372036854775807 ≤ n ∧ n ≤ 9223372036854775807 from fun n hn => by have := nums_range (Ed.bad_range hbz) k n hn; omega)
           have hnl := nums_len (⟨k, u, 0, lab, wt⟩ : Ed) k
           have hml := manyOp_le k
           obtain ⟨ns, hns⟩ : ∃ ns, ns = (⟨k, u, 0, lab, wt⟩ : Ed).nums k := ⟨_, rfl⟩
           rw [← hns] at HE HNr hnl
           have hln : ns.length ≤ 100 := by omega
           have HNs := Lib.hid (show ns = [u, (lab : Int), wt] from by rw [hns]; unfold Ed.nums; rw [← HFv.out, ← HFl.out, ← HFw.out]; simp [optN])
           have e1 : ((wr0 : Int) != 0) = false := by rw [hz]; rfl
           have e2 : (wr0 : Int) = 0 := by omega
           subst hz
           clear hbz hns hnl hml
           go_wp2_with (at_builtin; refine wpList_appT rfl 82 Tryz.underlying82 _ _ rfl (W0.heap.size) _ ([u]) rfl ((OwnI.single (B := W0.heap.size) (w := W0) u (Nat.le_refl _)).alloc _) _ ((lab : Int)) _ rfl (by simp [go_sem]) (by first | omega | (simp; done) | (simp; omega)) (by first | (simp; done) | (simp; omega)) ?_)
           intro v1 w1 hO1 hb1
           obtain ⟨q1, cap1, hv1⟩ := hO1.sl
           subst hv1
           have HO1 := Lib.hid hO1
           have HBW1 := Lib.hid ((((Below.refl _ W0).alloc (Nat.le_refl _) _).alloc (by simp) _).trans hb1)
           have HBO1 := Lib.hid (HB0.out.trans (HBW1.out.mono HB0.out.size))
           have hz1 := HBW1.out.size
           obtain ⟨m0, m1, m2, m3, m4⟩ := HCC.out w1 HBW1.out
           clear hO1 hb1
           go_wp2_with (at_builtin; refine wpList_appT rfl 82 Tryz.underlying82 _ _ rfl (W0.heap.size) _ (([u] ++ [(lab : Int)])) rfl (HO1.out.alloc _) _ (wt) _ rfl (by simp [go_sem]) (by first | omega | (simp; done) | (simp; omega)) (by first | (simp; done) | (simp; omega)) ?_)
           intro v2 w2 hO2 hb2
           obtain ⟨q2, cap2, hv2⟩ := hO2.sl
           subst hv2
           have HO2 := Lib.hid hO2
           have HBW2 := Lib.hid ((HBW1.out.alloc HBW1.out.size _).trans hb2)
           have HBO2 := Lib.hid (HB0.out.trans (HBW2.out.mono HB0.out.size))
           have hz2 := HBW2.out.size
           obtain ⟨m0, m1, m2, m3, m4⟩ := HCC.out w2 HBW2.out
           clear hO2 hb2
           go_wp2_with fail
           refine (rword_any k hk8 _).mono ?_
           rintro r w8 ⟨rfl, hb8⟩
           have HB8 := Lib.hid (HBO2.out.trans (hb8.mono HBO2.out.size))
           have hO8 := (HO2.out).below hb8 (Nat.le_refl _)
           have HLi := Lib.hid (rlineT_any (opW k) hwl ns HNr.out hln _ w8 (by rw [HNs.out]; exact hO8.rdl))
           clear hb8 hO8
           go_wp2_with fail
           refine HLi.out.mono ?_
           rintro r w9 ⟨rfl, hb9⟩
           have HB9 := Lib.hid (HB8.out.trans (hb9.mono HB8.out.size))
           clear hb9
           go_wp2_with fail
           go_ret2
           exact ⟨by rw [HE.out]; rfl, HB9.out⟩
         · have HE := Lib.hid (show X = ([], wr0) from by rw [HX.out]; exact text_of_bad HWq.out.symm hz)
           have e1 : ((wr0 : Int) != 0) = true := by rw [bne_iff_ne]; omega
           have e2 : ¬ (wr0 : Int) = 0 := by omega
           clear hz
           go_wp2_with fail
           go_ret2
           exact ⟨by rw [HE.out]; rfl, HB0.out⟩
       | false =>
         by_cases hw0 : wt = 0
         · subst hw0
           have HBe := Lib.hid (show (⟨k, u, 0, lab, 0⟩ : Ed).bad = if (idB u && idB (0) && labB ((lab : Int)) && wtB (0)) = true then _ else 2 from HBad.out.trans (if_neg (by simp [stray])))
           have HWr := Lib.hid (rwrongO_any k hk8 u 0 (lab : Int) 0 W0)
           rw [← HFv.out, ← HFl.out, ← HFw.out, wrongF_eq (by simp [stray]), ← HBe.out] at HWr
           obtain ⟨wr0, hwr0⟩ : ∃ q, q = (⟨k, u, 0, lab, 0⟩ : Ed).bad := ⟨_, rfl⟩
           rw [← hwr0] at HWr
           have HWq := Lib.hid hwr0
           clear hwr0
           go_wp2_with fail
           refine HWr.out.mono ?_
           rintro r w0 ⟨rfl, hw0⟩
           rw [hw0]
           clear hw0 HWr
           by_cases hz : wr0 = 0
           · have hbz := HWq.out.symm.trans hz
             have HE := Lib.hid (show X = (lineB (opW k) ((⟨k, u, 0, lab, 0⟩ : Ed).nums k), 0) from by rw [HX.out]; exact text_of_good hbz)
             have HNr := Lib.hid (show ∀ n ∈ (⟨k, u, 0, lab, 0⟩ : Ed).nums k, -9223372036854775807 ≤ n ∧ n ≤ 9223372036854775807 from fun n hn => by have := nums_range (Ed.bad_range hbz) k n hn; omega)
             have hnl := nums_len (⟨k, u, 0, lab, 0⟩ : Ed) k
             have hml := manyOp_le k
             obtain ⟨ns, hns⟩ : ∃ ns, ns = (⟨k, u, 0, lab, 0⟩ : Ed).nums k := ⟨_, rfl⟩
             rw [← hns] at HE HNr hnl
             have hln : ns.length ≤ 100 := by omega
             have HNs := Lib.hid (show ns = [u, (lab : Int)] from by rw [hns]; unfold Ed.nums; rw [← HFv.out, ← HFl.out, ← HFw.out]; simp [optN])
             have e1 : ((wr0 : Int) != 0) = false := by rw [hz]; rfl
             have e2 : (wr0 : Int) = 0 := by omega
             subst hz
             clear hbz hns hnl hml
             go_wp2_with (at_builtin; refine wpList_appT rfl 82 Tryz.underlying82 _ _ rfl (W0.heap.size) _ ([u]) rfl ((OwnI.single (B := W0.heap.size) (w := W0) u (Nat.le_refl _)).alloc _) _ ((lab : Int)) _ rfl (by simp [go_sem]) (by first | omega | (simp; done) | (simp; omega)) (by first | (simp; done) | (simp; omega)) ?_)
             intro v1 w1 hO1 hb1
             obtain ⟨q1, cap1, hv1⟩ := hO1.sl
             subst hv1
             have HO1 := Lib.hid hO1
             have HBW1 := Lib.hid ((((Below.refl _ W0).alloc (Nat.le_refl _) _).alloc (by simp) _).trans hb1)
             have HBO1 := Lib.hid (HB0.out.trans (HBW1.out.mono HB0.out.size))
             have hz1 := HBW1.out.size
             obtain ⟨m0, m1, m2, m3, m4⟩ := HCC.out w1 HBW1.out
             clear hO1 hb1
             go_wp2_with fail
             refine (rword_any k hk8 _).mono ?_
             rintro r w8 ⟨rfl, hb8⟩
             have HB8 := Lib.hid (HBO1.out.trans (hb8.mono HBO1.out.size))
             have hO8 := (HO1.out).below hb8 (Nat.le_refl _)
             have HLi := Lib.hid (rlineT_any (opW k) hwl ns HNr.out hln _ w8 (by rw [HNs.out]; exact hO8.rdl))
             clear hb8 hO8
             go_wp2_with fail
             refine HLi.out.mono ?_
             rintro r w9 ⟨rfl, hb9⟩
             have HB9 := Lib.hid (HB8.out.trans (hb9.mono HB8.out.size))
             clear hb9
             go_wp2_with fail
             go_ret2
             exact ⟨by rw [HE.out]; rfl, HB9.out⟩
           · have HE := Lib.hid (show X = ([], wr0) from by rw [HX.out]; exact text_of_bad HWq.out.symm hz)
             have e1 : ((wr0 : Int) != 0) = true := by rw [bne_iff_ne]; omega
             have e2 : ¬ (wr0 : Int) = 0 := by omega
             clear hz
             go_wp2_with fail
             go_ret2
             exact ⟨by rw [HE.out]; rfl, HB0.out⟩
         · have HE := Lib.hid (show X = ([], 3) from by rw [HX.out]; exact text_of_bad (HBad.out.trans (if_pos (by simp [stray, hw0]))) (by decide))
           have e1 : (wt != 0) = true := by rw [bne_iff_ne]; exact hw0
           go_wp2_with fail
           go_ret2
           exact ⟨by rw [HE.out]; rfl, HB0.out⟩
     | false =>
       by_cases hl0 : lab = 0
       · subst hl0
         cases fw with
         | true =>
           have HBe := Lib.hid (show (⟨k, u, 0, 0, wt⟩ : Ed).bad = if (idB u && idB (0) && labB (0) && wtB (wt)) = true then _ else 2 from HBad.out.trans (if_neg (by simp [stray])))
           have HWr := Lib.hid (rwrongO_any k hk8 u 0 0 wt W0)
           rw [← HFv.out, ← HFl.out, ← HFw.out, wrongF_eq (by simp [stray]), ← HBe.out] at HWr
           obtain ⟨wr0, hwr0⟩ : ∃ q, q = (⟨k, u, 0, 0, wt⟩ : Ed).bad := ⟨_, rfl⟩
           rw [← hwr0] at HWr
           have HWq := Lib.hid hwr0
           clear hwr0
           go_wp2_with fail
           refine HWr.out.mono ?_
           rintro r w0 ⟨rfl, hw0⟩
           rw [hw0]
           clear hw0 HWr
           by_cases hz : wr0 = 0
           · have hbz := HWq.out.symm.trans hz
             have HE := Lib.hid (show X = (lineB (opW k) ((⟨k, u, 0, 0, wt⟩ : Ed).nums k), 0) from by rw [HX.out]; exact text_of_good hbz)
             have HNr := Lib.hid (show ∀ n ∈ (⟨k, u, 0, 0, wt⟩ : Ed).nums k, -9223372036854775807 ≤ n ∧ n ≤ 9223372036854775807 from fun n hn => by have := nums_range (Ed.bad_range hbz) k n hn; omega)
             have hnl := nums_len (⟨k, u, 0, 0, wt⟩ : Ed) k
             have hml := manyOp_le k
             obtain ⟨ns, hns⟩ : ∃ ns, ns = (⟨k, u, 0, 0, wt⟩ : Ed).nums k := ⟨_, rfl⟩
             rw [← hns] at HE HNr hnl
             have hln : ns.length ≤ 100 := by omega
             have HNs := Lib.hid (show ns = [u, wt] from by rw [hns]; unfold Ed.nums; rw [← HFv.out, ← HFl.out, ← HFw.out]; simp [optN])
             have e1 : ((wr0 : Int) != 0) = false := by rw [hz]; rfl
             have e2 : (wr0 : Int) = 0 := by omega
             subst hz
             clear hbz hns hnl hml
             go_wp2_with (at_builtin; refine wpList_appT rfl 82 Tryz.underlying82 _ _ rfl (W0.heap.size) _ ([u]) rfl ((OwnI.single (B := W0.heap.size) (w := W0) u (Nat.le_refl _)).alloc _) _ (wt) _ rfl (by simp [go_sem]) (by first | omega | (simp; done) | (simp; omega)) (by first | (simp; done) | (simp; omega)) ?_)
             intro v1 w1 hO1 hb1
             obtain ⟨q1, cap1, hv1⟩ := hO1.sl
             subst hv1
             have HO1 := Lib.hid hO1
             have HBW1 := Lib.hid ((((Below.refl _ W0).alloc (Nat.le_refl _) _).alloc (by simp) _).trans hb1)
             have HBO1 := Lib.hid (HB0.out.trans (HBW1.out.mono HB0.out.size))
             have hz1 := HBW1.out.size
             obtain ⟨m0, m1, m2, m3, m4⟩ := HCC.out w1 HBW1.out
             clear hO1 hb1
             go_wp2_with fail
             refine (rword_any k hk8 _).mono ?_
             rintro r w8 ⟨rfl, hb8⟩
             have HB8 := Lib.hid (HBO1.out.trans (hb8.mono HBO1.out.size))
             have hO8 := (HO1.out).below hb8 (Nat.le_refl _)
             have HLi := Lib.hid (rlineT_any (opW k) hwl ns HNr.out hln _ w8 (by rw [HNs.out]; exact hO8.rdl))
             clear hb8 hO8
             go_wp2_with fail
             refine HLi.out.mono ?_
             rintro r w9 ⟨rfl, hb9⟩
             have HB9 := Lib.hid (HB8.out.trans (hb9.mono HB8.out.size))
             clear hb9
             go_wp2_with fail
             go_ret2
             exact ⟨by rw [HE.out]; rfl, HB9.out⟩
           · have HE := Lib.hid (show X = ([], wr0) from by rw [HX.out]; exact text_of_bad HWq.out.symm hz)
             have e1 : ((wr0 : Int) != 0) = true := by rw [bne_iff_ne]; omega
             have e2 : ¬ (wr0 : Int) = 0 := by omega
             clear hz
             go_wp2_with fail
             go_ret2
             exact ⟨by rw [HE.out]; rfl, HB0.out⟩
         | false =>
           by_cases hw0 : wt = 0
           · subst hw0
             have HBe := Lib.hid (show (⟨k, u, 0, 0, 0⟩ : Ed).bad = if (idB u && idB (0) && labB (0) && wtB (0)) = true then _ else 2 from HBad.out.trans (if_neg (by simp [stray])))
             have HWr := Lib.hid (rwrongO_any k hk8 u 0 0 0 W0)
             rw [← HFv.out, ← HFl.out, ← HFw.out, wrongF_eq (by simp [stray]), ← HBe.out] at HWr
             obtain ⟨wr0, hwr0⟩ : ∃ q, q = (⟨k, u, 0, 0, 0⟩ : Ed).bad := ⟨_, rfl⟩
             rw [← hwr0] at HWr
             have HWq := Lib.hid hwr0
             clear hwr0
             go_wp2_with fail
             refine HWr.out.mono ?_
             rintro r w0 ⟨rfl, hw0⟩
             rw [hw0]
             clear hw0 HWr
             by_cases hz : wr0 = 0
             · have hbz := HWq.out.symm.trans hz
               have HE := Lib.hid (show X = (lineB (opW k) ((⟨k, u, 0, 0, 0⟩ : Ed).nums k), 0) from by rw [HX.out]; exact text_of_good hbz)
               have HNr := Lib.hid (show ∀ n ∈ (⟨k, u, 0, 0, 0⟩ : Ed).nums k, -9223372036854775807 ≤ n ∧ n ≤ 9223372036854775807 from fun n hn => by have := nums_range (Ed.bad_range hbz) k n hn; omega)
               have hnl := nums_len (⟨k, u, 0, 0, 0⟩ : Ed) k
               have hml := manyOp_le k
               obtain ⟨ns, hns⟩ : ∃ ns, ns = (⟨k, u, 0, 0, 0⟩ : Ed).nums k := ⟨_, rfl⟩
               rw [← hns] at HE HNr hnl
               have hln : ns.length ≤ 100 := by omega
               have HNs := Lib.hid (show ns = [u] from by rw [hns]; unfold Ed.nums; rw [← HFv.out, ← HFl.out, ← HFw.out]; simp [optN])
               have e1 : ((wr0 : Int) != 0) = false := by rw [hz]; rfl
               have e2 : (wr0 : Int) = 0 := by omega
               subst hz
               clear hbz hns hnl hml
               have HBO0 := Lib.hid (HB0.out.alloc HB0.out.size (.cells #[.int .i64 u] 3))
               go_wp2_with fail
               refine (rword_any k hk8 _).mono ?_
               rintro r w8 ⟨rfl, hb8⟩
               have HB8 := Lib.hid (HBO0.out.trans (hb8.mono HBO0.out.size))
               have hO8 := ((OwnI.single (B := W0.heap.size) (w := W0) u (Nat.le_refl _))).below hb8 (Nat.le_refl _)
               have HLi := Lib.hid (rlineT_any (opW k) hwl ns HNr.out hln _ w8 (by rw [HNs.out]; exact hO8.rdl))
               clear hb8 hO8
               go_wp2_with fail
               refine HLi.out.mono ?_
               rintro r w9 ⟨rfl, hb9⟩
               have HB9 := Lib.hid (HB8.out.trans (hb9.mono HB8.out.size))
               clear hb9
               go_wp2_with fail
               go_ret2
               exact ⟨by rw [HE.out]; rfl, HB9.out⟩
             · have HE := Lib.hid (show X = ([], wr0) from by rw [HX.out]; exact text_of_bad HWq.out.symm hz)
               have e1 : ((wr0 : Int) != 0) = true := by rw [bne_iff_ne]; omega
               have e2 : ¬ (wr0 : Int) = 0 := by omega
               clear hz
               go_wp2_with fail
               go_ret2
               exact ⟨by rw [HE.out]; rfl, HB0.out⟩
           · have HE := Lib.hid (show X = ([], 3) from by rw [HX.out]; exact text_of_bad (HBad.out.trans (if_pos (by simp [stray, hw0]))) (by decide))
             have e1 : (wt != 0) = true := by rw [bne_iff_ne]; exact hw0
             go_wp2_with fail
             go_ret2
             exact ⟨by rw [HE.out]; rfl, HB0.out⟩
       · have HE := Lib.hid (show X = ([], 3) from by rw [HX.out]; exact text_of_bad (HBad.out.trans (if_pos (by simp [stray, hl0]))) (by decide))
         have e1 : ((lab : Int) != 0) = true := by rw [bne_iff_ne]; omega
         have e2 : ¬ (lab : Int) = 0 := by omega
         go_wp2_with fail
         go_ret2
         exact ⟨by rw [HE.out]; rfl, HB0.out⟩
   · have HE := Lib.hid (show X = ([], 3) from by rw [HX.out]; exact text_of_bad (HBad.out.trans (if_pos (by simp [stray, hv0]))) (by decide))
     have e1 : (v != 0) = true := by rw [bne_iff_ne]; exact hv0
     go_wp2_with fail
     go_ret2
     exact ⟨by rw [HE.out]; rfl, HB0.out⟩
end Go.Proofs.YtglnhnjmelilmaaGreatDoor
