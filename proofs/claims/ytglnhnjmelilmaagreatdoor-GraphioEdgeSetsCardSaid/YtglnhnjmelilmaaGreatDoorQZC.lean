/- Walk: graphio's ParseEdgeSet. -/
import Derived.Test.YtglnhnjmelilmaaGreatDoorQZa
import Derived.Test.YtglnhnjmelilmaaGreatDoorQJm
import Derived.Test.YtglnhnjmelilmaaGreatDoorQHE
set_option linter.all false
namespace Go.Proofs.YtglnhnjmelilmaaGreatDoor
open Go Go.RowKit Go.Pal Go.Shelf
attribute [local go_sem] Oper.semAt_some
def lenS : Value → Nat | .string b => b.size | _ => 0
theorem lenS_str (s : List UInt8) : lenS (.string ⟨s.toArray⟩) = s.length := by simp [lenS, ByteArray.size]
def edN (p : Int × Int) : Array Value := #[.int .i64 p.1, .int .i64 p.2, .int .u8 0, .int .i64 0]
set_option maxRecDepth 10000 in
set_option maxHeartbeats 4000000 in
theorem pedge_any (g bV bE : Nat) (G : Gr) (hG : G.Ok) (s : List UInt8) (hs : s.length ≤ 8388608) (w : World) (h : GOk w g bV bE G) (hP : Pow w) (hE : Errs w) :
   Calls Tryz.prog 40 #[.pointer (some ⟨g, 0, none⟩), .string ⟨s.toArray⟩] w fun e w' => e = .returned (.tuple #[.agg (words (setL (readT G s).1)), .int .i64 ((readT G s).2 : Nat)]) ∧ Below w.heap.size w w' := by
 have HG := Lib.hid hG
 have H0 := Lib.hid h
 have HP := Lib.hid hP
 have HE := Lib.hid hE
 have hgl := h.lt
 obtain ⟨X, hX⟩ : ∃ X, X = readT G s := ⟨_, rfl⟩
 have HX := Lib.hid hX
 rw [← hX]
 clear hG h hP hE hX
 go_enter Tryz.func40, Tryz.ntmps40
 by_cases he : s = [123, 125]
 · subst he
   have hXe : X = ([], 0) := by rw [HX.out]; unfold readT; rw [if_pos rfl]
   have HXe := Lib.hid hXe
   clear hXe
   go_wp2_with fail
   refine ret_c2 w.heap.size (words 0) rfl Tryz.isAgg79 Tryz.sizeOf79 rfl rfl (by simp [go_sem]) (by simp only [words_size]) ⟨by rw [HXe.out]; rfl, ?_⟩
   exact (((Below.refl _ w).alloc (Nat.le_refl _) _).alloc (by simp) _).alloc (by simp; omega) _
 · have he2 : (s == [123, 125]) = false := by simpa using he
   have HEx := Lib.hid he
   clear he
   go_wp2_with fail
   refine (cut_any 123 s _).mono ?_
   rintro e w1 ⟨rfl, hw1⟩
   have r0 : row? w1 w.heap.size = some (words 0) := by rw [hw1]; simp [go_sem]
   have r1 : row? w1 (w.heap.size + 1) = some (words 0) := by rw [hw1]; simp [go_sem]
   have r2 : row? w1 (w.heap.size + 1 + 1) = some #[.int .i64 (-1), .int .i64 0, .int .u8 0, .int .i64 0] := by rw [hw1]; simp [go_sem]
   have HB1 := Lib.hid (show Below w.heap.size w w1 from by rw [hw1]; exact (((Below.refl _ w).alloc (Nat.le_refl _) _).alloc (by simp) _).alloc (by simp; omega) _)
   have hsz : w1.heap.size = w.heap.size + 3 := by rw [hw1]; simp
   clear hw1
   cases hc : (cutB 123 s).2 with
   | false =>
     have HXe := Lib.hid (show X = ([], 3) from by rw [HX.out]; unfold readT; rw [if_neg HEx.out, if_neg (by rw [hc]; simp)])
     clear hc
     go_wp2_with fail
     refine ret_c2 w.heap.size (words 0) rfl Tryz.isAgg79 Tryz.sizeOf79 rfl rfl (row?_setRow_same _ _ _ (by first | (rw [r0]; rfl) | (simp only [go_sem, r0]; rfl))) (by simp only [words_size]) ⟨by rw [HXe.out]; rfl, below_setRow (HB1.out) (Nat.le_refl _) _⟩
   | true =>
     have hse := cutB_hit hc
     have hXe : X = readE G s.length (cutB 123 s).1 (-1, 0) [] := by rw [HX.out]; unfold readT; rw [if_neg HEx.out, if_pos hc]; exact readE_start ..
     obtain ⟨s1, hs1⟩ : ∃ s1, s1 = (cutB 123 s).1 := ⟨_, rfl⟩
     have hsl := congrArg List.length hse
     rw [← hs1] at hse hXe hsl ⊢
     rw [List.length_cons] at hsl
     have HXe := Lib.hid hXe
     clear hse hXe hs1 hc
     go_wp2_with fail
     go_loopw [8, 10] (fun rest more wr => ∃ (t : List UInt8) (l : List Nat) (p q : Int), rest = .string ⟨t.toArray⟩ ∧ t.length ≤ s.length ∧ row? wr w.heap.size = some (words 0) ∧ row? wr (w.heap.size + 1) = some (words (setL l)) ∧ row? wr (w.heap.size + 1 + 1) = some #[.int .i64 p, .int .i64 q, .int .u8 0, .int .i64 0] ∧ Below w.heap.size w wr ∧ w1.heap.size ≤ wr.heap.size ∧ ((more = .bool true ∧ ∃ n, X = readE G (n + 1) t (p, q) l ∧ t.length < n + 1) ∨ (more = .bool false ∧ X = if t = [125] then (l, 0) else ([], 3)))) (fun rest _ _ => lenS rest)
     case atStart => exact ⟨s1, [], -1, 0, rfl, by omega, r0, r1, r2, HB1.out, Nat.le_refl _, .inl ⟨rfl, s1.length, by rw [HXe.out, ← hsl], by omega⟩⟩
     case round =>
       clear r0 r1 r2
       obtain ⟨t, l, p, q, rfl, htl, r0, r1, r2, hb, hw, hm⟩ := hrel
       have HB := Lib.hid hb
       clear hb
       rcases hm with ⟨rfl, n, hx, hn⟩ | ⟨rfl, hx⟩
       · have HXn := Lib.hid hx
         clear hx
         go_wp2_with fail
         refine (end_any t (by omega) _ (HP.out.on HB.out) (HE.out.on HB.out)).mono ?_
         rintro e w2 ⟨hb2, h2⟩
         have HB2 := Lib.hid (HB.out.trans (hb2.mono HB.out.size))
         replace r0 := (row?_below hb2 (by omega)).trans r0
         replace r1 := (row?_below hb2 (by omega)).trans r1
         replace r2 := (row?_below hb2 (by omega)).trans r2
         have hw2 : w1.heap.size ≤ w2.heap.size := Nat.le_trans hw hb2.size
         clear hb2
         rcases h2 with ⟨u, v, r, h2, rfl⟩ | ⟨h2, u', v', b', rfl⟩
         · have H2 := Lib.hid h2
           obtain ⟨hu0, huv, hv0, hrl⟩ := endOf_le h2
           clear h2
           have HXs := Lib.hid (HXn.out.trans (readE_some H2.out (p, q) l))
           go_wp2_with fail
           refine (behind_any u v p q 0 0 _).mono ?_
           rintro e w3 ⟨rfl, hb3⟩
           have HB3 := Lib.hid (HB2.out.trans (hb3.mono HB2.out.size))
           replace r0 := (row?_below hb3 (by omega)).trans r0
           replace r1 := (row?_below hb3 (by omega)).trans r1
           replace r2 := (row?_below hb3 (by omega)).trans r2
           have hw3 : w1.heap.size ≤ w3.heap.size := Nat.le_trans hw2 hb3.size
           clear hb3
           cases hbe : behB u v (p, q) with
           | false =>
             have HXe := Lib.hid (HXs.out.trans (if_neg (by rw [hbe]; simp)))
             clear hbe
             go_wp2_with fail
             refine ret_c2 w.heap.size (words 0) rfl Tryz.isAgg79 Tryz.sizeOf79 rfl rfl (row?_setRow_same _ _ _ (by first | (rw [r0]; rfl) | (simp only [go_sem, r0]; rfl))) (by simp only [words_size]) ⟨by rw [HXe.out]; rfl, below_setRow (HB3.out) (Nat.le_refl _) _⟩
           | true =>
             have HXs := Lib.hid (HXs.out.trans (if_pos hbe))
             clear hbe
             have hbt : btw u v = (u, v) := by unfold btw; simp only [Prod.mk.injEq]; omega
             go_wp2_with fail
             refine (gedge_any _ G HG.out u v _ (GPtr.of (H0.out.below HB3.out))).mono ?_
             rintro e w4 ⟨h4, hb4⟩
             rw [hbt] at h4
             have HB4 := Lib.hid (HB3.out.trans (hb4.mono HB3.out.size))
             replace r0 := (row?_below hb4 (by omega)).trans r0
             replace r1 := (row?_below hb4 (by omega)).trans r1
             replace r2 := (row?_below hb4 (by omega)).trans r2
             have hw4 : w1.heap.size ≤ w4.heap.size := Nat.le_trans hw3 hb4.size
             have l0 : w.heap.size < w4.heap.size := by omega
             have l1 : w.heap.size + 1 < w4.heap.size := by omega
             have l2 : w.heap.size + 1 + 1 < w4.heap.size := by omega
             clear hb4
             rcases h4 with ⟨h4, rfl⟩ | ⟨k, th, hk, h4, rfl⟩
             · have HXe := Lib.hid (HXs.out.trans (if_pos (edgB_none HG.out huv h4)))
               clear h4
               have r0a : ∀ c, row? (w4.alloc (.cells c 134)) w.heap.size = some (words 0) := fun c => by simp [go_sem, r0, l0]
               go_wp2_with fail
               refine ret_c2 w.heap.size (words 0) rfl Tryz.isAgg79 Tryz.sizeOf79 rfl rfl (by simp [go_sem, r0, l0]) (by simp only [words_size]) ⟨by rw [HXe.out]; rfl, ?_⟩
               exact (below_setRow HB4.out (Nat.le_refl _) _).alloc (by simp; omega) _
             · have hidx := edgB_at HG.out huv hk
               have HXs := Lib.hid (HXs.out.trans (if_neg (by rw [hidx]; omega)))
               rw [hidx, Int.toNat_natCast] at HXs
               clear h4 hk hidx
               go_wp2_with fail
               refine (with_any (setL l) k _).mono ?_
               rintro e w5 ⟨rfl, hb5⟩
               have hB5 : Below w4.heap.size w4 w5 := ((Below.refl _ w4).alloc (Nat.le_refl _) _).trans (hb5.mono (by simp))
               have HB5 := Lib.hid (HB4.out.trans (hB5.mono HB4.out.size))
               rw [← setL_snoc]
               replace r0 := (row?_below hB5 (by omega)).trans r0
               replace r1 := (row?_below hB5 (by omega)).trans r1
               replace r2 := (row?_below hB5 (by omega)).trans r2
               have hw5 : w1.heap.size ≤ w5.heap.size := Nat.le_trans hw4 hB5.size
               clear hb5 hB5 l0 l1 l2
               go_wp2_with fail
               refine (cut_any 32 r _).mono ?_
               rintro e w6 ⟨rfl, hw6⟩
               have q0 : row? w6 w.heap.size = some (words 0) := by rw [hw6, row?_setRow_other _ _ _ _ (by omega), row?_setRow_other _ _ _ _ (by omega)]; exact r0
               have q1 : row? w6 (w.heap.size + 1) = some (words (setL (l ++ [k]))) := by rw [hw6, row?_setRow_other _ _ _ _ (by omega)]; exact row?_setRow_same _ _ _ (by rw [r1]; rfl)
               have q2 : row? w6 (w.heap.size + 1 + 1) = some #[.int .i64 u, .int .i64 v, .int .u8 0, .int .i64 0] := by rw [hw6]; exact row?_setRow_same _ _ _ (by rw [row?_setRow_other _ _ _ _ (by omega), r2]; rfl)
               have HB6 := Lib.hid (show Below w.heap.size w w6 from by rw [hw6]; exact below_setRow (below_setRow HB5.out (by omega) _) (by omega) _)
               have hw6s : w1.heap.size ≤ w6.heap.size := by rw [hw6]; simpa using hw5
               obtain ⟨m, rfl⟩ : ∃ m, n = m + 1 := ⟨n - 1, by omega⟩
               have hlen := cutB_len 32 r
               clear hw6 r0 r1 r2
               cases hc : (cutB 32 r).2 with
               | true =>
                 have HXe := Lib.hid (HXs.out.trans (if_pos hc))
                 clear hc
                 go_wp2_with fail
                 go_roundw
                 case rel => exact ⟨_, l ++ [k], u, v, rfl, by omega, q0, q1, q2, HB6.out, hw6s, .inl ⟨rfl, m, HXe.out, by omega⟩⟩
                 case measure => simp only [lenS_str]; omega
               | false =>
                 have hno : ¬ (cutB 32 r).2 = true := by rw [hc]; simp
                 have HXe := Lib.hid (HXs.out.trans (if_neg hno))
                 have hrr := cutB_no hno
                 clear hc hno hlen
                 rw [hrr]
                 clear hrr
                 go_wp2_with fail
                 go_roundw
                 case rel => exact ⟨_, l ++ [k], u, v, rfl, by omega, q0, q1, q2, HB6.out, hw6s, .inr ⟨rfl, HXe.out⟩⟩
                 case measure => simp only [lenS_str]; omega
         · have HXe := Lib.hid (HXn.out.trans (readE_none h2 (p, q) l))
           clear h2
           go_wp2_with fail
           refine ret_c2 w.heap.size (words 0) rfl Tryz.isAgg79 Tryz.sizeOf79 rfl rfl (row?_setRow_same _ _ _ (by first | (rw [r0]; rfl) | (simp only [go_sem, r0]; rfl))) (by simp only [words_size]) ⟨by rw [HXe.out]; rfl, below_setRow (HB2.out) (Nat.le_refl _) _⟩
       · have HXn := Lib.hid hx
         clear hx
         by_cases h125 : t = [125]
         · subst h125
           have HXe := Lib.hid (HXn.out.trans (if_pos rfl))
           go_wp2_with fail
           refine ret_c2 w.heap.size (words (setL l)) rfl Tryz.isAgg79 Tryz.sizeOf79 rfl rfl (row?_setRow_same _ _ _ (by rw [r0]; rfl)) (by simp only [words_size]) ⟨by rw [HXe.out]; rfl, below_setRow HB.out (Nat.le_refl _) _⟩
         · have h126 : (t == [125]) = false := by simpa using h125
           have h127 : (t != [125]) = true := by simpa using h125
           have HXe := Lib.hid (HXn.out.trans (if_neg h125))
           clear h125
           go_wp2_with fail
           refine ret_c2 w.heap.size (words 0) rfl Tryz.isAgg79 Tryz.sizeOf79 rfl rfl (row?_setRow_same _ _ _ (by first | (rw [r0]; rfl) | (simp only [go_sem, r0]; rfl))) (by simp only [words_size]) ⟨by rw [HXe.out]; rfl, below_setRow (HB.out) (Nat.le_refl _) _⟩
end Go.Proofs.YtglnhnjmelilmaaGreatDoor
