/- Walks: graphio's each with the line's number in the invariant; ParseEdits. -/
import Derived.Test.YtglnhnjmelilmaaGreatDoorRIZ
set_option maxHeartbeats 1000000
set_option maxRecDepth 10000
set_option linter.all false
namespace Go.Proofs.YtglnhnjmelilmaaGreatDoor
open Go Go.RowKit Go.Pal Go.Shelf
attribute [local go_sem] Oper.semAt_some
theorem each2_any {σ : Type} (f : σ → List UInt8 → σ × Nat) (I : Nat → σ → World → Prop) (N : Nat) (hN : N ≤ 1048576) (F : Nat) (bs lb : Array Value) (eg : ∀ args w, (callFunc F args).run Tryz.prog w = .ok (.enter F args) w)
   (hI : ∀ k x W W', I k x W → Below W.heap.size W W' → I k x W') (hMx : ∀ k x W, I k x W → Mxl W)
   (hcall : ∀ k x p W, k ≤ N + 1 → I k x W → p.length ≤ N → Calls Tryz.prog F (bs.push (.string ⟨p.toArray⟩) ++ lb) W fun e W' => e = .returned (.int .i64 ((f x p).2 : Nat)) ∧ I (k + 1) (f x p).1 W')
   (s : List UInt8) (hs : s.length ≤ N) (x : σ) (w : World) (hx : I 1 x w) :
   Calls Tryz.prog 63 #[.string ⟨s.toArray⟩, .func (.func F) bs lb] w fun e w' => e = .returned (.tuple #[.int .i64 ((linesP f x 1 (partsA 10 [] s)).2.1 : Nat), .int .i64 ((linesP f x 1 (partsA 10 [] s)).2.2 : Nat)]) ∧ ∃ k, k ≤ N + 2 ∧ I k (linesP f x 1 (partsA 10 [] s)).1 w' := by
 have HX := Lib.hid hx
 have HI := Lib.hid hI
 have HM := Lib.hid hMx
 have HC := Lib.hid hcall
 obtain ⟨X, hX⟩ : ∃ X, X = linesP f x 1 (partsA 10 [] s) := ⟨_, rfl⟩
 rw [← hX]
 have HX0 := Lib.hid hX
 have d0 : decide ((1048576 : Int) < (s.length : Int)) = false := decide_eq_false (by omega)
 clear hx hI hMx hcall hX
 go_enter Tryz.func63, Tryz.ntmps63
 go_wp2_with fail
 go_loopw [0, 6] (fun sv i wr => ∃ (t : List UInt8) (y : σ) (k : Nat), sv = .string ⟨t.toArray⟩ ∧ i = .int .i64 (k : Int) ∧ t.length + k ≤ s.length + 1 ∧ I k y wr ∧ X = linesP f y k (partsA 10 [] t)) (fun sv _ _ => strLen sv)
 case atStart => exact ⟨s, x, 1, rfl, rfl, by omega, HX.out, HX0.out⟩
 case round =>
   obtain ⟨t, y, k, rfl, rfl, hk, hy, hl⟩ := hrel
   have HY := Lib.hid hy
   have HL := Lib.hid hl
   clear hy hl
   by_cases ht : t = []
   · subst ht
     have HE := Lib.hid (show X = (y, 0, 0) from by rw [HL.out, partsA_nil, linesP_last, if_pos rfl])
     go_wp2_with fail
     go_ret2
     exact ⟨by rw [HE.out]; rfl, k, by omega, by rw [HE.out]; exact HY.out⟩
   · have h1 : (t == []) = false := by simpa using ht
     have h2 : (t != []) = true := by simpa using ht
     have HT := Lib.hid ht
     clear ht
     go_wp2_with fail
     refine (cut1_any 10 t (by omega) wr (HM.out k y wr HY.out)).mono ?_
     rintro e w1 ⟨rfl, hb1⟩
     have HY1 := Lib.hid (HI.out k y wr w1 HY.out hb1)
     clear hb1
     rcases first_of 10 t with hno | ⟨p, r, hpr, hp⟩
     · rw [cut1_no hno]
       have HE := Lib.hid (show X = (y, k, 4) from by rw [HL.out, partsA_none [] hno, List.nil_append, linesP_last, if_neg HT.out])
       clear hno
       go_wp2_with fail
       go_ret2
       exact ⟨by rw [HE.out]; rfl, k, by omega, by rw [HE.out]; exact HY1.out⟩
     · have hcu := cut1_at (r := r) hp
       rw [← hpr] at hcu
       rw [hcu]
       have hlen := congrArg List.length hpr
       rw [List.length_append, List.length_cons] at hlen
       have hl1 : p.length ≤ N := by omega
       have hl2 : r.length + 1 ≤ t.length := by omega
       have HE := Lib.hid (show X = if (f y p).2 = 0 then linesP f (f y p).1 (k + 1) (partsA 10 [] r) else ((f y p).1, k, (f y p).2) from by rw [HL.out, hpr, partsA_hit [] r hp, List.nil_append]; exact linesP_cons f y k p (partsA_ne 10 r []))
       have HCa := Lib.hid (HC.out k y p w1 (by omega) HY1.out hl1)
       clear hcu hlen hpr hp
       go_wp2_with fail
       refine HCa.out.mono ?_
       rintro e w2 ⟨rfl, h2⟩
       have HY2 := Lib.hid h2
       clear h2 HCa
       by_cases h0 : (f y p).2 = 0
       · have HE2 := Lib.hid (HE.out.trans (if_pos h0))
         rw [h0]
         clear h0
         go_wp2_with fail
         go_roundw
         case rel => exact ⟨r, (f y p).1, k + 1, rfl, by go_num, by omega, HY2.out, HE2.out⟩
         case measure => simp only [strLen_str]; omega
       · have HE2 := Lib.hid (HE.out.trans (if_neg h0))
         obtain ⟨q, hq⟩ : ∃ q, q = (f y p).2 := ⟨_, rfl⟩
         have HQ := Lib.hid hq
         rw [← hq] at h0 ⊢
         have e1 : ((q : Int) != 0) = true := by rw [bne_iff_ne]; omega
         have e2 : ¬ (q : Int) = 0 := by omega
         clear h0 hq
         go_wp2_with fail
         go_ret2
         exact ⟨by rw [HE2.out, HQ.out]; rfl, k + 1, by omega, by rw [HE2.out]; exact HY2.out⟩
def PlSt (w0 : World) (b k : Nat) (l : List Ed) (w : World) : Prop := ∃ v, row? w b = some #[v] ∧ OwnED (b + 1) w v l ∧ Below b w0 w ∧ l.length + 1 ≤ k
theorem PlSt.below {w0 w w' : World} {b k : Nat} {l : List Ed} (h : PlSt w0 b k l w) (hb : Below w.heap.size w w') : PlSt w0 b k l w' := by
 obtain ⟨v, h1, h2, h3, h4⟩ := h
 exact ⟨v, (row?_below hb (row?_lt h1)).trans h1, h2.below hb (Nat.le_refl _), h3.trans (hb.mono (Nat.le_of_lt (row?_lt h1))), h4⟩
theorem pedits1_any (w0 : World) (b k : Nat) (l : List Ed) (p : List UInt8) (hp : p.length ≤ 1048576) (w : World) (h : PlSt w0 b k l w) (hk : k ≤ 1048577) (hP : Pow w) (hE : Errs w) (hM : Mxl w) (hF : FormsOk w) :
   Calls Tryz.prog 70 #[.string ⟨p.toArray⟩, .pointer (some ⟨b, 0, none⟩)] w fun e w' => e = .returned (.int .i64 ((edLine l p).2 : Nat)) ∧ PlSt w0 b (k + 1) (edLine l p).1 w' := by
 obtain ⟨v, hr, hO, hb, hl⟩ := h
 obtain ⟨q, c, rfl⟩ := hO.sl
 have HR := Lib.hid hr
 have HO := Lib.hid hO
 have HB := Lib.hid hb
 have HPe := Lib.hid (pedit_any p hp w hP hE hM hF)
 unfold edLine
 simp only
 obtain ⟨Z, hZ⟩ : ∃ Z, Z = edRead p := ⟨_, rfl⟩
 rw [← hZ] at HPe ⊢
 obtain ⟨⟨zo, zu, zv, zl, zt⟩, zh⟩ := Z
 simp only at HPe ⊢
 rw [show edC ⟨zo, zu, zv, zl, zt⟩ = #[.int .i64 zo, .int .i64 zu, .int .i64 zv, .int .u8 (zl : Int), .int .i64 zt] from rfl] at HPe
 have HZc := Lib.hid (show edC ⟨zo, zu, zv, zl, zt⟩ = #[.int .i64 zo, .int .i64 zu, .int .i64 zv, .int .u8 (zl : Int), .int .i64 zt] from rfl)
 clear hr hO hb hZ hP hE hM hF
 go_enter Tryz.func70, Tryz.ntmps70
 go_wp2_with fail
 refine HPe.out.mono ?_
 rintro e w1 ⟨rfl, hb1⟩
 have hlt := row?_lt HR.out
 have hr1 := (row?_below hb1 hlt).trans HR.out
 have hlt1 := row?_lt hr1
 have HO1 := Lib.hid (HO.out.below hb1 (Nat.le_refl _))
 have HB1 := Lib.hid (HB.out.trans (hb1.mono (Nat.le_of_lt hlt)))
 have HR1 := Lib.hid hr1
 have k1 := (cell?_row (i := 0) hr1).trans rfl
 clear hb1 hr1 HPe HO HR
 go_wp2_with (at_builtin; refine wpList_appO elED 37 Tryz.underlying37 rfl _ _ rfl (b + 1) _ l rfl ((HO1.out.alloc _).alloc _) _ ⟨zo, zu, zv, zl, zt⟩ _ rfl (by rw [HZc.out]; exact row?_alloc_at _ _ _ _ (by simp)) (by omega) (by simp; omega) ?_)
 intro v' w6 hO6 hb6 _ _
 have hr6 : row? w6 b = some #[.slice q l.length c] := (row?_congr (hb6.block b (by omega))).trans ((row?_alloc_past _ _ _ (by simp; omega)).trans ((row?_alloc_past _ _ _ hlt1).trans HR1.out))
 have hfz6 := frozen?_row (i := 0) hr6
 have k6 := (cell?_row (i := 0) hr6).trans rfl
 have hlt6 := row?_lt hr6
 have HR6 := Lib.hid hr6
 have HO6 := Lib.hid hO6
 have HB6 := Lib.hid (((HB1.out.alloc (Nat.le_of_lt hlt1) _).alloc (by simp; omega) _).trans (hb6.mono (by omega)))
 obtain ⟨q6, c6, hs6⟩ := hO6.sl
 subst hs6
 clear hO6 hb6 hr6 k1
 go_wp2_with fail
 go_ret
 refine ⟨rfl, _, (row?_setCell_same _ _ _ _).trans (by rw [HR6.out]; rfl), ?_, HB6.out.trans ((Same.setCell _ _ _ _ (by omega : ¬ (b : Nat) < b)).below (Nat.le_of_lt hlt6) fun j hj => hj), by simp; omega⟩
 have hO6 := HO6.out
 rw [List.length_append] at hO6
 exact hO6.same fun g hg => heap_setCell_other _ _ g _ (by have := hO6.block g hg; show g ≠ b; omega)
def PEsRes (B : Nat) (X : List Ed × Nat × Nat) (e : Ending) (w' : World) : Prop :=
 (X.2.2 = 0 ∧ ∃ v, e = .returned (.tuple #[v, .int .i64 0, .int .i64 0]) ∧ OwnED B w' v X.1) ∨
 (X.2.2 ≠ 0 ∧ e = .returned (.tuple #[.slice none 0 0, .int .i64 (X.2.1 : Nat), .int .i64 (X.2.2 : Nat)]))
theorem pedits_any (s : List UInt8) (hs : s.length ≤ 1048576) (w : World) (hP : Pow w) (hE : Errs w) (hM : Mxl w) (hF : FormsOk w) :
   Calls Tryz.prog 25 #[.string ⟨s.toArray⟩] w fun e w' => PEsRes w.heap.size (readEds s) e w' ∧ Below w.heap.size w w' := by
 have HC := Lib.hid fun (k : Nat) (x : List Ed) (p : List UInt8) (W : World) (hk : k ≤ 1048576 + 1) (h : PlSt w w.heap.size k x W) (hp : p.length ≤ 1048576) => pedits1_any w w.heap.size k x p hp W h hk (hP.on h.choose_spec.2.2.1) (hE.on h.choose_spec.2.2.1) (hM.on h.choose_spec.2.2.1) (hF.on h.choose_spec.2.2.1)
 have HM := Lib.hid fun (k : Nat) (x : List Ed) (W : World) (h : PlSt w w.heap.size k x W) => hM.on h.choose_spec.2.2.1
 obtain ⟨X, hX⟩ : ∃ X, X = readEds s := ⟨_, rfl⟩
 rw [← hX]
 have HX := Lib.hid (show linesP edLine [] 1 (partsA 10 [] s) = X from hX.symm)
 clear hP hE hM hF hX
 go_enter Tryz.func25, Tryz.ntmps25
 go_wp2_with fail
 obtain ⟨W0, hW0⟩ : ∃ W0, W0 = w.alloc (.cells #[.slice none 0 0] 37) := ⟨_, rfl⟩
 have h0 : PlSt w w.heap.size 1 [] W0 := by rw [hW0]; exact ⟨_, row?_alloc_at _ _ _ _ rfl, OwnR.nil _ _, (Below.refl _ w).alloc (Nat.le_refl _) _, by simp⟩
 rw [← hW0]
 have HEach := Lib.hid (each2_any edLine (PlSt w w.heap.size) 1048576 (by decide) 70 #[] #[.pointer (some ⟨w.heap.size, 0, none⟩)] (fun args w => by simp [go_sem]) (fun k x W W' h hb => h.below hb) HM.out HC.out s hs [] W0 h0)
 rw [HX.out] at HEach
 clear hW0 h0
 refine HEach.out.mono ?_
 rintro e w1 ⟨rfl, k, hk, hst⟩
 obtain ⟨L, n, c⟩ := X
 simp only at hst ⊢
 obtain ⟨v, hr, hO, hb, -⟩ := hst
 have k1 := (cell?_row (i := 0) hr).trans rfl
 have HO := Lib.hid hO
 have HB := Lib.hid hb
 obtain ⟨q, cc, hsl⟩ := hO.sl
 subst hsl
 clear HEach hr hO hb
 by_cases hc : c = 0
 · subst hc
   go_wp2_with fail
   go_ret3
   exact ⟨.inl ⟨rfl, _, rfl, HO.out.lower (Nat.le_succ _)⟩, HB.out⟩
 · have e1 : ((c : Int) != 0) = true := by rw [bne_iff_ne]; omega
   have e2 : ¬ (c : Int) = 0 := by omega
   have HC0 := Lib.hid hc
   clear hc
   go_wp2_with fail
   go_ret3
   exact ⟨.inr ⟨HC0.out, rfl⟩, HB.out⟩
end Go.Proofs.YtglnhnjmelilmaaGreatDoor
