/- Walk: the reference's reading of a row of sets. -/
import Derived.Test.YtglnhnjmelilmaaGreatDoorSBI
set_option linter.all false
namespace Go.Pal
open Go Go.RowKit
theorem parts2_skip {a r : List UInt8} {x : UInt8} (h : x = 59 → ∀ y t, r = y :: t → ¬ y = 32) : parts2 a (x :: r) = parts2 (a ++ [x]) r := by
 cases r with
 | nil => rw [parts2_one, parts2_nil]
 | cons y t => rw [parts2_two, if_neg fun e => h e.1 y t rfl e.2]
theorem rr_skip {s : List UInt8} {X : List Nat × Nat} {acc : List Nat} {p i : Nat} {x : UInt8} (hpi : p ≤ i) (hx : s[i]? = some x) (hX : X = foldR acc (parts2 ((s.drop p).take (i - p)) (s.drop i))) (hn : x = 59 → s[i + 1]? ≠ some 32) : X = foldR acc (parts2 ((s.drop p).take (i + 1 - p)) (s.drop (i + 1))) := by
 rw [hX, drop_head hx, take_more hpi hx, parts2_skip]
 intro e y t ht hy
 refine hn e ?_
 have : (s.drop (i + 1))[0]? = some y := by rw [ht]; rfl
 rw [List.getElem?_drop, Nat.add_zero] at this
 rw [this, hy]
theorem rr_mark {s : List UInt8} {X : List Nat × Nat} {acc : List Nat} {p i : Nat} (hx : s[i]? = some 59) (hy : s[i + 1]? = some 32) (hX : X = foldR acc (parts2 ((s.drop p).take (i - p)) (s.drop i))) : X = foldR acc (((s.drop p).take (i - p)) :: parts2 [] (s.drop (i + 2))) := by
 rw [hX, drop_head hx, drop_head hy, parts2_two, if_pos ⟨rfl, rfl⟩]
theorem rr_end {s : List UInt8} {X : List Nat × Nat} {acc : List Nat} {p : Nat} (hX : X = foldR acc (parts2 ((s.drop p).take (s.length - p)) (s.drop s.length))) : X = foldR acc (((s.drop p).take (s.length - p)) :: []) := by
 rw [hX, List.drop_eq_nil_of_le (Nat.le_refl _), parts2_nil]
def RrGo (s : List UInt8) (X : List Nat × Nat) (acc : List Nat) (p i : Nat) : Prop :=
 (p ≤ i ∧ i ≤ s.length ∧ X = foldR acc (parts2 ((s.drop p).take (i - p)) (s.drop i))) ∨ (i + 1 = p ∧ s[i]? = some 32 ∧ X = foldR acc (parts2 [] (s.drop p))) ∨ (i = s.length + 1 ∧ X = (acc, 0))
end Go.Pal
namespace Go.Proofs.YtglnhnjmelilmaaGreatDoor
open Go Go.RowKit Go.Pal Go.Shelf
attribute [local go_sem] Oper.semAt_some str_get str_part
set_option maxRecDepth 10000 in
set_option maxHeartbeats 4000000 in
theorem rreadRows_any (s : List UInt8) (hs : s.length ≤ 100000) (w : World) :
   Calls Tryz.prog 32 #[.string ⟨s.toArray⟩] w fun e w' => ∃ v, e = .returned (.tuple #[v, .int .i64 ((readRows s).2 : Nat)]) ∧ RowsOk w' v (readRows s).1 ∧ Below w.heap.size w w' := by
 obtain ⟨X, hX⟩ : ∃ X, X = readRows s := ⟨_, rfl⟩
 rw [← hX]
 have HX := Lib.hid hX
 have HXs := Lib.hid (show s ≠ [45] → X = foldR [] (parts2 [] s) from fun h => by rw [hX]; unfold readRows; rw [if_neg h])
 clear hX
 go_enter Tryz.func32, Tryz.ntmps32
 by_cases h45 : s = [45]
 · have HE := Lib.hid (show X = ([], 0) from by rw [HX.out]; unfold readRows; rw [if_pos h45])
   subst h45
   go_wp2_with fail
   go_ret2
   exact ⟨_, by rw [HE.out]; rfl, by rw [HE.out]; exact RowsOk.nil _, Below.refl _ _⟩
 · have e45 : (s == [45]) = false := by simpa using h45
   have HX0 := Lib.hid (HXs.out h45)
   clear h45
   go_wp2_with fail
   go_loopw [4, 5, 6] (fun out pv iv wr => ∃ (p i : Nat) (Ls : List (Option Addr × Nat × Nat)) (acc : List Nat), pv = .int .i64 (p : Int) ∧ iv = .int .i64 (i : Int) ∧ p ≤ s.length + 2 ∧ LsSt w.heap.size wr out Ls acc ∧ Ls.length ≤ i ∧ RrGo s X acc p i ∧ Below w.heap.size w wr) (fun _ _ i _ => s.length + 1 - (intOf i).toNat)
   case atStart => exact ⟨0, 0, [], [], rfl, rfl, by omega, LsSt.nil _ _, Nat.le_refl _, .inl ⟨Nat.le_refl _, Nat.zero_le _, by rw [HX0.out]; rfl⟩, Below.refl _ _⟩
   case round =>
     obtain ⟨p, i, Ls, acc, rfl, rfl, hp, hO, hLi, hG, hb⟩ := hrel
     have HO := Lib.hid hO
     have HB := Lib.hid hb
     have hsz := hb.size
     have HLn := Lib.hid hO.sets.1
     obtain ⟨qo, co, hsl⟩ := hO.out.sl
     subst hsl
     clear hO hb
     rcases hG with ⟨hpi, hi, hx⟩ | ⟨hpi, hx, hr⟩ | ⟨rfl, hr⟩
     · have HXi := Lib.hid hx
       have hii : decide ((i : Int) ≤ (s.length : Int)) = true := decide_eq_true (by omega)
       have hiI : (i : Int) ≤ (s.length : Int) := by omega
       clear hx
       by_cases hlt : i < s.length
       · obtain ⟨x, hx⟩ : ∃ x, s[i]? = some x := ⟨_, List.getElem?_eq_getElem hlt⟩
         have HXq := Lib.hid hx
         obtain ⟨hk4, hx4⟩ := List.getElem?_eq_some_iff.1 hx
         have hql : decide ((i : Int) < (s.length : Int)) = true := decide_eq_true (by omega)
         have hqi : (i : Int) < (s.length : Int) := by omega
         clear hx
         by_cases h59 : x = 59
         · subst h59
           by_cases hl1 : i + 1 = s.length
           · have e1 : decide ((i : Int) + 1 = (s.length : Int)) = true := decide_eq_true (by omega)
             have HN := Lib.hid (rr_skip hpi HXq.out HXi.out fun _ e => by rw [List.getElem?_eq_none (by omega)] at e; cases e)
             have HL1 := Lib.hid hl1
             have e2 : ((i : Int) + 1 == (s.length : Int)) = true := by rw [beq_iff_eq]; omega
             clear hl1
             go_wp2_with fail
             go_roundw
             case rel => exact ⟨p, i + 1, Ls, acc, rfl, by go_num, hp, HO.out, by omega, .inl ⟨by omega, by omega, HN.out⟩, HB.out⟩
             case measure => simp [intOf]; omega
           · obtain ⟨y, hy⟩ : ∃ y, s[i + 1]? = some y := ⟨_, List.getElem?_eq_getElem (by omega)⟩
             have HYq := Lib.hid hy
             obtain ⟨hk5, hy5⟩ := List.getElem?_eq_some_iff.1 hy
             have e2 : ((i : Int) + 1 == (s.length : Int)) = false := beq_false_of_ne (by omega)
             have e3 : ¬ (i : Int) + 1 = (s.length : Int) := by omega
             clear hl1 hy
             by_cases h32 : y = 32
             · subst h32
               have HM := Lib.hid (rr_mark HXq.out HYq.out HXi.out)
               obtain ⟨q, hq⟩ : ∃ q, q = (s.drop p).take (i - p) := ⟨_, rfl⟩
               have hql2 : q.length ≤ 100000 := by rw [hq, List.length_take, List.length_drop]; omega
               have HQ := Lib.hid hq
               rw [← hq] at HM
               clear hq
               have HD := Lib.hid (HM.out.trans (foldR_cons acc q _))
               have HPa := Lib.hid (rparse01_any q hql2)
               have HUp := Lib.hid (readSet_up q)
               obtain ⟨RS, hRS⟩ : ∃ RS, RS = readSet q := ⟨_, rfl⟩
               rw [← hRS] at HD HPa HUp
               obtain ⟨rl, rc⟩ := RS
               simp only at HD HPa HUp
               clear hRS HM
               go_wp2_with fail
               rw [← HQ.out]
               refine (HPa.out wr).mono ?_
               rintro e w2 ⟨v, rfl, hOx, hb2⟩
               obtain ⟨qx, cx, hslx⟩ := hOx.sl
               subst hslx
               have HBr := Lib.hid hb2
               have HO2 := Lib.hid (HO.out.below hb2)
               have HB2 := Lib.hid (HB.out.trans (hb2.mono hsz))
               have hs2 := HB2.out.size
               obtain ⟨nx, hnx⟩ : ∃ n, n = (rl.map fun (k : Nat) => (k : Int)).length := ⟨_, rfl⟩
               rw [← hnx] at hOx ⊢
               have HOx := Lib.hid (show OwnI wr.heap.size w2 (.slice qx nx cx) (elemsI (setL rl)) from by rw [elems_setL HUp.out.1 HUp.out.2.1]; exact hOx)
               clear hOx hb2 hnx HPa
               by_cases hc0 : rc = 0
               case neg =>
                 have HE := Lib.hid (HD.out.trans (if_neg hc0))
                 have e1 : ((rc : Int) != 0) = true := by rw [bne_iff_ne]; omega
                 have e2 : ¬ (rc : Int) = 0 := by omega
                 clear hc0
                 go_wp2_with fail
                 go_ret2
                 exact ⟨_, by rw [HE.out]; rfl, by rw [HE.out]; exact RowsOk.nil _, HB2.out⟩
               subst hc0
               have HE := Lib.hid (HD.out.trans (if_pos rfl))
               go_wp2_with (at_builtin; refine wpList_appO elRS 64 Tryz.underlying64 rfl _ _ rfl w.heap.size _ Ls rfl (HO2.out.out.alloc _) _ (qx, nx, cx) _ rfl (row?_alloc_at _ _ _ _ rfl) (by omega) (by simp; omega) ?_)
               intro v' w6 hO6 hb6 hg6 hl6
               have hsx := HBr.out.size
               have hgr : ∀ j, j < w2.heap.size → (Value.slice qo Ls.length co).ownBlock ≠ some j → w6.heap[j]? = w2.heap[j]? := fun j hj hne => (hg6.block j (by simp; omega) (fun e => hne e.symm)).trans (Below.heap_alloc _ _ _ hj)
               have HS6 := Lib.hid (LsSt.snoc HO2.out (s := (qx, nx, cx)) (S := setL rl) (HOx.out.rdaOf fun j hj e => by
                 have h1 := HOx.out.block j hj
                 have h2 := HO.out.out.lt j e
                 omega) hO6 hgr (by have := hg6.size; simp at this; omega) (hl6.imp id fun e => ⟨_, e, by simp⟩))
               have HB6 := Lib.hid ((HB2.out.alloc hs2 _).trans hb6)
               obtain ⟨q6, c6, hs6⟩ := hO6.sl
               subst hs6
               clear hO6 hb6 hg6 hl6 hgr
               go_wp2_with fail
               go_roundw
               case rel => exact ⟨i + 2, i + 1, _, _, by go_num, by go_num, by omega, HS6.out, by simp; omega, .inr (.inl ⟨rfl, HYq.out, HE.out⟩), HB6.out⟩
               case measure => simp [intOf]; omega
             · have f1 : ((y.toNat : Int) != 32) = true := by
                 rw [bne_iff_ne]
                 intro e
                 exact h32 (UInt8.toNat_inj.1 (by rw [show (32 : UInt8).toNat = 32 from rfl]; omega))
               have HN := Lib.hid (rr_skip hpi HXq.out HXi.out fun _ e => h32 (Option.some.inj (HYq.out.symm.trans e)))
               clear h32
               go_wp2_with fail
               go_roundw
               case rel => exact ⟨p, i + 1, Ls, acc, rfl, by go_num, hp, HO.out, by omega, .inl ⟨by omega, by omega, HN.out⟩, HB.out⟩
               case measure => simp [intOf]; omega
         · have f1 : ((x.toNat : Int) != 59) = true := by
             rw [bne_iff_ne]
             intro e
             exact h59 (UInt8.toNat_inj.1 (by rw [show (59 : UInt8).toNat = 59 from rfl]; omega))
           have HN := Lib.hid (rr_skip hpi HXq.out HXi.out fun e => absurd e h59)
           clear h59
           go_wp2_with fail
           go_roundw
           case rel => exact ⟨p, i + 1, Ls, acc, rfl, by go_num, hp, HO.out, by omega, .inl ⟨by omega, by omega, HN.out⟩, HB.out⟩
           case measure => simp [intOf]; omega
       · obtain rfl : i = s.length := by omega
         have HM := Lib.hid (rr_end HXi.out)
         obtain ⟨q, hq⟩ : ∃ q, q = (s.drop p).take (s.length - p) := ⟨_, rfl⟩
         have hql2 : q.length ≤ 100000 := by rw [hq, List.length_take, List.length_drop]; omega
         have HQ := Lib.hid hq
         rw [← hq] at HM
         clear hq
         have HD := Lib.hid (HM.out.trans (foldR_cons acc q _))
         have HPa := Lib.hid (rparse01_any q hql2)
         have HUp := Lib.hid (readSet_up q)
         obtain ⟨RS, hRS⟩ : ∃ RS, RS = readSet q := ⟨_, rfl⟩
         rw [← hRS] at HD HPa HUp
         obtain ⟨rl, rc⟩ := RS
         simp only at HD HPa HUp
         clear hRS HM
         go_wp2_with fail
         rw [← HQ.out]
         refine (HPa.out wr).mono ?_
         rintro e w2 ⟨v, rfl, hOx, hb2⟩
         obtain ⟨qx, cx, hslx⟩ := hOx.sl
         subst hslx
         have HBr := Lib.hid hb2
         have HO2 := Lib.hid (HO.out.below hb2)
         have HB2 := Lib.hid (HB.out.trans (hb2.mono hsz))
         have hs2 := HB2.out.size
         obtain ⟨nx, hnx⟩ : ∃ n, n = (rl.map fun (k : Nat) => (k : Int)).length := ⟨_, rfl⟩
         rw [← hnx] at hOx ⊢
         have HOx := Lib.hid (show OwnI wr.heap.size w2 (.slice qx nx cx) (elemsI (setL rl)) from by rw [elems_setL HUp.out.1 HUp.out.2.1]; exact hOx)
         clear hOx hb2 hnx HPa
         by_cases hc0 : rc = 0
         case neg =>
           have HE := Lib.hid (HD.out.trans (if_neg hc0))
           have e1 : ((rc : Int) != 0) = true := by rw [bne_iff_ne]; omega
           have e2 : ¬ (rc : Int) = 0 := by omega
           clear hc0
           go_wp2_with fail
           go_ret2
           exact ⟨_, by rw [HE.out]; rfl, by rw [HE.out]; exact RowsOk.nil _, HB2.out⟩
         subst hc0
         have HE := Lib.hid (HD.out.trans (if_pos rfl))
         go_wp2_with (at_builtin; refine wpList_appO elRS 64 Tryz.underlying64 rfl _ _ rfl w.heap.size _ Ls rfl (HO2.out.out.alloc _) _ (qx, nx, cx) _ rfl (row?_alloc_at _ _ _ _ rfl) (by omega) (by simp; omega) ?_)
         intro v' w6 hO6 hb6 hg6 hl6
         have hsx := HBr.out.size
         have hgr : ∀ j, j < w2.heap.size → (Value.slice qo Ls.length co).ownBlock ≠ some j → w6.heap[j]? = w2.heap[j]? := fun j hj hne => (hg6.block j (by simp; omega) (fun e => hne e.symm)).trans (Below.heap_alloc _ _ _ hj)
         have HS6 := Lib.hid (LsSt.snoc HO2.out (s := (qx, nx, cx)) (S := setL rl) (HOx.out.rdaOf fun j hj e => by
           have h1 := HOx.out.block j hj
           have h2 := HO.out.out.lt j e
           omega) hO6 hgr (by have := hg6.size; simp at this; omega) (hl6.imp id fun e => ⟨_, e, by simp⟩))
         have HB6 := Lib.hid ((HB2.out.alloc hs2 _).trans hb6)
         obtain ⟨q6, c6, hs6⟩ := hO6.sl
         subst hs6
         clear hO6 hb6 hg6 hl6 hgr
         go_wp2_with fail
         go_roundw
         case rel => exact ⟨s.length + 2, s.length + 1, _, _, by go_num, by go_num, by omega, HS6.out, by simp; omega, .inr (.inr ⟨rfl, HE.out⟩), HB6.out⟩
         case measure => simp [intOf]
     · obtain ⟨hk4, hx4⟩ := List.getElem?_eq_some_iff.1 hx
       have hii : decide ((i : Int) ≤ (s.length : Int)) = true := decide_eq_true (by omega)
       have hiI : (i : Int) ≤ (s.length : Int) := by omega
       have hql : decide ((i : Int) < (s.length : Int)) = true := decide_eq_true (by omega)
       have hqi : (i : Int) < (s.length : Int) := by omega
       have HR := Lib.hid hr
       clear hx hr
       go_wp2_with fail
       go_roundw
       case rel => exact ⟨p, i + 1, Ls, acc, rfl, by go_num, hp, HO.out, by omega, .inl ⟨by omega, by omega, by rw [HR.out, hpi, Nat.sub_self, List.take_zero]⟩, HB.out⟩
       case measure => simp [intOf]; omega
     · have HR := Lib.hid hr
       have hii : decide (((s.length + 1 : Nat) : Int) ≤ (s.length : Int)) = false := decide_eq_false (by omega)
       have hiI : ¬ ((s.length + 1 : Nat) : Int) ≤ (s.length : Int) := by omega
       clear hr
       go_wp2_with fail
       go_ret2
       exact ⟨_, by rw [HR.out]; rfl, by rw [HR.out]; exact HO.out.rows, HB.out⟩
end Go.Proofs.YtglnhnjmelilmaaGreatDoor
