/- Walk: the reference's ReadEnds. -/
import Derived.Test.YtglnhnjmelilmaaGreatDoorQZa
import Derived.Test.YtglnhnjmelilmaaGreatDoorQWf
import Derived.Test.YtglnhnjmelilmaaGreatDoorQHE
import Derived.Test.YtglnhnjmelilmaaGreatDoorQWw
set_option linter.all false
namespace Go.Proofs.YtglnhnjmelilmaaGreatDoor
open Go Go.RowKit Go.Pal Go.Shelf
attribute [local go_sem] Oper.semAt_some str_get str_part
@[go_sem ↓ high] theorem loadT2 (a : Addr) : loadVar 191 a = loadLater 191 a := rfl
@[go_sem ↓ high] theorem storeT2 (a : Addr) (v : Value) : storeVar 191 a v = storeLater 191 a v := rfl
@[go_sem] theorem loadT2_run (w : World) (a : Addr) : (loadLater 191 a).run Tryz.prog w = rowLoad Tryz.prog 191 a w := rfl
@[go_sem] theorem storeT2_run (w : World) (a : Addr) (v : Value) : (storeLater 191 a v).run Tryz.prog w = rowStore Tryz.prog 191 a v w := rfl
@[go_sem] theorem loadT2_at (w : World) (g : Nat) : rowLoad Tryz.prog 191 ⟨g, 0, none⟩ w = match row? w g with
     | some c => if c.size = 2 then .ok (.agg c) w else laterLoad Tryz.prog 191 ⟨g, 0, none⟩ w
     | none => laterLoad Tryz.prog 191 ⟨g, 0, none⟩ w := load_row Tryz.isAgg191 Tryz.sizeOf191 w g
@[go_sem] theorem storeT2_at (w : World) (g : Nat) (d : Array Value) : rowStore Tryz.prog 191 ⟨g, 0, none⟩ (.agg d) w = match row? w g with
     | some c => if c.size = 2 ∧ d.size = 2 ∧ allOne d = true then .ok () (w.setRow g d) else laterStore Tryz.prog 191 ⟨g, 0, none⟩ (.agg d) w
     | none => laterStore Tryz.prog 191 ⟨g, 0, none⟩ (.agg d) w := store_row Tryz.sizeOf191 w g d
@[go_sem ↓ high] theorem zeroT2 (w : World) : (zeroValue 191).run Tryz.prog w = .ok (.agg #[.int .i64 0, .int .i64 0]) w := by kernel_rfl
@[go_sem ↓ high] theorem buildT2 (a b : Int) (w : World) : (Instr.build 191 #[(0, .int .i64 a), (1, .int .i64 b)]).run Tryz.prog w = .ok (.agg #[.int .i64 a, .int .i64 b]) w := by kernel_rfl
set_option maxRecDepth 10000 in
set_option maxHeartbeats 1000000 in
theorem rread_any (G : Gr) (hG : G.Ok) (s : List UInt8) (hs : s.length ≤ 3000) (vV vE : Value) (w : World) (hg : RefG w vV vE G) :
   Calls Tryz.prog 41 #[.agg #[vV, vE], .string ⟨s.toArray⟩] w fun e w' => ∃ v, e = .returned (.tuple #[v, .int .i64 ((readT G s).2 : Nat)]) ∧ RdL w' v ((readT G s).1.map fun (k : Nat) => (k : Int)) ∧ Below w.heap.size w w' := by
 have HG := Lib.hid hG
 have HR := Lib.hid hg
 obtain ⟨aV, cV, rfl⟩ := hg.1.sl
 obtain ⟨aE, cE, rfl⟩ := hg.2.sl
 obtain ⟨LV, hLV⟩ : ∃ n, n = G.V.length := ⟨_, rfl⟩
 obtain ⟨LE, hLE⟩ : ∃ n, n = G.E.length := ⟨_, rfl⟩
 have hm := hG.most
 rw [← hLV, ← hLE] at HR
 rw [← hLV, ← hLE]
 have HLE := Lib.hid hLE
 rw [← hLE] at hm
 obtain ⟨X, hX⟩ : ∃ X, X = readT G s := ⟨_, rfl⟩
 have HX := Lib.hid hX
 rw [← hX]
 clear hG hg hX hLV hLE
 go_enter Tryz.func41, Tryz.ntmps41
 by_cases he : s = [123, 125]
 · have HXe := Lib.hid (show X = ([], 0) from by rw [HX.out]; unfold readT; rw [if_pos he])
   subst he
   go_wp2_with fail
   go_ret2
   exact ⟨_, by rw [HXe.out]; rfl, by rw [HXe.out]; exact (OwnI.nil 0 _).rdl, (Below.refl _ w).alloc (Nat.le_refl _) _⟩
 · have he2 : (s == [123, 125]) = false := by simpa using he
   have HEx := Lib.hid he
   clear he
   by_cases hs0 : s.length = 0
   · obtain rfl : s = [] := List.length_eq_zero_iff.1 hs0
     have HXe := Lib.hid (show X = ([], 3) from by rw [HX.out]; rfl)
     go_wp2_with fail
     go_ret2
     exact ⟨_, by rw [HXe.out]; rfl, by rw [HXe.out]; exact (OwnI.nil 0 _).rdl, (Below.refl _ w).alloc (Nat.le_refl _) _⟩
   · obtain ⟨c, hcx⟩ : ∃ c, s[0]? = some c := ⟨_, List.getElem?_eq_getElem (by omega)⟩
     have hcon : s = c :: s.drop 1 := by
       cases s with
       | nil => cases hcx
       | cons c' t => cases hcx; rfl
     have HCon := Lib.hid hcon
     obtain ⟨hk2, hx2⟩ := List.getElem?_eq_some_iff.1 hcx
     have hs1 : ((s.length : Int) == 0) = false := beq_false_of_ne (by omega)
     have hs2 : ¬ (s.length : Int) = 0 := by omega
     clear hcx hcon
     by_cases hc : c.toNat = 123
     · have hc2 : ((c.toNat : Int) != 123) = false := by simp; omega
       obtain rfl : c = 123 := UInt8.toNat_inj.1 hc
       have HXe := Lib.hid (show X = readE G s.length (s.drop 1) (-1, -1) [] from by
         rw [HX.out]
         unfold readT
         have e : cutB 123 s = (s.drop 1, true) := by rw [HCon.out, cutB_cons, if_pos rfl]; rfl
         rw [if_neg HEx.out, e, if_pos rfl])
       go_wp2_with fail
       generalize hW1 : World.alloc (World.alloc w _) _ = W1
       have r0 : row? W1 w.heap.size = some #[.slice aV LV cV, .slice aE LE cE] := by rw [← hW1]; simp [go_sem]
       have r8 : row? W1 (w.heap.size + 1) = some #[.int .i64 (-1), .int .i64 (-1)] := by rw [← hW1]; simp [go_sem]
       have HB1 := Lib.hid (show Below w.heap.size w W1 from by rw [← hW1]; exact ((Below.refl _ w).alloc (Nat.le_refl _) _).alloc (by simp) _)
       have hsz : W1.heap.size = w.heap.size + 2 := by rw [← hW1]; simp
       clear hW1 hc hc2 HEx HX he2 HCon hx2 hk2
       go_loopw [6, 7] (fun out i wr => ∃ (a n : Nat) (l : List Nat) (p q : Int), i = .int .i64 (a : Int) ∧ a ≤ s.length ∧ OwnI (w.heap.size + 2) wr out (l.map fun (k : Nat) => (k : Int)) ∧ l.length ≤ a ∧ row? wr w.heap.size = some #[.slice aV LV cV, .slice aE LE cE] ∧ row? wr (w.heap.size + 1) = some #[.int .i64 p, .int .i64 q] ∧ Below w.heap.size w wr ∧ w.heap.size + 2 ≤ wr.heap.size ∧ X = readE G (n + 1) (s.drop a) (p, q) l ∧ s.length ≤ n + a) (fun _ i _ => s.length - (intOf i).toNat)
       case atStart => exact ⟨1, s.length - 1, [], -1, -1, rfl, by omega, OwnI.nil _ _, by simp, r0, r8, HB1.out, by omega, by rw [HXe.out, show s.length - 1 + 1 = s.length by omega], by omega⟩
       case round =>
         rename World => Wo
         clear r0 r8
         obtain ⟨a, n, l, p, q, rfl, hal, hO, hll, r0, r8, hb, hw, hx, hn⟩ := hrel
         have HO := Lib.hid hO
         have HB := Lib.hid hb
         have HXn := Lib.hid hx
         clear hO hb hx HXe HB1
         go_wp2_with fail
         generalize hW2 : World.alloc Wo _ = W2
         have r9 : row? W2 Wo.heap.size = some #[.int .i64 0, .int .i64 0] := by rw [← hW2]; simp [go_sem]
         have HBa := Lib.hid (show Below Wo.heap.size Wo W2 from by rw [← hW2]; exact (Below.refl _ Wo).alloc (Nat.le_refl _) _)
         have hsz2 : W2.heap.size = Wo.heap.size + 1 := by rw [← hW2]; simp
         clear hW2
         go_loopw [7, 10] (fun at_ i wr2 => ∃ (b : Nat) (k x y : Int), at_ = .int .i64 (b : Int) ∧ i = .int .i64 k ∧ a ≤ b ∧ b ≤ s.length ∧ row? wr2 Wo.heap.size = some #[.int .i64 x, .int .i64 y] ∧ Below Wo.heap.size Wo wr2 ∧ Wo.heap.size < wr2.heap.size ∧ ((k = 0 ∧ b = a ∧ x = 0 ∧ y = 0) ∨ (k = 1 ∧ y = 0 ∧ numb (digs (s.drop a)) = some x ∧ ∃ c, c.toNat = 45 ∧ (s.drop a).drop (digs (s.drop a)).length = c :: s.drop b) ∨ (k = 2 ∧ endOf (s.drop a) = if x < y then some (x, y, s.drop b) else none))) (fun _ i _ => 2 - (intOf i).toNat)
         case atStart => exact ⟨a, 0, 0, 0, rfl, rfl, Nat.le_refl _, hal, r9, HBa.out, by omega, .inl ⟨rfl, rfl, rfl, rfl⟩⟩
         case round =>
           rename World => wr2
           clear r9 HBa hsz2
           obtain ⟨b, k, ex, ey, rfl, rfl, hab, hbl, r9, hb2, hw2, hst⟩ := hrel
           have HBw := Lib.hid (HB.out.trans (hb2.mono HB.out.size))
           have HB2 := Lib.hid hb2
           replace r0 := (row?_below hb2 (by omega)).trans r0
           replace r8 := (row?_below hb2 (by omega)).trans r8
           clear hb2
           rcases hst with ⟨rfl, hba, rfl, rfl⟩ | ⟨rfl, rfl, hu, hc⟩ | ⟨rfl, hend⟩
           · have hba2 := hba.symm
             subst hba2
             clear hba hab
             go_wp2_with fail
             go_loopw [7] (fun i wr3 => ∃ m : Nat, a ≤ m ∧ m ≤ s.length ∧ i = .int .i64 (m : Int) ∧ (∀ x ∈ (s.drop a).take (m - a), isDig x) ∧ Below wr2.heap.size wr2 wr3) (fun i _ => s.length - (intOf i).toNat)
             case atStart => exact ⟨a, Nat.le_refl _, by omega, rfl, by simp, Below.refl _ _⟩
             case round =>
               obtain ⟨m, hbm, hml, rfl, hD, hb3⟩ := hrel
               have HD := Lib.hid hD
               have HB3 := Lib.hid hb3
               clear hD hb3
               by_cases hlt : m < s.length
               · obtain ⟨x, hx⟩ : ∃ x, s[m]? = some x := ⟨_, List.getElem?_eq_getElem hlt⟩
                 have HX3 := Lib.hid hx
                 have HXd := Lib.hid (show (s.drop a)[m - a]? = some x from by rw [List.getElem?_drop, show a + (m - a) = m by omega]; exact hx)
                 obtain ⟨hk2, hx2⟩ := List.getElem?_eq_some_iff.1 hx
                 clear hx
                 by_cases hd : isDig x
                 · have d1 : decide ((48 : Int) ≤ (x.toNat : Int)) = true := decide_eq_true (by have := hd.1; omega)
                   have d2 : decide ((x.toNat : Int) ≤ 57) = true := decide_eq_true (by have := hd.2; omega)
                   have d3 : (48 : Int) ≤ (x.toNat : Int) := by have := hd.1; omega
                   have d4 : (x.toNat : Int) ≤ 57 := by have := hd.2; omega
                   go_wp2_with fail
                   go_roundw
                   case rel =>
                     refine ⟨m + 1, by omega, by omega, by go_num, ?_, HB3.out⟩
                     intro y hy
                     rw [show m + 1 - a = (m - a) + 1 by omega, List.take_add_one, HXd.out, Option.toList_some, List.mem_append, List.mem_singleton] at hy
                     rcases hy with hy | rfl
                     · exact HD.out y hy
                     · exact hd
                   case measure => simp [intOf]; omega
                 · by_cases d0 : x.toNat < 48
                   · have d1 : decide ((48 : Int) ≤ (x.toNat : Int)) = false := decide_eq_false (by omega)
                     have d3 : ¬ (48 : Int) ≤ (x.toNat : Int) := by omega
                     have HDG := Lib.hid (digs_stop HD.out (fun y hy => by rw [HXd.out] at hy; cases hy; exact hd))
                     have hdl : (digs (s.drop a)).length = m - a := by rw [HDG.out, List.length_take, List.length_drop]; omega
                     have HDr := Lib.hid (show (s.drop a).drop (digs (s.drop a)).length = s.drop m from by rw [hdl, List.drop_drop]; congr 1; omega)
                     clear hdl
                     go_wp2_with fail
                     refine (rnumber_any ((s.drop a).take (m - a)) (by rw [List.length_take, List.length_drop]; omega) _).mono ?_
                     rintro e w3 ⟨hb3, h⟩
                     have HB4 := Lib.hid (HB3.out.trans (hb3.mono HB3.out.size))
                     replace r9 := (row?_below HB4.out (by omega)).trans r9
                     clear hb3
                     rw [← HDG.out] at h
                     rcases h with ⟨u, hu, rfl⟩ | ⟨hu, rfl⟩
                     · have HU := Lib.hid hu
                       clear hu
                       have c9 : w3.cell? ⟨Wo.heap.size, 0, none⟩ = some (.int .i64 0) := (cell?_row (i := 0) r9).trans rfl
                       have f9 : w3.frozen? ⟨Wo.heap.size, 0, none⟩ = false := frozen?_row r9
                       have r9b : row? (w3.setCell ⟨Wo.heap.size, 0, none⟩ (.int .i64 u)) Wo.heap.size = some #[.int .i64 u, .int .i64 0] := by rw [row?_setCell_same, r9]; rfl
                       have HDx := Lib.hid (show s.drop m = x :: s.drop (m + 1) from by rw [List.drop_eq_getElem_cons hk2, hx2])
                       clear r9
                       by_cases h45 : x.toNat = 45
                       · have e45 : ((x.toNat : Int) != 45) = false := by rw [h45]; rfl
                         have e46 : (x.toNat : Int) = 45 := by omega
                         go_wp2_with fail
                         go_roundw
                         case rel => exact ⟨m + 1, 1, u, 0, by go_num, by go_num, by omega, by omega, r9b, ((HB2.out.trans (HB4.out.mono HB2.out.size)).setCell (Nat.le_refl _) _), by have := HB4.out.size; simp; omega, .inr (.inl ⟨rfl, rfl, HU.out, x, h45, by rw [HDr.out, HDx.out]⟩)⟩
                         case measure => simp [intOf]
                       · have e45 : ((x.toNat : Int) != 45) = true := bne_iff_ne.2 (by omega)
                         have e46 : ¬ (x.toNat : Int) = 45 := by omega
                         have HXe := Lib.hid (HXn.out.trans (readE_none (show endOf (s.drop a) = none from by unfold endOf; rw [HU.out, HDr.out, HDx.out]; simp only [h45, if_false]) (p, q) l))
                         go_wp2_with fail
                         go_ret2
                         exact ⟨_, by rw [HXe.out]; rfl, by rw [HXe.out]; exact (OwnI.nil 0 _).rdl, (HBw.out.trans (HB4.out.mono HBw.out.size)).setCell (show w.heap.size ≤ Wo.heap.size from by omega) _⟩
                     · have HXe := Lib.hid (HXn.out.trans (readE_none (show endOf (s.drop a) = none from by unfold endOf; rw [hu]) (p, q) l))
                       clear hu
                       go_wp2_with fail
                       go_ret2
                       exact ⟨_, by rw [HXe.out]; rfl, by rw [HXe.out]; exact (OwnI.nil 0 _).rdl, HBw.out.trans (HB4.out.mono HBw.out.size)⟩
                   · have d1 : decide ((48 : Int) ≤ (x.toNat : Int)) = true := decide_eq_true (by omega)
                     have d2 : decide ((x.toNat : Int) ≤ 57) = false := decide_eq_false (by unfold isDig at hd; omega)
                     have d3 : (48 : Int) ≤ (x.toNat : Int) := by omega
                     have d4 : ¬ (x.toNat : Int) ≤ 57 := by unfold isDig at hd; omega
                     have HDG := Lib.hid (digs_stop HD.out (fun y hy => by rw [HXd.out] at hy; cases hy; exact hd))
                     have hdl : (digs (s.drop a)).length = m - a := by rw [HDG.out, List.length_take, List.length_drop]; omega
                     have HDr := Lib.hid (show (s.drop a).drop (digs (s.drop a)).length = s.drop m from by rw [hdl, List.drop_drop]; congr 1; omega)
                     clear hdl
                     go_wp2_with fail
                     refine (rnumber_any ((s.drop a).take (m - a)) (by rw [List.length_take, List.length_drop]; omega) _).mono ?_
                     rintro e w3 ⟨hb3, h⟩
                     have HB4 := Lib.hid (HB3.out.trans (hb3.mono HB3.out.size))
                     replace r9 := (row?_below HB4.out (by omega)).trans r9
                     clear hb3
                     rw [← HDG.out] at h
                     rcases h with ⟨u, hu, rfl⟩ | ⟨hu, rfl⟩
                     · have HU := Lib.hid hu
                       clear hu
                       have c9 : w3.cell? ⟨Wo.heap.size, 0, none⟩ = some (.int .i64 0) := (cell?_row (i := 0) r9).trans rfl
                       have f9 : w3.frozen? ⟨Wo.heap.size, 0, none⟩ = false := frozen?_row r9
                       have h45 : ¬ x.toNat = 45 := by omega
                       have HDx := Lib.hid (show s.drop m = x :: s.drop (m + 1) from by rw [List.drop_eq_getElem_cons hk2, hx2])
                       have e45 : ((x.toNat : Int) != 45) = true := bne_iff_ne.2 (by omega)
                       have e46 : ¬ (x.toNat : Int) = 45 := by omega
                       have HXe := Lib.hid (HXn.out.trans (readE_none (show endOf (s.drop a) = none from by unfold endOf; rw [HU.out, HDr.out, HDx.out]; simp only [h45, if_false]) (p, q) l))
                       go_wp2_with fail
                       go_ret2
                       exact ⟨_, by rw [HXe.out]; rfl, by rw [HXe.out]; exact (OwnI.nil 0 _).rdl, (HBw.out.trans (HB4.out.mono HBw.out.size)).setCell (show w.heap.size ≤ Wo.heap.size from by omega) _⟩
                     · have HXe := Lib.hid (HXn.out.trans (readE_none (show endOf (s.drop a) = none from by unfold endOf; rw [hu]) (p, q) l))
                       clear hu
                       go_wp2_with fail
                       go_ret2
                       exact ⟨_, by rw [HXe.out]; rfl, by rw [HXe.out]; exact (OwnI.nil 0 _).rdl, HBw.out.trans (HB4.out.mono HBw.out.size)⟩
               · have hms : m = s.length := by omega
                 have HMS := Lib.hid hms
                 clear hms
                 have HDG := Lib.hid (digs_stop HD.out (fun y hy => by rw [List.getElem?_drop, List.getElem?_eq_none (by omega)] at hy; cases hy))
                 have hdl : (digs (s.drop a)).length = m - a := by rw [HDG.out, List.length_take, List.length_drop]; omega
                 have HDr := Lib.hid (show (s.drop a).drop (digs (s.drop a)).length = s.drop m from by rw [hdl, List.drop_drop]; congr 1; omega)
                 clear hdl
                 go_wp2_with fail
                 refine (rnumber_any ((s.drop a).take (m - a)) (by rw [List.length_take, List.length_drop]; omega) _).mono ?_
                 rintro e w3 ⟨hb3, h⟩
                 have HB4 := Lib.hid (HB3.out.trans (hb3.mono HB3.out.size))
                 replace r9 := (row?_below HB4.out (by omega)).trans r9
                 clear hb3
                 rw [← HDG.out] at h
                 rcases h with ⟨u, hu, rfl⟩ | ⟨hu, rfl⟩
                 · have HU := Lib.hid hu
                   clear hu
                   have c9 : w3.cell? ⟨Wo.heap.size, 0, none⟩ = some (.int .i64 0) := (cell?_row (i := 0) r9).trans rfl
                   have f9 : w3.frozen? ⟨Wo.heap.size, 0, none⟩ = false := frozen?_row r9
                   have HXe := Lib.hid (HXn.out.trans (readE_none (show endOf (s.drop a) = none from by unfold endOf; rw [HU.out, HDr.out, List.drop_eq_nil_of_le (Nat.le_of_eq HMS.out.symm)]) (p, q) l))
                   go_wp2_with fail
                   go_ret2
                   exact ⟨_, by rw [HXe.out]; rfl, by rw [HXe.out]; exact (OwnI.nil 0 _).rdl, (HBw.out.trans (HB4.out.mono HBw.out.size)).setCell (show w.heap.size ≤ Wo.heap.size from by omega) _⟩
                 · have HXe := Lib.hid (HXn.out.trans (readE_none (show endOf (s.drop a) = none from by unfold endOf; rw [hu]) (p, q) l))
                   clear hu
                   go_wp2_with fail
                   go_ret2
                   exact ⟨_, by rw [HXe.out]; rfl, by rw [HXe.out]; exact (OwnI.nil 0 _).rdl, HBw.out.trans (HB4.out.mono HBw.out.size)⟩
           · obtain ⟨c, h45, hc⟩ := hc
             have HU := Lib.hid hu
             have HC := Lib.hid hc
             clear hu hc
             go_wp2_with fail
             go_loopw [7] (fun i wr3 => ∃ m : Nat, b ≤ m ∧ m ≤ s.length ∧ i = .int .i64 (m : Int) ∧ (∀ x ∈ (s.drop b).take (m - b), isDig x) ∧ Below wr2.heap.size wr2 wr3) (fun i _ => s.length - (intOf i).toNat)
             case atStart => exact ⟨b, Nat.le_refl _, by omega, rfl, by simp, Below.refl _ _⟩
             case round =>
               obtain ⟨m, hbm, hml, rfl, hD, hb3⟩ := hrel
               have HD := Lib.hid hD
               have HB3 := Lib.hid hb3
               clear hD hb3
               by_cases hlt : m < s.length
               · obtain ⟨x, hx⟩ : ∃ x, s[m]? = some x := ⟨_, List.getElem?_eq_getElem hlt⟩
                 have HX3 := Lib.hid hx
                 have HXd := Lib.hid (show (s.drop b)[m - b]? = some x from by rw [List.getElem?_drop, show b + (m - b) = m by omega]; exact hx)
                 obtain ⟨hk2, hx2⟩ := List.getElem?_eq_some_iff.1 hx
                 clear hx
                 by_cases hd : isDig x
                 · have d1 : decide ((48 : Int) ≤ (x.toNat : Int)) = true := decide_eq_true (by have := hd.1; omega)
                   have d2 : decide ((x.toNat : Int) ≤ 57) = true := decide_eq_true (by have := hd.2; omega)
                   have d3 : (48 : Int) ≤ (x.toNat : Int) := by have := hd.1; omega
                   have d4 : (x.toNat : Int) ≤ 57 := by have := hd.2; omega
                   go_wp2_with fail
                   go_roundw
                   case rel =>
                     refine ⟨m + 1, by omega, by omega, by go_num, ?_, HB3.out⟩
                     intro y hy
                     rw [show m + 1 - b = (m - b) + 1 by omega, List.take_add_one, HXd.out, Option.toList_some, List.mem_append, List.mem_singleton] at hy
                     rcases hy with hy | rfl
                     · exact HD.out y hy
                     · exact hd
                   case measure => simp [intOf]; omega
                 · by_cases d0 : x.toNat < 48
                   · have d1 : decide ((48 : Int) ≤ (x.toNat : Int)) = false := decide_eq_false (by omega)
                     have d3 : ¬ (48 : Int) ≤ (x.toNat : Int) := by omega
                     have HDG := Lib.hid (digs_stop HD.out (fun y hy => by rw [HXd.out] at hy; cases hy; exact hd))
                     have hdl : (digs (s.drop b)).length = m - b := by rw [HDG.out, List.length_take, List.length_drop]; omega
                     have HDr := Lib.hid (show (s.drop b).drop (digs (s.drop b)).length = s.drop m from by rw [hdl, List.drop_drop]; congr 1; omega)
                     clear hdl
                     go_wp2_with fail
                     refine (rnumber_any ((s.drop b).take (m - b)) (by rw [List.length_take, List.length_drop]; omega) _).mono ?_
                     rintro e w3 ⟨hb3, h⟩
                     have HB4 := Lib.hid (HB3.out.trans (hb3.mono HB3.out.size))
                     replace r9 := (row?_below HB4.out (by omega)).trans r9
                     clear hb3
                     rw [← HDG.out] at h
                     rcases h with ⟨v, hv, rfl⟩ | ⟨hv, rfl⟩
                     · have HV := Lib.hid hv
                       have HEnd := Lib.hid (show endOf (s.drop a) = if ex < v then some (ex, v, s.drop m) else none from by unfold endOf; rw [HU.out, HC.out]; simp only [h45, if_true, HV.out, HDr.out])
                       clear hv
                       have c9 : w3.cell? ⟨Wo.heap.size, 1, none⟩ = some (.int .i64 0) := (cell?_row (i := 1) r9).trans rfl
                       have f9 : w3.frozen? ⟨Wo.heap.size, 1, none⟩ = false := frozen?_row r9
                       have r9b : row? (w3.setCell ⟨Wo.heap.size, 1, none⟩ (.int .i64 v)) Wo.heap.size = some #[.int .i64 ex, .int .i64 v] := by rw [row?_setCell_same, r9]; rfl
                       clear r9
                       go_wp2_with fail
                       go_roundw
                       case rel => exact ⟨m, 2, ex, v, rfl, by go_num, by omega, hml, r9b, ((HB2.out.trans (HB4.out.mono HB2.out.size)).setCell (Nat.le_refl _) _), by have := HB4.out.size; simp; omega, .inr (.inr ⟨rfl, HEnd.out⟩)⟩
                       case measure => simp [intOf]
                     · have HXe := Lib.hid (HXn.out.trans (readE_none (show endOf (s.drop a) = none from by unfold endOf; rw [HU.out, HC.out]; simp only [h45, if_true, hv]) (p, q) l))
                       clear hv
                       go_wp2_with fail
                       go_ret2
                       exact ⟨_, by rw [HXe.out]; rfl, by rw [HXe.out]; exact (OwnI.nil 0 _).rdl, HBw.out.trans (HB4.out.mono HBw.out.size)⟩
                   · have d1 : decide ((48 : Int) ≤ (x.toNat : Int)) = true := decide_eq_true (by omega)
                     have d2 : decide ((x.toNat : Int) ≤ 57) = false := decide_eq_false (by unfold isDig at hd; omega)
                     have d3 : (48 : Int) ≤ (x.toNat : Int) := by omega
                     have d4 : ¬ (x.toNat : Int) ≤ 57 := by unfold isDig at hd; omega
                     have HDG := Lib.hid (digs_stop HD.out (fun y hy => by rw [HXd.out] at hy; cases hy; exact hd))
                     have hdl : (digs (s.drop b)).length = m - b := by rw [HDG.out, List.length_take, List.length_drop]; omega
                     have HDr := Lib.hid (show (s.drop b).drop (digs (s.drop b)).length = s.drop m from by rw [hdl, List.drop_drop]; congr 1; omega)
                     clear hdl
                     go_wp2_with fail
                     refine (rnumber_any ((s.drop b).take (m - b)) (by rw [List.length_take, List.length_drop]; omega) _).mono ?_
                     rintro e w3 ⟨hb3, h⟩
                     have HB4 := Lib.hid (HB3.out.trans (hb3.mono HB3.out.size))
                     replace r9 := (row?_below HB4.out (by omega)).trans r9
                     clear hb3
                     rw [← HDG.out] at h
                     rcases h with ⟨v, hv, rfl⟩ | ⟨hv, rfl⟩
                     · have HV := Lib.hid hv
                       have HEnd := Lib.hid (show endOf (s.drop a) = if ex < v then some (ex, v, s.drop m) else none from by unfold endOf; rw [HU.out, HC.out]; simp only [h45, if_true, HV.out, HDr.out])
                       clear hv
                       have c9 : w3.cell? ⟨Wo.heap.size, 1, none⟩ = some (.int .i64 0) := (cell?_row (i := 1) r9).trans rfl
                       have f9 : w3.frozen? ⟨Wo.heap.size, 1, none⟩ = false := frozen?_row r9
                       have r9b : row? (w3.setCell ⟨Wo.heap.size, 1, none⟩ (.int .i64 v)) Wo.heap.size = some #[.int .i64 ex, .int .i64 v] := by rw [row?_setCell_same, r9]; rfl
                       clear r9
                       go_wp2_with fail
                       go_roundw
                       case rel => exact ⟨m, 2, ex, v, rfl, by go_num, by omega, hml, r9b, ((HB2.out.trans (HB4.out.mono HB2.out.size)).setCell (Nat.le_refl _) _), by have := HB4.out.size; simp; omega, .inr (.inr ⟨rfl, HEnd.out⟩)⟩
                       case measure => simp [intOf]
                     · have HXe := Lib.hid (HXn.out.trans (readE_none (show endOf (s.drop a) = none from by unfold endOf; rw [HU.out, HC.out]; simp only [h45, if_true, hv]) (p, q) l))
                       clear hv
                       go_wp2_with fail
                       go_ret2
                       exact ⟨_, by rw [HXe.out]; rfl, by rw [HXe.out]; exact (OwnI.nil 0 _).rdl, HBw.out.trans (HB4.out.mono HBw.out.size)⟩
               · have hms : m = s.length := by omega
                 have HMS := Lib.hid hms
                 clear hms
                 have HDG := Lib.hid (digs_stop HD.out (fun y hy => by rw [List.getElem?_drop, List.getElem?_eq_none (by omega)] at hy; cases hy))
                 have hdl : (digs (s.drop b)).length = m - b := by rw [HDG.out, List.length_take, List.length_drop]; omega
                 have HDr := Lib.hid (show (s.drop b).drop (digs (s.drop b)).length = s.drop m from by rw [hdl, List.drop_drop]; congr 1; omega)
                 clear hdl
                 go_wp2_with fail
                 refine (rnumber_any ((s.drop b).take (m - b)) (by rw [List.length_take, List.length_drop]; omega) _).mono ?_
                 rintro e w3 ⟨hb3, h⟩
                 have HB4 := Lib.hid (HB3.out.trans (hb3.mono HB3.out.size))
                 replace r9 := (row?_below HB4.out (by omega)).trans r9
                 clear hb3
                 rw [← HDG.out] at h
                 rcases h with ⟨v, hv, rfl⟩ | ⟨hv, rfl⟩
                 · have HV := Lib.hid hv
                   have HEnd := Lib.hid (show endOf (s.drop a) = if ex < v then some (ex, v, s.drop m) else none from by unfold endOf; rw [HU.out, HC.out]; simp only [h45, if_true, HV.out, HDr.out])
                   clear hv
                   have c9 : w3.cell? ⟨Wo.heap.size, 1, none⟩ = some (.int .i64 0) := (cell?_row (i := 1) r9).trans rfl
                   have f9 : w3.frozen? ⟨Wo.heap.size, 1, none⟩ = false := frozen?_row r9
                   have r9b : row? (w3.setCell ⟨Wo.heap.size, 1, none⟩ (.int .i64 v)) Wo.heap.size = some #[.int .i64 ex, .int .i64 v] := by rw [row?_setCell_same, r9]; rfl
                   clear r9
                   go_wp2_with fail
                   go_roundw
                   case rel => exact ⟨m, 2, ex, v, rfl, by go_num, by omega, hml, r9b, ((HB2.out.trans (HB4.out.mono HB2.out.size)).setCell (Nat.le_refl _) _), by have := HB4.out.size; simp; omega, .inr (.inr ⟨rfl, HEnd.out⟩)⟩
                   case measure => simp [intOf]
                 · have HXe := Lib.hid (HXn.out.trans (readE_none (show endOf (s.drop a) = none from by unfold endOf; rw [HU.out, HC.out]; simp only [h45, if_true, hv]) (p, q) l))
                   clear hv
                   go_wp2_with fail
                   go_ret2
                   exact ⟨_, by rw [HXe.out]; rfl, by rw [HXe.out]; exact (OwnI.nil 0 _).rdl, HBw.out.trans (HB4.out.mono HBw.out.size)⟩
           · have c0 : wr2.cell? ⟨Wo.heap.size, 0, none⟩ = some (.int .i64 ex) := (cell?_row (i := 0) r9).trans rfl
             have c1 : wr2.cell? ⟨Wo.heap.size, 1, none⟩ = some (.int .i64 ey) := (cell?_row (i := 1) r9).trans rfl
             have c2 : wr2.cell? ⟨w.heap.size + 1, 0, none⟩ = some (.int .i64 p) := (cell?_row (i := 0) r8).trans rfl
             have c3 : wr2.cell? ⟨w.heap.size + 1, 1, none⟩ = some (.int .i64 q) := (cell?_row (i := 1) r8).trans rfl
             by_cases h1 : ex < ey
             · have hen : endOf (s.drop a) = some (ex, ey, s.drop b) := by rw [hend, if_pos h1]
               have hele := (endOf_le hen).2.2.2
               have HXs := Lib.hid (HXn.out.trans (readE_some hen (p, q) l))
               have k1 : decide (ey ≤ ex) = false := decide_eq_false (by omega)
               have k2 : ¬ ey ≤ ex := by omega
               clear hen hend
               by_cases h2 : p < ex
               · have HXs := Lib.hid (HXs.out.trans (if_pos (show behB ex ey (p, q) = true from decide_eq_true (.inl h2))))
                 have k3 : decide (ex < p) = false := decide_eq_false (by omega)
                 have k4 : ¬ ex < p := by omega
                 have k5 : (ex == p) = false := beq_false_of_ne (by omega)
                 have k6 : ¬ ex = p := by omega
                 have c5 : (wr2.setRow (w.heap.size + 1) #[.int .i64 ex, .int .i64 ey]).cell? ⟨Wo.heap.size, 0, none⟩ = some (.int .i64 ex) := (cell?_row (i := 0) ((row?_setRow_other _ _ _ _ (by omega)).trans r9)).trans rfl
                 have c6 : (wr2.setRow (w.heap.size + 1) #[.int .i64 ex, .int .i64 ey]).cell? ⟨Wo.heap.size, 1, none⟩ = some (.int .i64 ey) := (cell?_row (i := 1) ((row?_setRow_other _ _ _ _ (by omega)).trans r9)).trans rfl
                 go_wp2_with fail
                 have HB5 := Lib.hid (below_setRow HBw.out (show w.heap.size ≤ w.heap.size + 1 from by omega) #[.int .i64 ex, .int .i64 ey])
                 have HS5 := Lib.hid (((Same.of_below HB2.out).mono (A' := fun k => k < Wo.heap.size ∧ k ≠ w.heap.size + 1) fun k _ hk => hk.1).trans (Same.setRow _ _ (w.heap.size + 1) #[.int .i64 ex, .int .i64 ey] (by simp)))
                 have t0 := (row?_setRow_other wr2 (w.heap.size + 1) w.heap.size #[.int .i64 ex, .int .i64 ey] (by omega)).trans r0
                 have t8 := row?_setRow_same wr2 (w.heap.size + 1) #[.int .i64 ex, .int .i64 ey] (by rw [r8]; rfl)
                 have hz5 : (wr2.setRow (w.heap.size + 1) #[.int .i64 ex, .int .i64 ey]).heap.size = wr2.heap.size := by simp
                 generalize wr2.setRow (w.heap.size + 1) #[.int .i64 ex, .int .i64 ey] = w5 at *
                 refine (redge_any G.E ex ey _ _ _ ((HR.out.2.below HB5.out (Nat.le_refl _)).mono HB5.out.size) ⟨_, _, _, rfl⟩ (by rw [← HLE.out]; omega)).mono ?_
                 rintro e w6 ⟨rfl, hb6⟩
                 have HB6 := Lib.hid (HB5.out.trans (hb6.mono HB5.out.size))
                 have HO6 := Lib.hid (OwnI.same HO.out fun k hk => have g1 := HO.out.lt k hk; have g2 := HO.out.block k hk; (hb6.block k (by omega)).trans (HS5.out.block k (by omega) ⟨g1, by omega⟩))
                 replace r0 := (row?_below hb6 (by omega)).trans t0
                 replace r8 := (row?_below hb6 (by omega)).trans t8
                 have hw6 : w.heap.size + 2 ≤ w6.heap.size := by have := hb6.size; omega
                 clear hb6 t0 t8 hz5 c0 c1 c2 c3 c5 c6 HS5 HB5 HO r9 HB2 HBw
                 by_cases hix : idx (edgB ex ey) G.E < 0
                 · have HXe := Lib.hid (HXs.out.trans (if_pos hix))
                   go_wp2_with fail
                   go_ret2
                   exact ⟨_, by rw [HXe.out]; rfl, by rw [HXe.out]; exact (OwnI.nil 0 _).rdl, HB6.out⟩
                 · obtain ⟨kk, x0, hkk, -, -⟩ := idx_get2 hix
                   have HXs := Lib.hid (HXs.out.trans (if_neg hix))
                   rw [hkk, Int.toNat_natCast] at HXs
                   rw [hkk]
                   clear hix hkk
                   obtain ⟨acc, hacc⟩ : ∃ acc, acc = l.map fun (k : Nat) => (k : Int) := ⟨_, rfl⟩
                   have hacl : acc.length = l.length := by rw [hacc, List.length_map]
                   have HAc := Lib.hid (show (l ++ [kk]).map (fun (k : Nat) => (k : Int)) = acc ++ [(kk : Int)] from by rw [hacc, List.map_append]; rfl)
                   rw [← hacc] at HO6
                   clear hacc
                   go_wp2_with (at_builtin; refine wpList_appT rfl 83 undR _ _ rfl ((w.heap.size + 2)) _ (acc) rfl (HO6.out.alloc _) _ ((kk : Int)) _ rfl (by simp [go_sem]) (by first | omega | (simp; omega)) (by simp; omega) ?_)
                   intro v' w7 hO7 hb7
                   replace r0 := (row?_below hb7 (by omega)).trans ((row?_alloc_past w6 (.cells #[.int .i64 (kk : Int)] 3) _ (by omega)).trans r0)
                   replace r8 := (row?_below hb7 (by omega)).trans ((row?_alloc_past w6 (.cells #[.int .i64 (kk : Int)] 3) _ (by omega)).trans r8)
                   have HB7 := Lib.hid ((HB6.out.alloc (by omega) (.cells #[.int .i64 (kk : Int)] 3)).trans (hb7.mono (by omega)))
                   have hw7 : w.heap.size + 2 ≤ w7.heap.size := by have := hb7.size; simp at this; omega
                   have HO7 := Lib.hid hO7
                   clear hb7 hO7 HB6 HO6 hw6
                   by_cases hlt : b < s.length
                   · obtain ⟨x, hx⟩ : ∃ x, s[b]? = some x := ⟨_, List.getElem?_eq_getElem hlt⟩
                     obtain ⟨hk2, hx2⟩ := List.getElem?_eq_some_iff.1 hx
                     have HDx := Lib.hid (show s.drop b = x :: s.drop (b + 1) from by rw [List.drop_eq_getElem_cons hk2, hx2])
                     clear hx
                     by_cases h32 : x.toNat = 32
                     · have e1 : ((x.toNat : Int) == 125) = false := beq_false_of_ne (by omega)
                       have e2 : ¬ (x.toNat : Int) = 125 := by omega
                       have e3 : ((x.toNat : Int) != 32) = false := by rw [h32]; rfl
                       have e4 : (x.toNat : Int) = 32 := by omega
                       have HXf := Lib.hid (show X = readE G n (s.drop (b + 1)) (ex, ey) (l ++ [kk]) from HXs.out.trans (by rw [HDx.out, cutB_cons, if_pos (UInt8.toNat_inj.1 h32), if_pos rfl]))
                       obtain ⟨n', rfl⟩ : ∃ n', n = n' + 1 := ⟨n - 1, by omega⟩
                       clear h32 HDx HXs
                       go_wp2_with fail
                       go_roundw
                       case rel => exact ⟨b + 1, n', l ++ [kk], ex, ey, by go_num, by omega, by rw [HAc.out]; exact HO7.out, by simp; omega, r0, r8, HB7.out, by omega, HXf.out, by omega⟩
                       case measure => simp [intOf]; omega
                     · have hcut : ¬ (cutB 32 (s.drop b)).2 = true := by rw [HDx.out, cutB_cons, if_neg (fun h => h32 (by rw [h]; rfl))]; simp
                       have HXs := Lib.hid (HXs.out.trans (if_neg hcut))
                       clear hcut
                       have e3 : ((x.toNat : Int) != 32) = true := bne_iff_ne.2 (by omega)
                       have e4 : ¬ (x.toNat : Int) = 32 := by omega
                       by_cases h125 : x.toNat = 125
                       · have e1 : ((x.toNat : Int) == 125) = true := by rw [h125]; rfl
                         have e2 : (x.toNat : Int) = 125 := by omega
                         by_cases hlast : b + 1 = s.length
                         · have HXf := Lib.hid (HXs.out.trans (if_pos (show s.drop b = [125] from by rw [HDx.out, UInt8.toNat_inj.1 (show x.toNat = (125 : UInt8).toNat from h125), List.drop_eq_nil_of_le (by omega)])))
                           have e5 : ((b : Int) != (s.length : Int) - 1) = false := by rw [bne_eq_false_iff_eq]; omega
                           have e6 : (b : Int) = (s.length : Int) - 1 := by omega
                           have HE6 := Lib.hid e6
                           clear h125 h32 e6 HDx HXs hlast
                           go_wp2_with fail
                           go_ret2
                           exact ⟨_, by rw [HXf.out]; rfl, by rw [HXf.out, HAc.out]; exact HO7.out.rdl, HB7.out⟩
                         · have HXe := Lib.hid (HXs.out.trans (if_neg (show ¬ s.drop b = [125] from fun h => by rw [HDx.out] at h; injection h with h1 h2; have := congrArg List.length h2; simp at this; omega)))
                           have e5 : ((b : Int) != (s.length : Int) - 1) = true := bne_iff_ne.2 (by omega)
                           have e6 : ¬ (b : Int) = (s.length : Int) - 1 := by omega
                           clear h125 h32 HDx HXs hlast
                           go_wp2_with fail
                           go_ret2
                           exact ⟨_, by rw [HXe.out]; rfl, by rw [HXe.out]; exact (OwnI.nil 0 _).rdl, HB7.out⟩
                       · have HXe := Lib.hid (HXs.out.trans (if_neg (show ¬ s.drop b = [125] from fun h => by rw [HDx.out] at h; injection h with h1 h2; exact h125 (by rw [h1]; rfl))))
                         have e1 : ((x.toNat : Int) == 125) = false := beq_false_of_ne (by omega)
                         have e2 : ¬ (x.toNat : Int) = 125 := by omega
                         clear h125 h32 HDx HXs
                         go_wp2_with fail
                         go_ret2
                         exact ⟨_, by rw [HXe.out]; rfl, by rw [HXe.out]; exact (OwnI.nil 0 _).rdl, HB7.out⟩
                   · have hnil : s.drop b = [] := List.drop_eq_nil_of_le (by omega)
                     rw [hnil] at HXs
                     have HXe := Lib.hid (show X = ([], 3) from HXs.out.trans ((if_neg (by simp [cutB])).trans (if_neg (by simp))))
                     have hbs : b = s.length := by omega
                     have e1 : ((b : Int) == (s.length : Int)) = true := by rw [hbs]; simp
                     clear HXs hnil hbs
                     go_wp2_with fail
                     go_ret2
                     exact ⟨_, by rw [HXe.out]; rfl, by rw [HXe.out]; exact (OwnI.nil 0 _).rdl, HB7.out⟩
               · by_cases h3 : ex = p
                 · subst h3
                   by_cases h4 : q < ey
                   · have HXs := Lib.hid (HXs.out.trans (if_pos (show behB ex ey (ex, q) = true from decide_eq_true (.inr ⟨rfl, h4⟩))))
                     have k3 : decide (ey ≤ q) = false := decide_eq_false (by omega)
                     have k4 : ¬ ey ≤ q := by omega
                     have c5 : (wr2.setRow (w.heap.size + 1) #[.int .i64 ex, .int .i64 ey]).cell? ⟨Wo.heap.size, 0, none⟩ = some (.int .i64 ex) := (cell?_row (i := 0) ((row?_setRow_other _ _ _ _ (by omega)).trans r9)).trans rfl
                     have c6 : (wr2.setRow (w.heap.size + 1) #[.int .i64 ex, .int .i64 ey]).cell? ⟨Wo.heap.size, 1, none⟩ = some (.int .i64 ey) := (cell?_row (i := 1) ((row?_setRow_other _ _ _ _ (by omega)).trans r9)).trans rfl
                     go_wp2_with fail
                     have HB5 := Lib.hid (below_setRow HBw.out (show w.heap.size ≤ w.heap.size + 1 from by omega) #[.int .i64 ex, .int .i64 ey])
                     have HS5 := Lib.hid (((Same.of_below HB2.out).mono (A' := fun k => k < Wo.heap.size ∧ k ≠ w.heap.size + 1) fun k _ hk => hk.1).trans (Same.setRow _ _ (w.heap.size + 1) #[.int .i64 ex, .int .i64 ey] (by simp)))
                     have t0 := (row?_setRow_other wr2 (w.heap.size + 1) w.heap.size #[.int .i64 ex, .int .i64 ey] (by omega)).trans r0
                     have t8 := row?_setRow_same wr2 (w.heap.size + 1) #[.int .i64 ex, .int .i64 ey] (by rw [r8]; rfl)
                     have hz5 : (wr2.setRow (w.heap.size + 1) #[.int .i64 ex, .int .i64 ey]).heap.size = wr2.heap.size := by simp
                     generalize wr2.setRow (w.heap.size + 1) #[.int .i64 ex, .int .i64 ey] = w5 at *
                     refine (redge_any G.E ex ey _ _ _ ((HR.out.2.below HB5.out (Nat.le_refl _)).mono HB5.out.size) ⟨_, _, _, rfl⟩ (by rw [← HLE.out]; omega)).mono ?_
                     rintro e w6 ⟨rfl, hb6⟩
                     have HB6 := Lib.hid (HB5.out.trans (hb6.mono HB5.out.size))
                     have HO6 := Lib.hid (OwnI.same HO.out fun k hk => have g1 := HO.out.lt k hk; have g2 := HO.out.block k hk; (hb6.block k (by omega)).trans (HS5.out.block k (by omega) ⟨g1, by omega⟩))
                     replace r0 := (row?_below hb6 (by omega)).trans t0
                     replace r8 := (row?_below hb6 (by omega)).trans t8
                     have hw6 : w.heap.size + 2 ≤ w6.heap.size := by have := hb6.size; omega
                     clear hb6 t0 t8 hz5 c0 c1 c2 c3 c5 c6 HS5 HB5 HO r9 HB2 HBw
                     by_cases hix : idx (edgB ex ey) G.E < 0
                     · have HXe := Lib.hid (HXs.out.trans (if_pos hix))
                       go_wp2_with fail
                       go_ret2
                       exact ⟨_, by rw [HXe.out]; rfl, by rw [HXe.out]; exact (OwnI.nil 0 _).rdl, HB6.out⟩
                     · obtain ⟨kk, x0, hkk, -, -⟩ := idx_get2 hix
                       have HXs := Lib.hid (HXs.out.trans (if_neg hix))
                       rw [hkk, Int.toNat_natCast] at HXs
                       rw [hkk]
                       clear hix hkk
                       obtain ⟨acc, hacc⟩ : ∃ acc, acc = l.map fun (k : Nat) => (k : Int) := ⟨_, rfl⟩
                       have hacl : acc.length = l.length := by rw [hacc, List.length_map]
                       have HAc := Lib.hid (show (l ++ [kk]).map (fun (k : Nat) => (k : Int)) = acc ++ [(kk : Int)] from by rw [hacc, List.map_append]; rfl)
                       rw [← hacc] at HO6
                       clear hacc
                       go_wp2_with (at_builtin; refine wpList_appT rfl 83 undR _ _ rfl ((w.heap.size + 2)) _ (acc) rfl (HO6.out.alloc _) _ ((kk : Int)) _ rfl (by simp [go_sem]) (by first | omega | (simp; omega)) (by simp; omega) ?_)
                       intro v' w7 hO7 hb7
                       replace r0 := (row?_below hb7 (by omega)).trans ((row?_alloc_past w6 (.cells #[.int .i64 (kk : Int)] 3) _ (by omega)).trans r0)
                       replace r8 := (row?_below hb7 (by omega)).trans ((row?_alloc_past w6 (.cells #[.int .i64 (kk : Int)] 3) _ (by omega)).trans r8)
                       have HB7 := Lib.hid ((HB6.out.alloc (by omega) (.cells #[.int .i64 (kk : Int)] 3)).trans (hb7.mono (by omega)))
                       have hw7 : w.heap.size + 2 ≤ w7.heap.size := by have := hb7.size; simp at this; omega
                       have HO7 := Lib.hid hO7
                       clear hb7 hO7 HB6 HO6 hw6
                       by_cases hlt : b < s.length
                       · obtain ⟨x, hx⟩ : ∃ x, s[b]? = some x := ⟨_, List.getElem?_eq_getElem hlt⟩
                         obtain ⟨hk2, hx2⟩ := List.getElem?_eq_some_iff.1 hx
                         have HDx := Lib.hid (show s.drop b = x :: s.drop (b + 1) from by rw [List.drop_eq_getElem_cons hk2, hx2])
                         clear hx
                         by_cases h32 : x.toNat = 32
                         · have e1 : ((x.toNat : Int) == 125) = false := beq_false_of_ne (by omega)
                           have e2 : ¬ (x.toNat : Int) = 125 := by omega
                           have e3 : ((x.toNat : Int) != 32) = false := by rw [h32]; rfl
                           have e4 : (x.toNat : Int) = 32 := by omega
                           have HXf := Lib.hid (show X = readE G n (s.drop (b + 1)) (ex, ey) (l ++ [kk]) from HXs.out.trans (by rw [HDx.out, cutB_cons, if_pos (UInt8.toNat_inj.1 h32), if_pos rfl]))
                           obtain ⟨n', rfl⟩ : ∃ n', n = n' + 1 := ⟨n - 1, by omega⟩
                           clear h32 HDx HXs
                           go_wp2_with fail
                           go_roundw
                           case rel => exact ⟨b + 1, n', l ++ [kk], ex, ey, by go_num, by omega, by rw [HAc.out]; exact HO7.out, by simp; omega, r0, r8, HB7.out, by omega, HXf.out, by omega⟩
                           case measure => simp [intOf]; omega
                         · have hcut : ¬ (cutB 32 (s.drop b)).2 = true := by rw [HDx.out, cutB_cons, if_neg (fun h => h32 (by rw [h]; rfl))]; simp
                           have HXs := Lib.hid (HXs.out.trans (if_neg hcut))
                           clear hcut
                           have e3 : ((x.toNat : Int) != 32) = true := bne_iff_ne.2 (by omega)
                           have e4 : ¬ (x.toNat : Int) = 32 := by omega
                           by_cases h125 : x.toNat = 125
                           · have e1 : ((x.toNat : Int) == 125) = true := by rw [h125]; rfl
                             have e2 : (x.toNat : Int) = 125 := by omega
                             by_cases hlast : b + 1 = s.length
                             · have HXf := Lib.hid (HXs.out.trans (if_pos (show s.drop b = [125] from by rw [HDx.out, UInt8.toNat_inj.1 (show x.toNat = (125 : UInt8).toNat from h125), List.drop_eq_nil_of_le (by omega)])))
                               have e5 : ((b : Int) != (s.length : Int) - 1) = false := by rw [bne_eq_false_iff_eq]; omega
                               have e6 : (b : Int) = (s.length : Int) - 1 := by omega
                               have HE6 := Lib.hid e6
                               clear h125 h32 e6 HDx HXs hlast
                               go_wp2_with fail
                               go_ret2
                               exact ⟨_, by rw [HXf.out]; rfl, by rw [HXf.out, HAc.out]; exact HO7.out.rdl, HB7.out⟩
                             · have HXe := Lib.hid (HXs.out.trans (if_neg (show ¬ s.drop b = [125] from fun h => by rw [HDx.out] at h; injection h with h1 h2; have := congrArg List.length h2; simp at this; omega)))
                               have e5 : ((b : Int) != (s.length : Int) - 1) = true := bne_iff_ne.2 (by omega)
                               have e6 : ¬ (b : Int) = (s.length : Int) - 1 := by omega
                               clear h125 h32 HDx HXs hlast
                               go_wp2_with fail
                               go_ret2
                               exact ⟨_, by rw [HXe.out]; rfl, by rw [HXe.out]; exact (OwnI.nil 0 _).rdl, HB7.out⟩
                           · have HXe := Lib.hid (HXs.out.trans (if_neg (show ¬ s.drop b = [125] from fun h => by rw [HDx.out] at h; injection h with h1 h2; exact h125 (by rw [h1]; rfl))))
                             have e1 : ((x.toNat : Int) == 125) = false := beq_false_of_ne (by omega)
                             have e2 : ¬ (x.toNat : Int) = 125 := by omega
                             clear h125 h32 HDx HXs
                             go_wp2_with fail
                             go_ret2
                             exact ⟨_, by rw [HXe.out]; rfl, by rw [HXe.out]; exact (OwnI.nil 0 _).rdl, HB7.out⟩
                       · have hnil : s.drop b = [] := List.drop_eq_nil_of_le (by omega)
                         rw [hnil] at HXs
                         have HXe := Lib.hid (show X = ([], 3) from HXs.out.trans ((if_neg (by simp [cutB])).trans (if_neg (by simp))))
                         have hbs : b = s.length := by omega
                         have e1 : ((b : Int) == (s.length : Int)) = true := by rw [hbs]; simp
                         clear HXs hnil hbs
                         go_wp2_with fail
                         go_ret2
                         exact ⟨_, by rw [HXe.out]; rfl, by rw [HXe.out]; exact (OwnI.nil 0 _).rdl, HB7.out⟩
                   · have HXe := Lib.hid (HXs.out.trans (if_neg (show ¬ behB ex ey (ex, q) = true from by unfold behB; simp; omega)))
                     have k3 : decide (ey ≤ q) = true := decide_eq_true (by omega)
                     have k4 : ey ≤ q := by omega
                     go_wp2_with fail
                     go_ret2
                     exact ⟨_, by rw [HXe.out]; rfl, by rw [HXe.out]; exact (OwnI.nil 0 _).rdl, HBw.out⟩
                 · have HXe := Lib.hid (HXs.out.trans (if_neg (show ¬ behB ex ey (p, q) = true from by unfold behB; simp; omega)))
                   have k3 : decide (ex < p) = true := decide_eq_true (by omega)
                   have k4 : ex < p := by omega
                   go_wp2_with fail
                   go_ret2
                   exact ⟨_, by rw [HXe.out]; rfl, by rw [HXe.out]; exact (OwnI.nil 0 _).rdl, HBw.out⟩
             · have HXe := Lib.hid (HXn.out.trans (readE_none (hend.trans (if_neg h1)) (p, q) l))
               have k1 : decide (ey ≤ ex) = true := decide_eq_true (by omega)
               have k2 : ey ≤ ex := by omega
               go_wp2_with fail
               go_ret2
               exact ⟨_, by rw [HXe.out]; rfl, by rw [HXe.out]; exact (OwnI.nil 0 _).rdl, HBw.out⟩
     · have hc2 : ((c.toNat : Int) != 123) = true := by simp; omega
       have hc3 : ¬ (c.toNat : Int) = 123 := by omega
       have HXe := Lib.hid (show X = ([], 3) from by rw [HX.out]; unfold readT; rw [if_neg HEx.out, if_neg]; rw [HCon.out, cutB_cons, if_neg fun h => hc (by rw [h]; rfl)]; simp)
       go_wp2_with fail
       go_ret2
       exact ⟨_, by rw [HXe.out]; rfl, by rw [HXe.out]; exact (OwnI.nil 0 _).rdl, (Below.refl _ w).alloc (Nat.le_refl _) _⟩
end Go.Proofs.YtglnhnjmelilmaaGreatDoor
