/- DERIVED: THE SHELF's CONTRACTS AT THIS DUMP, IN PLAIN WORDS (tools/lay-plain.mjs out of .. -/
import Derived.Shelf.LaysM
import Derived.Test.YtglnhnjmelilmaaGreatDoorProg
import Derived.Test.YtglnhnjmelilmaaGreatDoorRIa
import Derived.Test.YtglnhnjmelilmaaGreatDoorRWw
import Derived.Shelf.Strings.Split
import Derived.Shelf.Strings.Cut
import Derived.Test.YtglnhnjmelilmaaGreatDoorRVb
set_option linter.all false
namespace Go.Proofs
open Go.Shelf
def Tryz.laysSplitM_ren : Go.Shelf.Ren := ⟨fun | 146 => 74 | 221 => 127 | 268 => 179 | 138 => 180 | 143 => 181 | 195 => 213 | 197 => 214 | 218 => 215 | 219 => 211 | 260 => 241 | 217 => 237 | 225 => 238 | 224 => 239 | 267 => 240 | 266 => 253 | 314 => 254 | n => n, fun | 9 => 9 | 31 => 146 | 3 => 3 | 4 => 4 | 0 => 0 | 105 => 264 | 21 => 21 | 5 => 5 | 46 => 234 | 119 => 310 | 139 => 313 | 138 => 312 | 146 => 308 | 51 => 256 | n => n, fun | 1 => 2 | 3 => 6 | 4 => 7 | n => n⟩
theorem Tryz.laysSplitM : Go.Proofs.LaysM.n146 Tryz.prog Tryz.laysSplitM_ren := {
 mixed := by kernel_rfl
 f138 := Tryz.func180.trans (congrArg some (by kernel_rfl))
 f143 := Tryz.func181.trans (congrArg some (by kernel_rfl))
 f146 := Tryz.func74.trans (congrArg some (by kernel_rfl))
 f195 := Tryz.func213.trans (congrArg some (by kernel_rfl))
 f197 := Tryz.func214.trans (congrArg some (by kernel_rfl))
 f217 := Tryz.func237.trans (congrArg some (by kernel_rfl))
 f218 := Tryz.func215.trans (congrArg some (by kernel_rfl))
 f219 := Tryz.func211.trans (congrArg some (by kernel_rfl))
 f221 := Tryz.func127.trans (congrArg some (by kernel_rfl))
 f224 := Tryz.func239.trans (congrArg some (by kernel_rfl))
 f225 := Tryz.func238.trans (congrArg some (by kernel_rfl))
 f260 := Tryz.func241.trans (congrArg some (by kernel_rfl))
 f266 := Tryz.func253.trans (congrArg some (by kernel_rfl))
 f267 := Tryz.func240.trans (congrArg some (by kernel_rfl))
 f268 := Tryz.func179.trans (congrArg some (by kernel_rfl))
 f314 := Tryz.func254.trans (congrArg some (by kernel_rfl))
 t0 := Tryz.underlying0
 a0 := Tryz.isAgg0
 z0 := Tryz.sizeOf0
 v0 := Tryz.zeroValue0
 t3 := Tryz.underlying3
 a3 := Tryz.isAgg3
 z3 := Tryz.sizeOf3
 v3 := Tryz.zeroValue3
 t4 := Tryz.underlying4
 a4 := Tryz.isAgg4
 z4 := Tryz.sizeOf4
 v4 := Tryz.zeroValue4
 t5 := Tryz.underlying5
 a5 := Tryz.isAgg5
 z5 := Tryz.sizeOf5
 v5 := Tryz.zeroValue5
 t9 := Tryz.underlying9
 a9 := Tryz.isAgg9
 z9 := Tryz.sizeOf9
 v9 := Tryz.zeroValue9
 t21 := Tryz.underlying21
 a21 := Tryz.isAgg21
 z21 := Tryz.sizeOf21
 v21 := Tryz.zeroValue21
 t31 := Tryz.underlying146
 a31 := Tryz.isAgg146
 z31 := Tryz.sizeOf146
 v31 := Tryz.zeroValue146
 t46 := Tryz.underlying234
 a46 := Tryz.isAgg234
 z46 := Tryz.sizeOf234
 v46 := Tryz.zeroValue234
 t51 := Tryz.underlying256
 a51 := Tryz.isAgg256
 z51 := Tryz.sizeOf256
 v51 := Tryz.zeroValue256
 t105 := Tryz.underlying264
 a105 := Tryz.isAgg264
 z105 := Tryz.sizeOf264
 v105 := Tryz.zeroValue264
 t119 := Tryz.underlying310
 a119 := Tryz.isAgg310
 z119 := Tryz.sizeOf310
 t138 := Tryz.underlying312
 a138 := Tryz.isAgg312
 z138 := Tryz.sizeOf312
 v138 := Tryz.zeroValue312
 t139 := Tryz.underlying313
 a139 := Tryz.isAgg313
 z139 := Tryz.sizeOf313
 v139 := Tryz.zeroValue313
 t146 := Tryz.underlying308
 a146 := Tryz.isAgg308
 z146 := Tryz.sizeOf308
 v146 := Tryz.zeroValue308
 g1 := by kernel_rfl
 g3 := by kernel_rfl
 g4 := by kernel_rfl
 i0 := by kernel_rfl
 i3 := by kernel_rfl
 i4 := by kernel_rfl
 i5 := by kernel_rfl
 i9 := by kernel_rfl
 i21 := by kernel_rfl
 i31 := by kernel_rfl
 i46 := by kernel_rfl
 i51 := by kernel_rfl
 i105 := by kernel_rfl
 i138 := by kernel_rfl
 i139 := by kernel_rfl
 i146 := by kernel_rfl
 m1 := by kernel_rfl
 s1_3 := fun w h => Go.Proofs.cell_of_shapedOpen_int (zero := #[.int .i64 0]) (t := 3) h (of_decide_eq_true (by kernel_rfl)) (by kernel_rfl) rfl (by kernel_rfl) (by kernel_rfl) Tryz.underlying3
 m3 := by kernel_rfl
 m4 := by kernel_rfl }
def Tryz.laysCutM_ren : Go.Shelf.Ren := ⟨fun | 145 => 122 | 220 => 177 | 219 => 211 | 217 => 237 | 225 => 238 | 224 => 239 | 267 => 240 | 266 => 253 | 314 => 254 | n => n, fun | 9 => 9 | 4 => 4 | 59 => 205 | 3 => 3 | 5 => 5 | 46 => 234 | 146 => 308 | 51 => 256 | n => n, fun | 1 => 2 | n => n⟩
theorem Tryz.laysCutM : Go.Proofs.LaysM.n145 Tryz.prog Tryz.laysCutM_ren := {
 mixed := by kernel_rfl
 f145 := Tryz.func122.trans (congrArg some (by kernel_rfl))
 f217 := Tryz.func237.trans (congrArg some (by kernel_rfl))
 f219 := Tryz.func211.trans (congrArg some (by kernel_rfl))
 f220 := Tryz.func177.trans (congrArg some (by kernel_rfl))
 f224 := Tryz.func239.trans (congrArg some (by kernel_rfl))
 f225 := Tryz.func238.trans (congrArg some (by kernel_rfl))
 f266 := Tryz.func253.trans (congrArg some (by kernel_rfl))
 f267 := Tryz.func240.trans (congrArg some (by kernel_rfl))
 f314 := Tryz.func254.trans (congrArg some (by kernel_rfl))
 t3 := Tryz.underlying3
 a3 := Tryz.isAgg3
 z3 := Tryz.sizeOf3
 v3 := Tryz.zeroValue3
 t4 := Tryz.underlying4
 a4 := Tryz.isAgg4
 z4 := Tryz.sizeOf4
 v4 := Tryz.zeroValue4
 t5 := Tryz.underlying5
 a5 := Tryz.isAgg5
 z5 := Tryz.sizeOf5
 v5 := Tryz.zeroValue5
 t9 := Tryz.underlying9
 a9 := Tryz.isAgg9
 z9 := Tryz.sizeOf9
 v9 := Tryz.zeroValue9
 t46 := Tryz.underlying234
 a46 := Tryz.isAgg234
 z46 := Tryz.sizeOf234
 v46 := Tryz.zeroValue234
 t51 := Tryz.underlying256
 a51 := Tryz.isAgg256
 z51 := Tryz.sizeOf256
 v51 := Tryz.zeroValue256
 t59 := Tryz.underlying205
 a59 := Tryz.isAgg205
 z59 := Tryz.sizeOf205
 v59 := Tryz.zeroValue205
 t146 := Tryz.underlying308
 a146 := Tryz.isAgg308
 z146 := Tryz.sizeOf308
 v146 := Tryz.zeroValue308
 g1 := by kernel_rfl
 i3 := by kernel_rfl
 i4 := by kernel_rfl
 i5 := by kernel_rfl
 i9 := by kernel_rfl
 i46 := by kernel_rfl
 i51 := by kernel_rfl
 i59 := by kernel_rfl
 i146 := by kernel_rfl
 m1 := by kernel_rfl
 s1_3 := fun w h => Go.Proofs.cell_of_shapedOpen_int (zero := #[.int .i64 0]) (t := 3) h (of_decide_eq_true (by kernel_rfl)) (by kernel_rfl) rfl (by kernel_rfl) (by kernel_rfl) Tryz.underlying3 }
end Go.Proofs
namespace Go.Proofs.YtglnhnjmelilmaaGreatDoor
open Go Go.RowKit Go.Pal Go.Shelf
attribute [local go_sem] Oper.semAt_some
def Mxl (w : World) : Prop := ∀ W, Below w.heap.size w W → ∃ m, W.cell? ⟨2, 0, none⟩ = some (.int .i64 m)
theorem Mxl.on {w w' : World} (h : Mxl w) (hb : Below w.heap.size w w') : Mxl w' := fun W hW => h W (hb.trans (hW.mono hb.size))
theorem split_any (c : UInt8) (s : List UInt8) (hs : s.length ≤ 8388608) (w : World) (hM : Mxl w) :
   Calls Tryz.prog 74 #[.string ⟨s.toArray⟩, .string ⟨#[c]⟩] w fun e w' => e = .returned (.slice (some ⟨w.heap.size, 0, none⟩) (partsA c [] s).length (partsA c [] s).length) ∧ row? w' w.heap.size = some (((partsA c [] s).map fun p => Value.string ⟨p.toArray⟩).toArray) ∧ Below w.heap.size w w' ∧ w.heap.size < w'.heap.size := by
 have hsz : (⟨s.toArray⟩ : ByteArray).size = s.length := by simp [ByteArray.size]
 obtain ⟨m, hm⟩ := hM w (Below.refl _ _)
 refine (Any.strings_Split (ρ := Tryz.laysSplitM_ren) { Tryz.laysSplitM with } Tryz.laysSplitM.i9 ⟨s.toArray⟩ ⟨#[c]⟩ m w (by omega) hm (Nat.le_refl 1)).mono ?_
 rintro e w' ⟨rfl, rfl⟩
 rw [count1, split1 c _ s (Nat.le_refl _), List.map_map]
 exact ⟨rfl, row?_alloc_at _ _ _ _ rfl, (Below.refl _ w).alloc (Nat.le_refl _) _, by simp⟩
theorem cut1_any (c : UInt8) (s : List UInt8) (hs : s.length ≤ 8388608) (w : World) (hM : Mxl w) :
   Calls Tryz.prog 122 #[.string ⟨s.toArray⟩, .string ⟨#[c]⟩] w fun e w' => e = .returned (.tuple #[.string ⟨(Lib.cut s [c]).1.toArray⟩, .string ⟨(Lib.cut s [c]).2.1.toArray⟩, .bool (Lib.cut s [c]).2.2]) ∧ Below w.heap.size w w' := by
 have hsz : (⟨s.toArray⟩ : ByteArray).size = s.length := by simp [ByteArray.size]
 obtain ⟨m, hm⟩ := hM w (Below.refl _ _)
 refine (Any.strings_Cut (ρ := Tryz.laysCutM_ren) { Tryz.laysCutM with } ⟨s.toArray⟩ ⟨#[c]⟩ m w (by omega) hm).mono ?_
 rintro e w' ⟨rfl, n, rfl⟩
 exact ⟨by simp, ⟨rfl, rfl, rfl, Nat.le_refl _, fun _ _ => rfl⟩⟩
def WordsRes (B : Nat) (s : List UInt8) (e : Ending) (w' : World) : Prop := (∃ wd l v, wordsT s = some (wd, l) ∧ e = .returned (.tuple #[.string ⟨wd.toArray⟩, v, .bool true]) ∧ OwnI B w' v l) ∨ (wordsT s = none ∧ e = .returned (.tuple #[.string ⟨#[]⟩, .slice none 0 0, .bool false]))
set_option maxRecDepth 10000 in
set_option maxHeartbeats 1000000 in
theorem words_any (s : List UInt8) (hs : s.length ≤ 8388608) (w : World) (hP : Pow w) (hE : Errs w) (hM : Mxl w) :
   Calls Tryz.prog 53 #[.string ⟨s.toArray⟩] w fun e w' => WordsRes w.heap.size s e w' ∧ Below w.heap.size w w' := by
 have HP := Lib.hid hP
 have HE := Lib.hid hE
 have HSp := Lib.hid (split_any 32 s hs w hM)
 obtain ⟨P, hP0⟩ : ∃ P, P = partsA 32 [] s := ⟨_, rfl⟩
 have hne : P ≠ [] := by rw [hP0]; exact partsA_ne 32 s []
 have HPl := Lib.hid (show ∀ p ∈ P, p.length ≤ 8388608 from fun p hp => by rw [hP0] at hp; have := partsA_len p hp; simp at this; omega)
 have hct : P.length ≤ 8388609 := by rw [hP0]; have := partsA_count 32 s []; omega
 rw [← hP0] at HSp
 have HW := Lib.hid (show (∀ l, numsA [] P.tail = some l → wordsT s = some (P.head?.getD [], l)) ∧ (numsA [] P.tail = none → wordsT s = none) from by rw [hP0]; exact ⟨fun l h => wordsT_some h, fun h => wordsT_none h⟩)
 clear hP hE hM hP0
 obtain ⟨p0, T, rfl⟩ : ∃ p0 T, P = p0 :: T := by
   cases P with
   | nil => exact absurd rfl hne
   | cons p r => exact ⟨p, r, rfl⟩
 rw [List.tail_cons] at HW
 have hn : (p0 :: T).length = T.length + 1 := rfl
 obtain ⟨NP, hNP⟩ : ∃ NP, NP = (p0 :: T).length := ⟨_, rfl⟩
 have hNT : T.length = NP - 1 := by omega
 have hN1 : 1 ≤ NP := by omega
 rw [← hNP] at HSp hct
 clear hn hne hNP
 go_enter Tryz.func53, Tryz.ntmps53
 go_wp2_with fail
 refine HSp.out.mono ?_
 rintro e w1 ⟨rfl, hr, hb1, hlt1⟩
 have HR := Lib.hid hr
 have HB1 := Lib.hid hb1
 have c0 : w1.cell? ⟨w.heap.size, 0, none⟩ = some (.string ⟨p0.toArray⟩) := (cell?_row (i := 0) hr).trans rfl
 clear hr hb1 HSp
 by_cases hT0 : NP = 1
 · go_wp2_with fail
   go_loopw [6, 16] (fun out i wr => ∃ (k : Nat) (acc : List Int), i = .int .i64 (k : Int) ∧ k ≤ T.length ∧ acc.length ≤ 4 ∧ OwnI w1.heap.size wr out acc ∧ Below w1.heap.size w1 wr ∧ numsA [] T = numsA acc (T.drop k)) (fun _ i _ => T.length - (intOf i).toNat)
   case atStart => exact ⟨0, [], rfl, by omega, by simp, OwnI.nil _ _, Below.refl _ _, rfl⟩
   case round =>
     obtain ⟨k, acc, rfl, hk, ha4, hO, hb, hnum⟩ := hrel
     have HO := Lib.hid hO
     have HB := Lib.hid hb
     have HB0 := Lib.hid (HB1.out.trans (hb.mono (Nat.le_of_lt hlt1)))
     have hsz := hb.size
     have HNu := Lib.hid hnum
     have c0r : wr.cell? ⟨w.heap.size, 0, none⟩ = some (.string ⟨p0.toArray⟩) := (hb.cell (p := ⟨w.heap.size, 0, none⟩) hlt1).trans c0
     clear hO hb hnum
     by_cases hlt : k < T.length
     · exfalso; omega
     · have hkn : k = T.length := by omega
       have HYes := Lib.hid (HW.out.1 acc (by rw [HNu.out, List.drop_eq_nil_of_le (by omega), numsA_nil]))
       have hkn2 : ¬ (k : Int) < ((NP - 1 : Nat) : Int) := by omega
       clear hkn
       go_wp2_with fail
       go_ret3
       exact ⟨.inl ⟨_, _, _, HYes.out, rfl, HO.out.lower (Nat.le_of_lt hlt1)⟩, HB0.out⟩
 · go_wp2_with fail
   go_loopw [6, 16] (fun out i wr => ∃ (k : Nat) (acc : List Int), i = .int .i64 (k : Int) ∧ k ≤ T.length ∧ acc.length ≤ 4 ∧ OwnI w1.heap.size wr out acc ∧ Below w1.heap.size w1 wr ∧ numsA [] T = numsA acc (T.drop k)) (fun _ i _ => T.length - (intOf i).toNat)
   case atStart => exact ⟨0, [], rfl, by omega, by simp, OwnI.nil _ _, Below.refl _ _, rfl⟩
   case round =>
     obtain ⟨k, acc, rfl, hk, ha4, hO, hb, hnum⟩ := hrel
     have HO := Lib.hid hO
     have HB := Lib.hid hb
     have HB0 := Lib.hid (HB1.out.trans (hb.mono (Nat.le_of_lt hlt1)))
     have hsz := hb.size
     have HNu := Lib.hid hnum
     have c0r : wr.cell? ⟨w.heap.size, 0, none⟩ = some (.string ⟨p0.toArray⟩) := (hb.cell (p := ⟨w.heap.size, 0, none⟩) hlt1).trans c0
     clear hO hb hnum
     by_cases hlt : k < T.length
     · obtain ⟨p, hp⟩ : ∃ p, T[k]? = some p := ⟨_, List.getElem?_eq_getElem hlt⟩
       have hrp : (((p0 :: T).map fun p => Value.string ⟨p.toArray⟩).toArray)[1 + k]? = some (.string ⟨p.toArray⟩) := by
         rw [List.getElem?_toArray, List.getElem?_map, Nat.add_comm 1 k, List.getElem?_cons_succ, hp]; rfl
       have c1 : wr.cell? ⟨w.heap.size, 1 + k, none⟩ = some (.string ⟨p.toArray⟩) := (HB.out.cell (p := ⟨w.heap.size, 1 + k, none⟩) hlt1).trans ((cell?_row (i := 1 + k) HR.out).trans hrp)
       have hpl := HPl.out p (List.mem_cons_of_mem _ (List.mem_of_getElem? hp))
       have HD := Lib.hid (show T.drop k = p :: T.drop (k + 1) from by obtain ⟨h1, h2⟩ := List.getElem?_eq_some_iff.1 hp; rw [← h2]; exact List.drop_eq_getElem_cons h1)
       have hkn : (k : Int) < ((NP - 1 : Nat) : Int) := by omega
       clear hp hrp
       go_wp2_with fail
       refine (number_any p hpl wr (HP.out.on HB0.out) (HE.out.on HB0.out)).mono ?_
       rintro e w2 ⟨hb2, h⟩
       have HB2 := Lib.hid (HB.out.trans (hb2.mono hsz))
       have HB02 := Lib.hid (HB0.out.trans (hb2.mono HB0.out.size))
       have HO2 := Lib.hid (HO.out.below hb2 (Nat.le_refl _))
       have hsz2 : w1.heap.size ≤ w2.heap.size := Nat.le_trans hsz hb2.size
       clear hb2 c0r c1
       rcases h with ⟨n, hn, rfl⟩ | ⟨n, hn, rfl⟩
       · have HN := Lib.hid hn
         clear hn
         by_cases h4 : acc.length = 4
         · have HNo := Lib.hid (HW.out.2 (by rw [HNu.out, HD.out, numsA_some HN.out, if_pos h4]))
           obtain ⟨qo, co, rfl⟩ := HO2.out.sl
           have h4b : ((acc.length : Int) == 4) = true := by rw [h4]; rfl
           go_wp2_with fail
           go_ret3
           exact ⟨.inr ⟨HNo.out, rfl⟩, HB02.out⟩
         · have HNx := Lib.hid (show numsA [] T = numsA (acc ++ [n]) (T.drop (k + 1)) from by rw [HNu.out, HD.out, numsA_some HN.out, if_neg h4])
           obtain ⟨qo, co, rfl⟩ := HO2.out.sl
           have h4b : ((acc.length : Int) == 4) = false := beq_false_of_ne (by omega)
           go_wp2_with (at_builtin; refine wpList_appT rfl 82 Tryz.underlying82 _ _ rfl (w1.heap.size) _ (acc) rfl (HO2.out.alloc _) _ (n) _ rfl (by simp [go_sem]) (by first | omega | (simp; done) | (simp; omega)) (by first | (simp; done) | (simp; omega)) ?_)
           intro v' w3 hO3 hb3
           obtain ⟨q3, cap3, rfl⟩ := hO3.sl
           have HO3 := Lib.hid hO3
           have HB3 := Lib.hid ((HB2.out.alloc hsz2 _).trans hb3)
           clear hO3 hb3
           go_wp2_with fail
           go_roundw
           case rel => exact ⟨k + 1, acc ++ [n], by go_num, by omega, by simp; omega, HO3.out, HB3.out, HNx.out⟩
           case measure => simp [intOf]; omega
       · have HNo := Lib.hid (HW.out.2 (by rw [HNu.out, HD.out, numsA_none hn]))
         clear hn
         go_wp2_with fail
         go_ret3
         exact ⟨.inr ⟨HNo.out, rfl⟩, HB02.out⟩
     · have hkn : k = T.length := by omega
       have HYes := Lib.hid (HW.out.1 acc (by rw [HNu.out, List.drop_eq_nil_of_le (by omega), numsA_nil]))
       have hkn2 : ¬ (k : Int) < ((NP - 1 : Nat) : Int) := by omega
       clear hkn
       go_wp2_with fail
       go_ret3
       exact ⟨.inl ⟨_, _, _, HYes.out, rfl, HO.out.lower (Nat.le_of_lt hlt1)⟩, HB0.out⟩
def strLen : Value → Nat | .string b => b.size | _ => 0
theorem strLen_str (s : List UInt8) : strLen (.string ⟨s.toArray⟩) = s.length := by simp [strLen, ByteArray.size]
end Go.Proofs.YtglnhnjmelilmaaGreatDoor
namespace Go.Proofs.YtglnhnjmelilmaaGreatDoor
open Go Go.RowKit Go.Pal Go.Shelf
attribute [local go_sem] Oper.semAt_some str_get str_part
end Go.Proofs.YtglnhnjmelilmaaGreatDoor
