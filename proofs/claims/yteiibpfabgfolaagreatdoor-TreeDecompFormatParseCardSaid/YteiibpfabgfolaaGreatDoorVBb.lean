/- DERIVED: THE SHELF's CONTRACTS AT THIS DUMP, IN PLAIN WORDS (tools/lay-plain.mjs out of .. -/
import Derived.Shelf.Strings.SlTrimAscii
import Derived.Test.YteiibpfabgfolaaGreatDoorProg
import Derived.Test.YteiibpfabgfolaaGreatDoorVIa
import Derived.Test.YteiibpfabgfolaaGreatDoorVIe
import Derived.Test.YteiibpfabgfolaaGreatDoorVVd
import Derived.Test.YteiibpfabgfolaaGreatDoorVZa
import Derived.Test.YteiibpfabgfolaaGreatDoorVHx
set_option maxHeartbeats 2000000
set_option maxRecDepth 10000
set_option linter.all false
namespace Go.Proofs
open Go.Shelf
def Tryz.laysTrimL_ren : Go.Shelf.Ren := ⟨fun | 161 => 115 | 231 => 142 | 227 => 143 | 233 => 144 | 235 => 145 | 228 => 168 | 197 => 169 | 151 => 170 | 260 => 187 | 152 => 188 | 137 => 193 | 119 => 194 | 224 => 134 | 225 => 133 | 217 => 132 | 266 => 163 | n => n, fun | 9 => 9 | 4 => 4 | 3 => 3 | 5 => 5 | 117 => 188 | 116 => 187 | 0 => 0 | 124 => 191 | 105 => 218 | 21 => 21 | 119 => 243 | 46 => 167 | 139 => 246 | 138 => 245 | n => n, fun | 3 => 6 | 4 => 7 | n => n⟩
theorem Tryz.laysTrimL : Go.Proofs.Lays.n161 Tryz.prog Tryz.laysTrimL_ren := {
 mixed := by kernel_rfl
 f119 := Tryz.func194.trans (congrArg some (by kernel_rfl))
 f137 := Tryz.func193.trans (congrArg some (by kernel_rfl))
 f151 := Tryz.func170.trans (congrArg some (by kernel_rfl))
 f152 := Tryz.func188.trans (congrArg some (by kernel_rfl))
 f161 := Tryz.func115.trans (congrArg some (by kernel_rfl))
 f197 := Tryz.func169.trans (congrArg some (by kernel_rfl))
 f217 := Tryz.func132.trans (congrArg some (by kernel_rfl))
 f224 := Tryz.func134.trans (congrArg some (by kernel_rfl))
 f225 := Tryz.func133.trans (congrArg some (by kernel_rfl))
 f227 := Tryz.func143.trans (congrArg some (by kernel_rfl))
 f228 := Tryz.func168.trans (congrArg some (by kernel_rfl))
 f231 := Tryz.func142.trans (congrArg some (by kernel_rfl))
 f233 := Tryz.func144.trans (congrArg some (by kernel_rfl))
 f235 := Tryz.func145.trans (congrArg some (by kernel_rfl))
 f260 := Tryz.func187.trans (congrArg some (by kernel_rfl))
 f266 := Tryz.func163.trans (congrArg some (by kernel_rfl))
 t0 := Tryz.underlying0
 a0 := Tryz.isAgg0
 z0 := Tryz.sizeOf0
 v0 := Tryz.zeroValue0
 t3 := Tryz.underlying3
 a3 := Tryz.isAgg3
 z3 := Tryz.sizeOf3
 v3 := Tryz.zeroValue3
 t4 := Tryz.underlying4
 a4 := Tryz.isAgg4
 z4 := Tryz.sizeOf4
 v4 := Tryz.zeroValue4
 t5 := Tryz.underlying5
 a5 := Tryz.isAgg5
 z5 := Tryz.sizeOf5
 v5 := Tryz.zeroValue5
 t9 := Tryz.underlying9
 a9 := Tryz.isAgg9
 z9 := Tryz.sizeOf9
 v9 := Tryz.zeroValue9
 t21 := Tryz.underlying21
 a21 := Tryz.isAgg21
 z21 := Tryz.sizeOf21
 v21 := Tryz.zeroValue21
 t46 := Tryz.underlying167
 a46 := Tryz.isAgg167
 z46 := Tryz.sizeOf167
 v46 := Tryz.zeroValue167
 t105 := Tryz.underlying218
 a105 := Tryz.isAgg218
 z105 := Tryz.sizeOf218
 v105 := Tryz.zeroValue218
 t116 := Tryz.underlying187
 a116 := Tryz.isAgg187
 z116 := Tryz.sizeOf187
 t117 := Tryz.underlying188
 a117 := Tryz.isAgg188
 z117 := Tryz.sizeOf188
 v117 := Tryz.zeroValue188
 t119 := Tryz.underlying243
 a119 := Tryz.isAgg243
 z119 := Tryz.sizeOf243
 t124 := Tryz.underlying191
 a124 := Tryz.isAgg191
 z124 := Tryz.sizeOf191
 v124 := Tryz.zeroValue191
 t138 := Tryz.underlying245
 a138 := Tryz.isAgg245
 z138 := Tryz.sizeOf245
 v138 := Tryz.zeroValue245
 t139 := Tryz.underlying246
 a139 := Tryz.isAgg246
 z139 := Tryz.sizeOf246
 v139 := Tryz.zeroValue246
 g3 := by kernel_rfl
 g4 := by kernel_rfl }
end Go.Proofs
namespace Go.Pal
open Go Go.RowKit
theorem dig_contains (c : UInt8) : ([48, 49, 50, 51, 52, 53, 54, 55, 56, 57] : List UInt8).contains c = decide (isDig c) := by
 have key : ∀ n, n < 256 → ([48, 49, 50, 51, 52, 53, 54, 55, 56, 57] : List UInt8).contains (UInt8.ofNat n) = decide (isDig (UInt8.ofNat n)) := by decide +kernel
 have := key c.toNat c.toNat_lt
 rwa [UInt8.ofNat_toNat] at this
theorem dropWhile_digs (s : List UInt8) : s.dropWhile (([48, 49, 50, 51, 52, 53, 54, 55, 56, 57] : List UInt8).contains ·) = s.drop (digs s).length := by
 have e : (([48, 49, 50, 51, 52, 53, 54, 55, 56, 57] : List UInt8).contains ·) = fun c => decide (isDig c) := funext dig_contains
 rw [e]
 unfold digs
 induction s with
 | nil => rfl
 | cons c r ih =>
   rw [List.dropWhile_cons, List.takeWhile_cons]
   split
   · rw [ih]
     rfl
   · rfl
theorem digs_take (s : List UInt8) : s.take (digs s).length = digs s := by
 unfold digs
 exact (List.prefix_iff_eq_take.1 (List.takeWhile_prefix _)).symm
theorem snum_none {s : List UInt8} (h : badDig (digs s) = true) : snum s = (0, 3) := by unfold snum; rw [if_pos h]
theorem snum_big {s : List UInt8} (h : badDig (digs s) = false) (h2 : 1023 < dval 0 (digs s)) : snum s = (0, 2) := by unfold snum; rw [h, if_neg (by decide), if_pos h2]
theorem snum_ok {s : List UInt8} (h : badDig (digs s) = false) (h2 : dval 0 (digs s) ≤ 1023) : snum s = (dval 0 (digs s), 0) := by unfold snum; rw [h, if_neg (by decide), if_neg (by omega)]
theorem dval_big {d : List UInt8} (hd : ∀ c ∈ d, isDig c) (h : badDig d = false) (h4 : 4 < d.length) : 1023 < dval 0 d := by
 rcases Nat.lt_or_ge 1023 (dval 0 d) with h1 | h1
 · exact h1
 · have h2 := dec_len (u := dval 0 d) (k := 4) (by omega) (by omega)
   rw [badDig_good hd h] at h2
   omega
end Go.Pal
namespace Go.Proofs.YteiibpfabgfolaaGreatDoor
open Go Go.RowKit Go.Pal Go.Shelf
attribute [local go_sem] Oper.semAt_some str_get str_upto
theorem trim_any (s : List UInt8) (w : World) : Calls Tryz.prog 115 #[.string ⟨s.toArray⟩, .string ⟨#[48, 49, 50, 51, 52, 53, 54, 55, 56, 57]⟩] w fun e w' => e = .returned (.string ⟨(s.drop (digs s).length).toArray⟩) ∧ Below w.heap.size w w' := by
 refine (Any.strings_TrimLeft_laid Tryz.laysTrimL (by kernel_rfl) ⟨s.toArray⟩ ⟨#[48, 49, 50, 51, 52, 53, 54, 55, 56, 57]⟩ w (by decide) ?_).mono ?_
 · intro j b hb
   have hm := List.mem_of_getElem? hb
   have key : ∀ b : UInt8, b ∈ ([48, 49, 50, 51, 52, 53, 54, 55, 56, 57] : List UInt8) → b.toNat < 128 := by decide
   exact key b hm
 · rintro e w' ⟨rfl, hb⟩
   refine ⟨?_, hb⟩
   rw [← dropWhile_digs]
   show Ending.returned (.string ⟨(List.dropWhile _ (⟨s.toArray⟩ : ByteArray).data.toList).toArray⟩) = _
   rw [bytes_list]
theorem bnumber_any (s : List UInt8) (hs : s.length ≤ 8388608) (w : World) (hE : Errs w) :
   Calls Tryz.prog 65 #[.string ⟨s.toArray⟩] w fun e w' => e = .returned (.tuple #[.int .i64 ((snum s).1 : Nat), .string ⟨(s.drop (digs s).length).toArray⟩, .int .i64 ((snum s).2 : Nat)]) ∧ Below w.heap.size w w' := by
 have HE := Lib.hid hE
 have HTr := Lib.hid (trim_any s w)
 obtain ⟨X, hX⟩ : ∃ X, X = snum s := ⟨_, rfl⟩
 rw [← hX]
 have HX := Lib.hid hX
 have hdl := digs_len s
 have htk := digs_take s
 have hdd := fun c (hc : c ∈ digs s) => digs_mem hc
 obtain ⟨d, hd⟩ : ∃ d, d = digs s := ⟨_, rfl⟩
 have HD := Lib.hid hd
 rw [← hd] at hdl htk hdd HTr ⊢
 obtain ⟨r, hr⟩ : ∃ r, r = s.drop d.length := ⟨_, rfl⟩
 have hrl : r.length = s.length - d.length := by rw [hr, List.length_drop]
 rw [← hr] at HTr ⊢
 have HDd := Lib.hid hdd
 obtain ⟨K, hK⟩ : ∃ K, K = d.length := ⟨_, rfl⟩
 rw [← hK] at hdl htk hrl
 have hsub : (s.length : Int) - (r.length : Int) = (K : Int) := by omega
 have HK := Lib.hid hK
 clear hE hX hd hdd hr hrl hK
 go_enter Tryz.func65, Tryz.ntmps65
 go_wp2_with fail
 refine HTr.out.mono ?_
 rintro e w1 ⟨rfl, hb1⟩
 have HB1 := Lib.hid hb1
 clear hb1 HTr
 cases hbad : badDig d with
 | true =>
   have HEr := Lib.hid (show X = (0, 3) from by rw [HX.out]; exact snum_none (by rw [← HD.out]; exact hbad))
   match d, hbad with
   | [], _ =>
     go_wp2_with fail
     go_ret3
     exact ⟨by rw [HEr.out]; rfl, HB1.out⟩
   | [c], h => exact absurd h (by simp [badDig])
   | c :: c2 :: d3, h =>
     have hc48 : c = 48 := by simpa [badDig] using h
     subst hc48
     go_wp2_with fail
     go_ret3
     exact ⟨by rw [HEr.out]; rfl, HB1.out⟩
 | false =>
   have hz : ∀ c c2 d3, d = c :: c2 :: d3 → ¬ c = 48 := by
     intro c c2 d3 e hc
     rw [e, hc] at hbad
     simp [badDig] at hbad
   have hne : ¬ d = [] := by
     intro e
     rw [e] at hbad
     cases hbad
   have HBad := Lib.hid hbad
   clear hbad
   obtain ⟨q, hq⟩ : ∃ q, q = decide (4 < d.length) := ⟨_, rfl⟩
   obtain ⟨v, hv⟩ : ∃ v, v = dval 0 d := ⟨_, rfl⟩
   have HV := Lib.hid hv
   have hv9 : d.length ≤ 4 → v < 10000 := by
     intro h
     rw [hv]
     exact Nat.lt_of_lt_of_le (dval_lt d HDd.out) (Nat.pow_le_pow_right (by decide) h)
   have hat : d.length ≤ 4 → Lib.atoiAll d = .ok (v : Int) := by
     intro h
     have h9 := hv9 h
     rw [hv] at h9 ⊢
     exact (numOf_pos HDd.out hne (fun c r e hc => by
       match r, e with
       | [], _ => rfl
       | c2 :: r2, e => exact absurd (UInt8.toNat_inj.1 hc) (hz c c2 r2 e)) (by omega)).atoi
   have HAt := Lib.hid hat
   have HV9 := Lib.hid hv9
   have HBig := Lib.hid (show 4 < d.length → X = (0, 2) from fun h => by rw [HX.out]; exact snum_big (by rw [← HD.out]; exact HBad.out) (by rw [← HD.out]; exact dval_big HDd.out HBad.out h))
   have HMid := Lib.hid (show 1023 < v → X = (0, 2) from fun h => by rw [HX.out]; exact snum_big (by rw [← HD.out]; exact HBad.out) (by rw [← HD.out, ← HV.out]; exact h))
   have HOk := Lib.hid (show v ≤ 1023 → X = (v, 0) from fun h => by rw [HX.out, HV.out, HD.out]; exact snum_ok (by rw [← HD.out]; exact HBad.out) (by rw [← HD.out, ← HV.out]; exact h))
   clear hv hv9 hat
   match d, hne, hz with
   | [], hne, _ => exact absurd rfl hne
   | [c], _, _ =>
     go_wp2_with fail
     refine (atoi_any _ (by first | omega | (simp; done) | (simp; omega)) w1 (HE.out.on HB1.out)).mono ?_
     rintro e w2 ⟨hb2, h⟩
     have HB2 := Lib.hid (HB1.out.trans (hb2.mono HB1.out.size))
     clear hb2
     rcases h with ⟨n, hok, -, rfl⟩ | ⟨n, t, p, hno, rfl⟩
     · obtain rfl : n = (v : Int) := by
         have := (HAt.out (by first | omega | (simp; done) | (simp; omega))).symm.trans hok
         injection this with this
         exact this.symm
       have hv9 := HV9.out (by first | omega | (simp; done) | (simp; omega))
       clear hok
       go_wp2_with fail
       refine (fits_any (v : Int) w2).mono ?_
       rintro e w3 ⟨rfl, rfl⟩
       by_cases h1 : 1023 < v
       · have HEr := Lib.hid (HMid.out h1)
         have e1 : decide ((v : Int) < 1024) = false := decide_eq_false (by omega)
         have e2 : decide ((0 : Int) ≤ (v : Int)) = true := decide_eq_true (by omega)
         rw [e1, e2]
         go_wp2_with fail
         go_ret3
         exact ⟨by rw [HEr.out]; rfl, HB2.out⟩
       · have HEr := Lib.hid (HOk.out (by omega))
         have e1 : decide ((v : Int) < 1024) = true := decide_eq_true (by omega)
         have e2 : decide ((0 : Int) ≤ (v : Int)) = true := decide_eq_true (by omega)
         rw [e1, e2]
         go_wp2_with fail
         go_ret3
         exact ⟨by rw [HEr.out]; rfl, HB2.out⟩
     · exact absurd (HAt.out (by first | omega | (simp; done) | (simp; omega))) (hno _)
   | c :: c2 :: d3, _, hz =>
     have hc1 : ¬ c = 48 := hz c c2 d3 rfl
     have hc2 : ¬ c.toNat = 48 := fun h => hc1 (UInt8.toNat_inj.1 h)
     have hc3 : ((c.toNat : Int) == 48) = false := beq_false_of_ne (by omega)
     clear hz
     by_cases h4 : 4 < (c :: c2 :: d3).length
     · have HEr := Lib.hid (HBig.out h4)
       have h4b : decide ((4 : Int) < ((c :: c2 :: d3).length : Int)) = true := decide_eq_true (by omega)
       simp only [List.length_cons] at h4 h4b
       go_wp2_with fail
       go_ret3
       exact ⟨by rw [HEr.out]; rfl, HB1.out⟩
     · have h4b : decide ((4 : Int) < ((c :: c2 :: d3).length : Int)) = false := decide_eq_false (by omega)
       simp only [List.length_cons] at h4 h4b
       go_wp2_with fail
       refine (atoi_any _ (by first | omega | (simp; done) | (simp; omega)) w1 (HE.out.on HB1.out)).mono ?_
       rintro e w2 ⟨hb2, h⟩
       have HB2 := Lib.hid (HB1.out.trans (hb2.mono HB1.out.size))
       clear hb2
       rcases h with ⟨n, hok, -, rfl⟩ | ⟨n, t, p, hno, rfl⟩
       · obtain rfl : n = (v : Int) := by
           have := (HAt.out (by first | omega | (simp; done) | (simp; omega))).symm.trans hok
           injection this with this
           exact this.symm
         have hv9 := HV9.out (by first | omega | (simp; done) | (simp; omega))
         clear hok
         go_wp2_with fail
         refine (fits_any (v : Int) w2).mono ?_
         rintro e w3 ⟨rfl, rfl⟩
         by_cases h1 : 1023 < v
         · have HEr := Lib.hid (HMid.out h1)
           have e1 : decide ((v : Int) < 1024) = false := decide_eq_false (by omega)
           have e2 : decide ((0 : Int) ≤ (v : Int)) = true := decide_eq_true (by omega)
           rw [e1, e2]
           go_wp2_with fail
           go_ret3
           exact ⟨by rw [HEr.out]; rfl, HB2.out⟩
         · have HEr := Lib.hid (HOk.out (by omega))
           have e1 : decide ((v : Int) < 1024) = true := decide_eq_true (by omega)
           have e2 : decide ((0 : Int) ≤ (v : Int)) = true := decide_eq_true (by omega)
           rw [e1, e2]
           go_wp2_with fail
           go_ret3
           exact ⟨by rw [HEr.out]; rfl, HB2.out⟩
       · exact absurd (HAt.out (by first | omega | (simp; done) | (simp; omega))) (hno _)
theorem bparse_any (s : List UInt8) (hs : s.length ≤ 8388608) (w : World) (hE : Errs w) :
   Calls Tryz.prog 30 #[.string ⟨s.toArray⟩] w fun e w' => e = .returned (.tuple #[.agg (words (setL (readSet s).1)), .int .i64 ((readSet s).2 : Nat)]) ∧ Below w.heap.size w w' := by
 have HE := Lib.hid hE
 obtain ⟨X, hX⟩ : ∃ X, X = readSet s := ⟨_, rfl⟩
 have HX := Lib.hid hX
 rw [← hX]
 clear hE hX
 go_enter Tryz.func30, Tryz.ntmps30
 by_cases he : s = [123, 125]
 · subst he
   have HXe := Lib.hid (show X = ([], 0) from by rw [HX.out]; unfold readSet; rw [if_pos rfl])
   go_wp2_with fail
   refine ret_c2 w.heap.size (words 0) rfl Tryz.isAgg51 Tryz.sizeOf51 rfl rfl (by simp [go_sem]) (by simp only [words_size]) ⟨by rw [HXe.out]; rfl, ?_⟩
   (repeat' (first | (with_reducible first | exact Below.refl _ _ | assumption | refine Below.alloc ?_ ?_ _ | refine Below.drew ?_ | refine Below.setCell ?_ ?_ _ | refine below_setRow ?_ ?_ _ | exact Nat.le_refl _) | omega | (simp; done) | (simp; omega) | (simp at *; omega)))
 · have he2 : (s == [123, 125]) = false := by simpa using he
   have HEx := Lib.hid he
   clear he
   go_wp2_with fail
   refine (cut_any 123 s _).mono ?_
   rintro e w1 ⟨rfl, hw1⟩
   have r0 : row? w1 w.heap.size = some (words 0) := by rw [hw1]; simp [go_sem]
   have r1 : row? w1 (w.heap.size + 1) = some (words 0) := by rw [hw1]; simp [go_sem]
   have HB1 := Lib.hid (show Below w.heap.size w w1 from by rw [hw1]; exact ((Below.refl _ w).alloc (Nat.le_refl _) _).alloc (by simp) _)
   have hsz : w1.heap.size = w.heap.size + 2 := by rw [hw1]; simp
   clear hw1
   obtain ⟨b, hb⟩ : ∃ b, b = (cutB 123 s).2 := ⟨_, rfl⟩
   obtain ⟨s1, hs1⟩ : ∃ s1, s1 = (cutB 123 s).1 := ⟨_, rfl⟩
   have HSt := Lib.hid (show (b = true → ∃ n, X = readS (n + 1) s1 [] ∧ s1.length < n + 1) ∧ (b = false → X = ([], 3)) from by
     constructor
     · intro h
       rw [hb] at h
       have hse := congrArg List.length (cutB_hit h)
       rw [← hs1, List.length_cons] at hse
       refine ⟨s1.length, ?_, by omega⟩
       rw [HX.out, ← hse, hs1]
       unfold readSet
       rw [if_neg HEx.out, if_pos h]
     · intro h
       rw [hb] at h
       rw [HX.out]
       unfold readSet
       rw [if_neg HEx.out, if_neg (by rw [h]; simp)])
   have hsl := cutB_len 123 s
   rw [← hs1] at hsl
   rw [← hb, ← hs1]
   clear hb hs1
   go_wp2_with fail
   go_loopw [5, 6, 7] (fun rest is last wr => ∃ (t : List UInt8) (l : List Nat) (b : Bool), rest = .string ⟨t.toArray⟩ ∧ is = .bool b ∧ last = .int .i64 (lastI l) ∧ t.length ≤ s.length ∧ row? wr w.heap.size = some (words 0) ∧ row? wr (w.heap.size + 1) = some (words (setL l)) ∧ Below w.heap.size w wr ∧ w1.heap.size ≤ wr.heap.size ∧ (b = true → ∃ n, X = readS (n + 1) t l ∧ t.length < n + 1) ∧ (b = false → X = ([], 3))) (fun rest _ _ _ => strLen rest)
   case atStart => exact ⟨s1, [], b, rfl, rfl, rfl, hsl, r0, r1, HB1.out, Nat.le_refl _, HSt.out⟩
   case round =>
     clear r0 r1
     obtain ⟨t, l, b, rfl, rfl, rfl, htl, r0, r1, hb, hw, hm1, hm2⟩ := hrel
     have HB := Lib.hid hb
     obtain ⟨la, hla⟩ : ∃ la, la = lastI l := ⟨_, rfl⟩
     have HLa := Lib.hid hla
     rw [← hla]
     clear hb hla
     cases b with
     | false =>
       have HXe := Lib.hid (hm2 rfl)
       clear hm1 hm2
       go_wp2_with fail
       refine ret_c2 w.heap.size (words 0) rfl Tryz.isAgg51 Tryz.sizeOf51 rfl rfl (row?_setRow_same _ _ _ (by first | (rw [r0]; rfl) | (simp only [go_sem, r0]; rfl))) (by simp only [words_size]) ⟨by rw [HXe.out]; rfl, below_setRow (HB.out) (Nat.le_refl _) _⟩
     | true =>
       obtain ⟨n, hx, hn⟩ := hm1 rfl
       have HXn := Lib.hid (hx.trans (readS_succ n t l))
       clear hm1 hm2 hx
       obtain ⟨Y, hY⟩ : ∃ Y, Y = snum t := ⟨_, rfl⟩
       have hgood := @snum_good t
       rw [← hY] at HXn hgood
       have hdl := digs_len t
       have HNu := Lib.hid (bnumber_any t (by omega) wr (HE.out.on HB.out))
       rw [← hY] at HNu
       obtain ⟨r, hr⟩ : ∃ r, r = t.drop (digs t).length := ⟨_, rfl⟩
       have hrl : r.length = t.length - (digs t).length := by rw [hr, List.length_drop]
       rw [← hr] at HXn HNu
       have hpos : Y.2 = 0 → 1 ≤ (digs t).length := by
         intro h
         rw [(hgood h).2]
         exact List.length_pos_iff.2 (dec_ne _)
       have HGood := Lib.hid hgood
       obtain ⟨v, c⟩ := Y
       simp only at HXn HNu hpos
       clear hY hr hgood
       go_wp2_with fail
       refine HNu.out.mono ?_
       rintro e w2 ⟨rfl, hb2⟩
       have HB2 := Lib.hid (HB.out.trans (hb2.mono HB.out.size))
       replace r0 := (row?_below hb2 (by omega)).trans r0
       replace r1 := (row?_below hb2 (by omega)).trans r1
       have hw2 : w1.heap.size ≤ w2.heap.size := Nat.le_trans hw hb2.size
       clear hb2 HNu
       by_cases hc : c = 0
       · subst hc
         have hrt : r.length < t.length := by have := hpos rfl; omega
         have HX1 := Lib.hid (HXn.out.trans (if_neg (fun h => h rfl)))
         clear hpos hrl hdl
         by_cases hvl : (v : Int) ≤ la
         · have HXe := Lib.hid (HX1.out.trans (if_pos (by rw [← HLa.out]; exact hvl)))
           have d1 : decide ((v : Int) ≤ la) = true := decide_eq_true hvl
           go_wp2_with fail
           refine ret_c2 w.heap.size (words 0) rfl Tryz.isAgg51 Tryz.sizeOf51 rfl rfl (row?_setRow_same _ _ _ (by first | (rw [r0]; rfl) | (simp only [go_sem, r0]; rfl))) (by simp only [words_size]) ⟨by rw [HXe.out]; rfl, below_setRow (HB2.out) (Nat.le_refl _) _⟩
         · have HX2 := Lib.hid (HX1.out.trans (if_neg (by rw [← HLa.out]; exact hvl)))
           have d1 : decide ((v : Int) ≤ la) = false := decide_eq_false hvl
           have hvl2 : la < (v : Int) := by omega
           go_wp2_with fail
           refine (with_any (setL l) v _).mono ?_
           rintro e w5 ⟨rfl, hb5⟩
           have HB5 := Lib.hid (HB2.out.trans (hb5.mono HB2.out.size))
           rw [← setL_snoc]
           replace r0 := (row?_below hb5 (by omega)).trans r0
           replace r1 := (row?_below hb5 (by omega)).trans r1
           have hw5 : w1.heap.size ≤ w5.heap.size := Nat.le_trans hw2 hb5.size
           clear hb5
           by_cases h125 : r = [125]
           · have HXe := Lib.hid (HX2.out.trans (if_pos h125))
             subst h125
             go_wp2_with fail
             refine ret_c2 w.heap.size (words (setL (l ++ [v]))) rfl Tryz.isAgg51 Tryz.sizeOf51 rfl rfl (row?_setRow_same _ _ _ (by rw [row?_setRow_other _ _ _ _ (by omega), r0]; rfl)) (by simp only [words_size]) ⟨by rw [HXe.out]; rfl, below_setRow (below_setRow HB5.out (by omega) _) (by omega) _⟩
           · have HX3 := Lib.hid (HX2.out.trans (if_neg h125))
             have h126 : (r == [125]) = false := by simpa using h125
             clear h125
             go_wp2_with fail
             refine (cut_any 32 r _).mono ?_
             rintro e w6 ⟨rfl, hw6⟩
             have q0 : row? w6 w.heap.size = some (words 0) := by rw [hw6, row?_setRow_other _ _ _ _ (by omega)]; exact r0
             have q1 : row? w6 (w.heap.size + 1) = some (words (setL (l ++ [v]))) := by rw [hw6]; exact row?_setRow_same _ _ _ (by rw [r1]; rfl)
             have HB6 := Lib.hid (show Below w.heap.size w w6 from by rw [hw6]; exact below_setRow HB5.out (by omega) _)
             have hw6s : w1.heap.size ≤ w6.heap.size := by rw [hw6]; simpa using hw5
             have hlen := cutB_len 32 r
             have HSn := Lib.hid (show ((cutB 32 r).2 = true → ∃ n, X = readS (n + 1) (cutB 32 r).1 (l ++ [v]) ∧ (cutB 32 r).1.length < n + 1) ∧ ((cutB 32 r).2 = false → X = ([], 3)) from by
               constructor
               · intro h
                 obtain ⟨m, rfl⟩ : ∃ m, n = m + 1 := ⟨n - 1, by omega⟩
                 exact ⟨m, HX3.out.trans (if_pos h), by omega⟩
               · intro h
                 exact HX3.out.trans (if_neg (by rw [h]; simp)))
             obtain ⟨b', hb'⟩ : ∃ b, b = (cutB 32 r).2 := ⟨_, rfl⟩
             obtain ⟨s', hs'⟩ : ∃ b, b = (cutB 32 r).1 := ⟨_, rfl⟩
             rw [← hb', ← hs'] at HSn
             rw [← hs'] at hlen
             rw [← hb', ← hs']
             clear hw6 r0 r1 hb' hs'
             go_wp2_with fail
             go_roundw
             case rel => exact ⟨s', l ++ [v], b', rfl, rfl, by rw [lastI_snoc], by omega, q0, q1, HB6.out, hw6s, HSn.out⟩
             case measure => simp only [strLen_str]; omega
       · have HXe := Lib.hid (HXn.out.trans (if_pos hc))
         have e1 : ((c : Int) != 0) = true := by rw [bne_iff_ne]; omega
         have e2 : ¬ (c : Int) = 0 := by omega
         clear hc
         go_wp2_with fail
         refine ret_c2 w.heap.size (words 0) rfl Tryz.isAgg51 Tryz.sizeOf51 rfl rfl (row?_setRow_same _ _ _ (by first | (rw [r0]; rfl) | (simp only [go_sem, r0]; rfl))) (by simp only [words_size]) ⟨by rw [HXe.out]; rfl, below_setRow (HB2.out) (Nat.le_refl _) _⟩
end Go.Proofs.YteiibpfabgfolaaGreatDoor
