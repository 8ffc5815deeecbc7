/- Decimal numerals: what Itoa spells, Atoi reads; when a text is the numeral of a number of .. -/
import Derived.Test.YtglnhnjmelilmaaGreatDoorRVb
import Derived.Lib.AtoiAll
import Derived.Lib.AtoiAllCases
import Derived.Lib.ItoaMem
import Derived.Shelf.Strings.Split
import Derived.Shelf.Strconv.AtoiAll
import Derived.Test.YtglnhnjmelilmaaGreatDoorProg
set_option linter.all false
namespace Go.Pal
open Go Go.RowKit
def isDig (c : UInt8) : Prop := 48 ≤ c.toNat ∧ c.toNat ≤ 57
instance (c : UInt8) : Decidable (isDig c) := by unfold isDig; infer_instance
def dval (acc : Nat) (l : List UInt8) : Nat := l.foldl (fun a c => a * 10 + (c.toNat - 48)) acc
theorem dval_nil (acc : Nat) : dval acc [] = acc := by unfold dval; rw [List.foldl_nil]
theorem dval_cons (c : UInt8) (r : List UInt8) (acc : Nat) : dval acc (c :: r) = dval (acc * 10 + (c.toNat - 48)) r := by unfold dval; rw [List.foldl_cons]
theorem dval_append (l r : List UInt8) (acc : Nat) : dval acc (l ++ r) = dval (dval acc l) r := by unfold dval; rw [List.foldl_append]
theorem dval_snoc (l : List UInt8) (c : UInt8) (acc : Nat) : dval acc (l ++ [c]) = dval acc l * 10 + (c.toNat - 48) := by rw [dval_append, dval_cons, dval_nil]
theorem dval_le (l : List UInt8) : ∀ acc, acc ≤ dval acc l := by
 induction l with
 | nil => intro acc; rw [dval_nil]; exact Nat.le_refl _
 | cons c l ih =>
   intro acc
   have h := ih (acc * 10 + (c.toNat - 48))
   rw [dval_cons]
   omega
theorem dig_of {d : Nat} (h : d < 10) : (UInt8.ofNat (48 + d)).toNat = 48 + d := by
 rw [UInt8.toNat_ofNat']
 exact Nat.mod_eq_of_lt (by omega)
theorem dec_small {u : Nat} (h : u < 10) : Lib.decDigits u = [UInt8.ofNat (48 + u)] := Lib.decDigits_one h
theorem dec_big {u : Nat} (h : ¬ u < 10) : Lib.decDigits u = Lib.decDigits (u / 10) ++ [UInt8.ofNat (48 + u % 10)] := by rw [Lib.decDigits, dif_neg h]
theorem dec_all (u : Nat) : ∀ c ∈ Lib.decDigits u, isDig c := by
 induction u using Nat.strongRecOn with
 | _ u ih =>
   intro c hc
   by_cases h : u < 10
   · rw [dec_small h, List.mem_singleton] at hc
     subst hc
     unfold isDig
     rw [dig_of h]
     omega
   · rw [dec_big h, List.mem_append, List.mem_singleton] at hc
     rcases hc with hc | rfl
     · exact ih (u / 10) (by omega) c hc
     · unfold isDig
       rw [dig_of (by omega)]
       omega
theorem dval_dec (u : Nat) : dval 0 (Lib.decDigits u) = u := by
 induction u using Nat.strongRecOn with
 | _ u ih =>
   by_cases h : u < 10
   · have e := dval_snoc [] (UInt8.ofNat (48 + u)) 0
     rw [dig_of h, List.nil_append] at e
     rw [dec_small h, e, dval_nil]
     omega
   · rw [dec_big h, dval_snoc, ih (u / 10) (by omega), dig_of (by omega)]
     omega
theorem dec_ne (u : Nat) : Lib.decDigits u ≠ [] := by
 by_cases h : u < 10
 · rw [dec_small h]; simp
 · rw [dec_big h]; simp
theorem dec_cons (u : Nat) : ∃ c r, Lib.decDigits u = c :: r ∧ isDig c := by
 cases h : Lib.decDigits u with
 | nil => exact absurd h (dec_ne u)
 | cons c r => exact ⟨c, r, rfl, dec_all u c (by rw [h]; simp)⟩
theorem parse_dig (l : List UInt8) : ∀ acc, (∀ c ∈ l, isDig c) → dval acc l < 18446744073709551616 → Lib.parseUint10 acc l = .ok (dval acc l) := by
 induction l with
 | nil => intro acc _ _; rw [dval_nil]; rfl
 | cons c l ih =>
   intro acc hd hv
   have hc := hd c (by simp)
   have hle := dval_le l (acc * 10 + (c.toNat - 48))
   rw [dval_cons] at hv ⊢
   unfold Lib.parseUint10
   rw [if_pos (show 48 ≤ c.toNat ∧ c.toNat ≤ 57 from hc), if_neg (by omega), if_neg (by omega)]
   exact ih _ (fun x hx => hd x (by simp [hx])) hv
theorem atoi_itoa {n : Int} (h : InI n) : Lib.atoiAll (Lib.itoa n) = .ok n := by
 obtain ⟨h0, h1⟩ := h
 by_cases hn : n < 0
 · obtain ⟨u, hu⟩ : ∃ u : Nat, n = -(u : Int) := ⟨n.natAbs, by omega⟩
   subst hu
   rw [Lib.itoa_neg u (by omega)]
   have hp := parse_dig (Lib.decDigits u) 0 (dec_all u) (by rw [dval_dec]; omega)
   rw [dval_dec] at hp
   have hm : Lib.parseMag (Lib.decDigits u) = .ok u := by
     unfold Lib.parseMag
     rw [if_neg (dec_ne u), hp]
   have h45 : (45 : UInt8).toNat = 45 := rfl
   simp only [Lib.atoiAll, h45, or_true, if_true, hm, not_true, false_and, if_false, true_and]
   rw [if_neg (by omega)]
 · obtain ⟨u, hu⟩ : ∃ u : Nat, n = (u : Int) := ⟨n.toNat, by omega⟩
   subst hu
   rw [Lib.itoa_nonneg u]
   obtain ⟨c, r, hc, hcd⟩ := dec_cons u
   have hp := parse_dig (Lib.decDigits u) 0 (dec_all u) (by rw [dval_dec]; omega)
   rw [dval_dec] at hp
   have hm : Lib.parseMag (Lib.decDigits u) = .ok u := by
     unfold Lib.parseMag
     rw [if_neg (dec_ne u), hp]
   unfold isDig at hcd
   rw [hc] at hm ⊢
   rw [Lib.atoiAll_plain c r (by omega) (by omega), hm]
   show (if 9223372036854775808 ≤ u then Lib.NumEnd.range else Lib.NumEnd.ok (u : Int)) = _
   rw [if_neg (by omega)]
theorem itoa_inj {n m : Int} (hn : InI n) (hm : InI m) (h : Lib.itoa n = Lib.itoa m) : n = m := by
 have h1 := atoi_itoa hn
 rw [h, atoi_itoa hm] at h1
 injection h1 with h1
 exact h1.symm
def NumOf (s : List UInt8) (n : Int) : Prop := s = Lib.itoa n ∧ -2147483648 ≤ n ∧ n ≤ 2147483648
theorem NumOf.inI {s : List UInt8} {n : Int} (h : NumOf s n) : InI n := ⟨by have := h.2.1; omega, by have := h.2.2; omega⟩
theorem NumOf.eq {s : List UInt8} {n m : Int} (h : NumOf s n) (h' : NumOf s m) : n = m := itoa_inj h.inI h'.inI (h.1.symm.trans h'.1)
theorem NumOf.atoi {s : List UInt8} {n : Int} (h : NumOf s n) : Lib.atoiAll s = .ok n := by rw [h.1]; exact atoi_itoa h.inI
noncomputable def numb (s : List UInt8) : Option Int := by
 classical exact if h : ∃ n, NumOf s n then some h.choose else none
theorem numb_some {s : List UInt8} {n : Int} (h : NumOf s n) : numb s = some n := by
 have hex : ∃ n, NumOf s n := ⟨n, h⟩
 unfold numb
 rw [dif_pos hex, hex.choose_spec.eq h]
theorem numb_none {s : List UInt8} (h : ∀ n, ¬ NumOf s n) : numb s = none := by
 unfold numb
 rw [dif_neg (fun ⟨n, hn⟩ => h n hn)]
end Go.Pal
namespace Go.Proofs
open Go.Shelf
def Tryz.laysAtoi_ren : Go.Shelf.Ren := ⟨fun | 172 => 167 | 244 => 189 | 245 => 190 | 247 => 224 | 279 => 225 | 280 => 226 | 281 => 227 | 282 => 228 | 287 => 248 | 316 => 249 | 171 => 93 | 205 => 250 | 321 => 257 | 322 => 258 | 243 => 163 | 246 => 187 | 283 => 220 | 284 => 221 | 285 => 222 | 286 => 223 | 129 => 202 | 317 => 244 | 318 => 245 | 319 => 246 | 320 => 247 | 337 => 256 | 338 => 186 | n => n, fun | 9 => 9 | 3 => 3 | 75 => 128 | 76 => 129 | 4 => 4 | 5 => 5 | 167 => 279 | 37 => 120 | 0 => 0 | 85 => 280 | 2 => 2 | 168 => 282 | 53 => 77 | 175 => 299 | 46 => 234 | 210 => 303 | 127 => 204 | 145 => 319 | 143 => 317 | 21 => 21 | 171 => 275 | 173 => 277 | 212 => 297 | 51 => 256 | 20 => 20 | 213 => 298 | 232 => 321 | 233 => 274 | 80 => 135 | n => n, fun | 15 => 4 | 16 => 5 | 17 => 3 | 18 => 8 | 19 => 1 | n => n⟩
theorem Tryz.laysAtoi : Go.Proofs.LaysC.n172 Tryz.prog Tryz.laysAtoi_ren := {
 mixed := by kernel_rfl
 f129 := Tryz.func202.trans (congrArg some (by kernel_rfl))
 f171 := Tryz.func93.trans (congrArg some (by kernel_rfl))
 f172 := Tryz.func167.trans (congrArg some (by kernel_rfl))
 f205 := Tryz.func250.trans (congrArg some (by kernel_rfl))
 f243 := Tryz.func163.trans (congrArg some (by kernel_rfl))
 f244 := Tryz.func189.trans (congrArg some (by kernel_rfl))
 f245 := Tryz.func190.trans (congrArg some (by kernel_rfl))
 f246 := Tryz.func187.trans (congrArg some (by kernel_rfl))
 f247 := Tryz.func224.trans (congrArg some (by kernel_rfl))
 f279 := Tryz.func225.trans (congrArg some (by kernel_rfl))
 f280 := Tryz.func226.trans (congrArg some (by kernel_rfl))
 f281 := Tryz.func227.trans (congrArg some (by kernel_rfl))
 f282 := Tryz.func228.trans (congrArg some (by kernel_rfl))
 f283 := Tryz.func220.trans (congrArg some (by kernel_rfl))
 f284 := Tryz.func221.trans (congrArg some (by kernel_rfl))
 f285 := Tryz.func222.trans (congrArg some (by kernel_rfl))
 f286 := Tryz.func223.trans (congrArg some (by kernel_rfl))
 f287 := Tryz.func248.trans (congrArg some (by kernel_rfl))
 f316 := Tryz.func249.trans (congrArg some (by kernel_rfl))
 f317 := Tryz.func244.trans (congrArg some (by kernel_rfl))
 f318 := Tryz.func245.trans (congrArg some (by kernel_rfl))
 f319 := Tryz.func246.trans (congrArg some (by kernel_rfl))
 f320 := Tryz.func247.trans (congrArg some (by kernel_rfl))
 f321 := Tryz.func257.trans (congrArg some (by kernel_rfl))
 f322 := Tryz.func258.trans (congrArg some (by kernel_rfl))
 f337 := Tryz.func256.trans (congrArg some (by kernel_rfl))
 f338 := Tryz.func186.trans (congrArg some (by kernel_rfl))
 t0 := Tryz.underlying0
 a0 := Tryz.isAgg0
 z0 := Tryz.sizeOf0
 v0 := Tryz.zeroValue0
 t2 := Tryz.underlying2
 a2 := Tryz.isAgg2
 z2 := Tryz.sizeOf2
 v2 := Tryz.zeroValue2
 t3 := Tryz.underlying3
 a3 := Tryz.isAgg3
 z3 := Tryz.sizeOf3
 v3 := Tryz.zeroValue3
 t4 := Tryz.underlying4
 a4 := Tryz.isAgg4
 z4 := Tryz.sizeOf4
 v4 := Tryz.zeroValue4
 t5 := Tryz.underlying5
 a5 := Tryz.isAgg5
 z5 := Tryz.sizeOf5
 v5 := Tryz.zeroValue5
 t9 := Tryz.underlying9
 a9 := Tryz.isAgg9
 z9 := Tryz.sizeOf9
 v9 := Tryz.zeroValue9
 t20 := Tryz.underlying20
 a20 := Tryz.isAgg20
 z20 := Tryz.sizeOf20
 v20 := Tryz.zeroValue20
 t21 := Tryz.underlying21
 a21 := Tryz.isAgg21
 z21 := Tryz.sizeOf21
 v21 := Tryz.zeroValue21
 t37 := Tryz.underlying120
 a37 := Tryz.isAgg120
 z37 := Tryz.sizeOf120
 v37 := Tryz.zeroValue120
 t46 := Tryz.underlying234
 a46 := Tryz.isAgg234
 z46 := Tryz.sizeOf234
 v46 := Tryz.zeroValue234
 t51 := Tryz.underlying256
 a51 := Tryz.isAgg256
 z51 := Tryz.sizeOf256
 v51 := Tryz.zeroValue256
 t53 := Tryz.underlying77
 a53 := Tryz.isAgg77
 z53 := Tryz.sizeOf77
 v53 := Tryz.zeroValue77
 t75 := Tryz.underlying128
 a75 := Tryz.isAgg128
 z75 := Tryz.sizeOf128
 v75 := Tryz.zeroValue128
 t76 := Tryz.underlying129
 a76 := Tryz.isAgg129
 z76 := Tryz.sizeOf129
 v76 := Tryz.zeroValue129
 t85 := Tryz.underlying280
 a85 := Tryz.isAgg280
 z85 := Tryz.sizeOf280
 v85 := Tryz.zeroValue280
 t127 := Tryz.underlying204
 a127 := Tryz.isAgg204
 z127 := Tryz.sizeOf204
 v127 := Tryz.zeroValue204
 t143 := Tryz.underlying317
 a143 := Tryz.isAgg317
 z143 := Tryz.sizeOf317
 v143 := Tryz.zeroValue317
 t145 := Tryz.underlying319
 a145 := Tryz.isAgg319
 z145 := Tryz.sizeOf319
 v145 := Tryz.zeroValue319
 t167 := Tryz.underlying279
 a167 := Tryz.isAgg279
 z167 := Tryz.sizeOf279
 v167 := Tryz.zeroValue279
 t168 := Tryz.underlying282
 a168 := Tryz.isAgg282
 z168 := Tryz.sizeOf282
 v168 := Tryz.zeroValue282
 t171 := Tryz.underlying275
 a171 := Tryz.isAgg275
 z171 := Tryz.sizeOf275
 v171 := Tryz.zeroValue275
 t173 := Tryz.underlying277
 a173 := Tryz.isAgg277
 z173 := Tryz.sizeOf277
 v173 := Tryz.zeroValue277
 t175 := Tryz.underlying299
 a175 := Tryz.isAgg299
 z175 := Tryz.sizeOf299
 v175 := Tryz.zeroValue299
 t210 := Tryz.underlying303
 a210 := Tryz.isAgg303
 z210 := Tryz.sizeOf303
 v210 := Tryz.zeroValue303
 t212 := Tryz.underlying297
 a212 := Tryz.isAgg297
 z212 := Tryz.sizeOf297
 v212 := Tryz.zeroValue297
 t213 := Tryz.underlying298
 a213 := Tryz.isAgg298
 z213 := Tryz.sizeOf298
 t232 := Tryz.underlying321
 a232 := Tryz.isAgg321
 z232 := Tryz.sizeOf321
 v232 := Tryz.zeroValue321
 t233 := Tryz.underlying274
 a233 := Tryz.isAgg274
 z233 := Tryz.sizeOf274
 v233 := Tryz.zeroValue274
 g15 := by kernel_rfl
 g16 := by kernel_rfl
 g17 := by kernel_rfl
 g18 := by kernel_rfl
 g19 := by kernel_rfl
 t80 := Tryz.underlying135
 a80 := Tryz.isAgg135
 z80 := Tryz.sizeOf135
 v80 := Tryz.zeroValue135
 i0 := by kernel_rfl
 i2 := by kernel_rfl
 i3 := by kernel_rfl
 i4 := by kernel_rfl
 i5 := by kernel_rfl
 i9 := by kernel_rfl
 i20 := by kernel_rfl
 i21 := by kernel_rfl
 i37 := by kernel_rfl
 i46 := by kernel_rfl
 i51 := by kernel_rfl
 i53 := by kernel_rfl
 i75 := by kernel_rfl
 i76 := by kernel_rfl
 i80 := by kernel_rfl
 i85 := by kernel_rfl
 i127 := by kernel_rfl
 i143 := by kernel_rfl
 i145 := by kernel_rfl
 i167 := by kernel_rfl
 i168 := by kernel_rfl
 i171 := by kernel_rfl
 i173 := by kernel_rfl
 i175 := by kernel_rfl
 i210 := by kernel_rfl
 i212 := by kernel_rfl
 i232 := by kernel_rfl
 i233 := by kernel_rfl
 m15 := by kernel_rfl
 m16 := by kernel_rfl
 m17 := by kernel_rfl
 m18 := by kernel_rfl
 m19 := by kernel_rfl
 c0 := by kernel_rfl
 c2 := by kernel_rfl
 c3 := by kernel_rfl
 c4 := by kernel_rfl
 c5 := by kernel_rfl
 c9 := by kernel_rfl
 c20 := by kernel_rfl
 c21 := by kernel_rfl
 c37 := by kernel_rfl
 c46 := by kernel_rfl
 c51 := by kernel_rfl
 c53 := by kernel_rfl
 c75 := by kernel_rfl
 c76 := by kernel_rfl
 c80 := by kernel_rfl
 c85 := by kernel_rfl
 c127 := by kernel_rfl
 c143 := by kernel_rfl
 c145 := by kernel_rfl
 c167 := by kernel_rfl
 c168 := by kernel_rfl
 c171 := by kernel_rfl
 c173 := by kernel_rfl
 c175 := by kernel_rfl
 c210 := by kernel_rfl
 c212 := by kernel_rfl
 c213 := by kernel_rfl
 c232 := by kernel_rfl
 c233 := by kernel_rfl }
end Go.Proofs
namespace Go.Proofs.YtglnhnjmelilmaaGreatDoor
open Go Go.RowKit Go.Pal Go.Shelf
attribute [local go_sem] Oper.semAt_some
def Errs (w : World) : Prop := ∀ W, Below w.heap.size w W → (∃ ev, W.cell? ⟨Tryz.laysAtoi_ren.g 15, 0, none⟩ = some ev ∧ (ev = .nilIface ∨ ∃ te pe, ev = .iface te pe)) ∧ ∃ ev, W.cell? ⟨Tryz.laysAtoi_ren.g 16, 0, none⟩ = some ev ∧ (ev = .nilIface ∨ ∃ te pe, ev = .iface te pe)
theorem Errs.on {w w' : World} (h : Errs w) (hb : Below w.heap.size w w') : Errs w' := fun W hW => h W (hb.trans (hW.mono hb.size))
theorem atoi_any (s : List UInt8) (hs : s.length ≤ 8388608) (w : World) (hE : Errs w) :
   Calls Tryz.prog 167 #[.string ⟨s.toArray⟩] w fun e w' => Below w.heap.size w w' ∧ ((∃ n, Lib.atoiAll s = .ok n ∧ InI n ∧ e = .returned (.tuple #[.int .i64 n, .nilIface])) ∨ ∃ n t p, (∀ m, Lib.atoiAll s ≠ .ok m) ∧ e = .returned (.tuple #[.int .i64 n, .iface t p])) := by
 have hsz : (⟨s.toArray⟩ : ByteArray).size = s.length := by simp [ByteArray.size]
 have hd : (⟨s.toArray⟩ : ByteArray).data.toList = s := by simp
 obtain ⟨⟨ev, h1, h2⟩, ev2, h3, h4⟩ := hE w (Below.refl _ _)
 cases hc : Lib.atoiAll s
 · rename_i n
   have hb := Lib.atoiAll_bounds hc
   refine (Any.strconv_Atoi_ok Tryz.laysAtoi ⟨s.toArray⟩ (by omega) n (by rw [hd]; exact hc) w).mono ?_
   rintro e w' ⟨rfl, hw⟩
   refine ⟨?_, .inl ⟨n, rfl, hb, rfl⟩⟩
   rcases hw with rfl | ⟨t, rfl⟩
   · exact Below.refl _ _
   · exact Lib.bytesWorld_below _ _ _
 · refine (Any.strconv_Atoi_syntax Tryz.laysAtoi ⟨s.toArray⟩ (by omega) (by rw [hd]; exact hc) ev w h1 h2).mono ?_
   rintro e w' ⟨N, rfl, -, -, hb⟩
   exact ⟨hb, .inr ⟨_, _, _, (fun m h => (by cases h)), rfl⟩⟩
 · refine (Any.strconv_Atoi_range Tryz.laysAtoi ⟨s.toArray⟩ (by omega) (by rw [hd]; exact hc) ev2 w h3 h4).mono ?_
   rintro e w' ⟨N, rfl, -, -, hb⟩
   exact ⟨hb, .inr ⟨_, _, _, (fun m h => (by cases h)), rfl⟩⟩
set_option maxHeartbeats 2000000 in
theorem number_any (s : List UInt8) (hs : s.length ≤ 8388608) (w : World) (hP : Pow w) (hE : Errs w) :
   Calls Tryz.prog 113 #[.string ⟨s.toArray⟩] w fun e w' => Below w.heap.size w w' ∧ ((∃ n, numb s = some n ∧ e = .returned (.tuple #[.int .i64 n, .bool true])) ∨ ∃ n, numb s = none ∧ e = .returned (.tuple #[.int .i64 n, .bool false])) := by
 have HP := Lib.hid hP
 have HA := Lib.hid (atoi_any s hs w hE)
 clear hP hE
 go_enter Tryz.func113, Tryz.ntmps113
 go_wp2_with fail
 refine HA.out.mono ?_
 rintro e w1 ⟨hb1, h⟩
 have HB1 := Lib.hid hb1
 clear hb1 HA
 rcases h with ⟨n, hok, hn, rfl⟩ | ⟨n, t, p, hno, rfl⟩
 · have HOk := Lib.hid hok
   have HN := Lib.hid hn
   clear hok hn
   go_wp2_with fail
   refine (itoa_any n HN.out w1 (HP.out.on HB1.out)).mono ?_
   rintro e w2 ⟨rfl, hb2⟩
   have HB2 := Lib.hid (HB1.out.trans (hb2.mono HB1.out.size))
   clear hb2
   by_cases he : Lib.itoa n = s
   · by_cases hr : n < -2147483648
     · have HNB := Lib.hid (numb_none (s := s) fun m hm => by
         have := hm.eq (m := m) hm
         have h1 : n = m := itoa_inj HN.out hm.inI (he.trans hm.1)
         have := hm.2.1
         omega)
       have hr1 : decide (n < -2147483648) = true := decide_eq_true hr
       subst he
       go_wp2_with fail
       go_ret2
       first | exact ⟨HB2.out, .inr ⟨_, HNB.out, rfl⟩⟩ | exact ⟨HB2.out, .inr ⟨HNB.out, _, rfl⟩⟩
     · by_cases hq : 2147483648 < n
       · have HNB := Lib.hid (numb_none (s := s) fun m hm => by
           have h1 : n = m := itoa_inj HN.out hm.inI (he.trans hm.1)
           have := hm.2.2
           omega)
         have hr1 : ¬ n ≤ 2147483648 := by omega
         have hr3 : decide (n ≤ 2147483648) = false := decide_eq_false hr1
         have hr2 : -2147483648 ≤ n := by omega
         subst he
         go_wp2_with fail
         go_ret2
         first | exact ⟨HB2.out, .inr ⟨_, HNB.out, rfl⟩⟩ | exact ⟨HB2.out, .inr ⟨HNB.out, _, rfl⟩⟩
       · have HNo := Lib.hid (numb_some (s := s) (n := n) ⟨he.symm, by omega, by omega⟩)
         have hr1 : n ≤ 2147483648 := by omega
         have hr2 : -2147483648 ≤ n := by omega
         subst he
         go_wp2_with fail
         go_ret2
         exact ⟨HB2.out, .inl ⟨_, HNo.out, rfl⟩⟩
   · have he1 : ¬ (Lib.itoa n).toArray = s.toArray := fun h => he (by simpa using h)
     have HNB := Lib.hid (numb_none (s := s) fun m hm => by
       have h1 := hm.atoi
       rw [HOk.out] at h1
       injection h1 with h1
       subst h1
       exact he hm.1.symm)
     go_wp2_with fail
     go_ret2
     first | exact ⟨HB2.out, .inr ⟨_, HNB.out, rfl⟩⟩ | exact ⟨HB2.out, .inr ⟨HNB.out, _, rfl⟩⟩
 · have hnb : numb s = none := numb_none fun m hm => hno m hm.atoi
   have HNB := Lib.hid hnb
   clear hno hnb
   go_wp2_with fail
   go_ret2
   first | exact ⟨HB1.out, .inr ⟨_, HNB.out, rfl⟩⟩ | exact ⟨HB1.out, .inr ⟨HNB.out, _, rfl⟩⟩
end Go.Proofs.YtglnhnjmelilmaaGreatDoor
namespace Go.Pal
open Go Go.RowKit
theorem str_get (l : List UInt8) (i : Nat) (h : i < (⟨l.toArray⟩ : ByteArray).size) : (⟨l.toArray⟩ : ByteArray)[i] = l[i]'(by simpa [ByteArray.size] using h) := by
 show l.toArray[i] = _
 simp
theorem str_part (l : List UInt8) (a b : Nat) : (⟨l.toArray⟩ : ByteArray).extract a b = ⟨((l.drop a).take (b - a)).toArray⟩ := by
 apply ByteArray.ext
 rw [ByteArray.data_extract]
 simp [List.extract]
theorem str_tail (c : UInt8) (r : List UInt8) (n : Nat) (h : n = r.length + 1) : (⟨(c :: r).toArray⟩ : ByteArray).extract 1 n = ⟨r.toArray⟩ := by
 rw [str_part, h]
 simp
end Go.Pal
namespace Go.Proofs.YtglnhnjmelilmaaGreatDoor
open Go Go.RowKit Go.Pal
attribute [local go_sem] Oper.semAt_some str_get str_tail
end Go.Proofs.YtglnhnjmelilmaaGreatDoor
