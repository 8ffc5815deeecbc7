/- Decimal numerals: what Itoa spells, Atoi reads; when a text is the numeral of a number of .. -/
import Derived.Test.YteiibpfabgfolaaGreatDoorVVb
import Derived.Lib.AtoiAll
import Derived.Lib.AtoiAllCases
import Derived.Lib.ItoaMem
import Derived.Shelf.Strings.Split
import Derived.Shelf.Strconv.AtoiAll
import Derived.Test.YteiibpfabgfolaaGreatDoorProg
import Derived.OwnWalk
import Derived.Shelf.Strings.Prefix
set_option linter.all false
namespace Go.Pal
open Go Go.RowKit
def isDig (c : UInt8) : Prop := 48 ≤ c.toNat ∧ c.toNat ≤ 57
instance (c : UInt8) : Decidable (isDig c) := by unfold isDig; infer_instance
def dval (acc : Nat) (l : List UInt8) : Nat := l.foldl (fun a c => a * 10 + (c.toNat - 48)) acc
theorem dval_nil (acc : Nat) : dval acc [] = acc := by unfold dval; rw [List.foldl_nil]
theorem dval_cons (c : UInt8) (r : List UInt8) (acc : Nat) : dval acc (c :: r) = dval (acc * 10 + (c.toNat - 48)) r := by unfold dval; rw [List.foldl_cons]
theorem dval_append (l r : List UInt8) (acc : Nat) : dval acc (l ++ r) = dval (dval acc l) r := by unfold dval; rw [List.foldl_append]
theorem dval_snoc (l : List UInt8) (c : UInt8) (acc : Nat) : dval acc (l ++ [c]) = dval acc l * 10 + (c.toNat - 48) := by rw [dval_append, dval_cons, dval_nil]
theorem dval_le (l : List UInt8) : ∀ acc, acc ≤ dval acc l := by
 induction l with
 | nil => intro acc; rw [dval_nil]; exact Nat.le_refl _
 | cons c l ih =>
   intro acc
   have h := ih (acc * 10 + (c.toNat - 48))
   rw [dval_cons]
   omega
theorem dval_lt (l : List UInt8) (hd : ∀ c ∈ l, isDig c) : dval 0 l < 10 ^ l.length := by
 have key : ∀ acc, dval acc l < (acc + 1) * 10 ^ l.length := by
   induction l with
   | nil => intro acc; rw [dval_nil, List.length_nil, Nat.pow_zero, Nat.mul_one]; exact Nat.lt_succ_self acc
   | cons c l ih =>
     intro acc
     have hc := (hd c (by simp)).2
     obtain ⟨b, hb⟩ : ∃ b, b = acc * 10 + (c.toNat - 48) := ⟨_, rfl⟩
     have h1 := ih (fun x hx => hd x (by simp [hx])) b
     have h2 : (b + 1) * 10 ^ l.length ≤ (acc + 1) * 10 * 10 ^ l.length := Nat.mul_le_mul_right _ (by omega)
     rw [dval_cons, ← hb, List.length_cons, Nat.pow_succ, Nat.mul_comm (10 ^ l.length) 10, ← Nat.mul_assoc]
     exact Nat.lt_of_lt_of_le h1 h2
 have := key 0
 rwa [Nat.zero_add, Nat.one_mul] at this
theorem dig_of {d : Nat} (h : d < 10) : (UInt8.ofNat (48 + d)).toNat = 48 + d := by
 rw [UInt8.toNat_ofNat']
 exact Nat.mod_eq_of_lt (by omega)
theorem dec_small {u : Nat} (h : u < 10) : Lib.decDigits u = [UInt8.ofNat (48 + u)] := Lib.decDigits_one h
theorem dec_big {u : Nat} (h : ¬ u < 10) : Lib.decDigits u = Lib.decDigits (u / 10) ++ [UInt8.ofNat (48 + u % 10)] := by rw [Lib.decDigits, dif_neg h]
theorem dec_all (u : Nat) : ∀ c ∈ Lib.decDigits u, isDig c := by
 induction u using Nat.strongRecOn with
 | _ u ih =>
   intro c hc
   by_cases h : u < 10
   · rw [dec_small h, List.mem_singleton] at hc
     subst hc
     unfold isDig
     rw [dig_of h]
     omega
   · rw [dec_big h, List.mem_append, List.mem_singleton] at hc
     rcases hc with hc | rfl
     · exact ih (u / 10) (by omega) c hc
     · unfold isDig
       rw [dig_of (by omega)]
       omega
theorem dval_dec (u : Nat) : dval 0 (Lib.decDigits u) = u := by
 induction u using Nat.strongRecOn with
 | _ u ih =>
   by_cases h : u < 10
   · have e := dval_snoc [] (UInt8.ofNat (48 + u)) 0
     rw [dig_of h, List.nil_append] at e
     rw [dec_small h, e, dval_nil]
     omega
   · rw [dec_big h, dval_snoc, ih (u / 10) (by omega), dig_of (by omega)]
     omega
theorem dec_ne (u : Nat) : Lib.decDigits u ≠ [] := by
 by_cases h : u < 10
 · rw [dec_small h]; simp
 · rw [dec_big h]; simp
theorem dec_head {u : Nat} (h1 : 1 ≤ u) : ∃ c r, Lib.decDigits u = c :: r ∧ c.toNat ≠ 48 := by
 induction u using Nat.strongRecOn with
 | _ u ih =>
   by_cases h : u < 10
   · exact ⟨_, [], dec_small h, by rw [dig_of h]; omega⟩
   · obtain ⟨c, r, hc, hn⟩ := ih (u / 10) (by omega) (by omega)
     exact ⟨c, r ++ [UInt8.ofNat (48 + u % 10)], by rw [dec_big h, hc]; rfl, hn⟩
theorem dec_cons (u : Nat) : ∃ c r, Lib.decDigits u = c :: r ∧ isDig c := by
 cases h : Lib.decDigits u with
 | nil => exact absurd h (dec_ne u)
 | cons c r => exact ⟨c, r, rfl, dec_all u c (by rw [h]; simp)⟩
theorem dec_len {u k : Nat} (hk : 1 ≤ k) (h : u < 10 ^ k) : (Lib.decDigits u).length ≤ k := by
 induction k generalizing u with
 | zero => omega
 | succ k ih =>
   by_cases h2 : u < 10
   · rw [dec_small h2]; simp
   · rw [dec_big h2, List.length_append]
     rcases Nat.eq_zero_or_pos k with e | e
     · subst e; simp at h; omega
     · have := ih e (u := u / 10) (by rw [Nat.pow_succ] at h; omega)
       simp only [List.length_cons, List.length_nil]
       omega
theorem dec_of (l : List UInt8) (hd : ∀ c ∈ l, isDig c) (hne : l ≠ []) (hz : ∀ c r, l = c :: r → c.toNat = 48 → r = []) : Lib.decDigits (dval 0 l) = l := by
 have key : ∀ (n : Nat) (l : List UInt8), l.length = n → (∀ c ∈ l, isDig c) → l ≠ [] → (∀ c r, l = c :: r → c.toNat = 48 → r = []) → Lib.decDigits (dval 0 l) = l := by
   intro n
   induction n with
   | zero => intro l hl _ hne; exact absurd (List.length_eq_zero_iff.1 hl) hne
   | succ n ih =>
     intro l hl hd _ hz
     obtain ⟨m, c, rfl⟩ : ∃ m c, l = m ++ [c] := ⟨l.dropLast, l.getLast (by intro e; rw [e] at hl; simp at hl), (List.dropLast_concat_getLast _).symm⟩
     have hc := hd c (by simp)
     rw [dval_snoc]
     by_cases hm : m = []
     · subst hm
       rw [dval_nil, List.nil_append]
       have h9 : 0 * 10 + (c.toNat - 48) < 10 := by have := hc.2; omega
       rw [dec_small h9]
       congr 1
       apply UInt8.toNat_inj.1
       rw [dig_of h9]
       have := hc.1
       omega
     · have hml : m.length = n := by rw [List.length_append] at hl; simp at hl; exact hl
       have hi := ih m hml (fun x hx => hd x (by simp [hx])) hm fun x r e hx => by
         have := hz x (r ++ [c]) (by rw [e]; rfl) hx
         simp at this
       have hpos : 1 ≤ dval 0 m := by
         rcases Nat.eq_zero_or_pos (dval 0 m) with e | e
         · exfalso
           rw [e, dec_small (by omega)] at hi
           have := hz _ [c] (by rw [← hi]; rfl) (by rw [dig_of (by omega)])
           simp at this
         · exact e
       have hcl : c.toNat - 48 < 10 := by have := hc.2; omega
       rw [dec_big (by omega), show (dval 0 m * 10 + (c.toNat - 48)) / 10 = dval 0 m by omega, show (dval 0 m * 10 + (c.toNat - 48)) % 10 = c.toNat - 48 by omega, hi]
       congr 2
       apply UInt8.toNat_inj.1
       rw [dig_of hcl]
       have := hc.1
       omega
 exact key l.length l rfl hd hne hz
theorem parse_dig (l : List UInt8) : ∀ acc, (∀ c ∈ l, isDig c) → dval acc l < 18446744073709551616 → Lib.parseUint10 acc l = .ok (dval acc l) := by
 induction l with
 | nil => intro acc _ _; rw [dval_nil]; rfl
 | cons c l ih =>
   intro acc hd hv
   have hc := hd c (by simp)
   have hle := dval_le l (acc * 10 + (c.toNat - 48))
   rw [dval_cons] at hv ⊢
   unfold Lib.parseUint10
   rw [if_pos (show 48 ≤ c.toNat ∧ c.toNat ≤ 57 from hc), if_neg (by omega), if_neg (by omega)]
   exact ih _ (fun x hx => hd x (by simp [hx])) hv
theorem atoi_itoa {n : Int} (h : InI n) : Lib.atoiAll (Lib.itoa n) = .ok n := by
 obtain ⟨h0, h1⟩ := h
 by_cases hn : n < 0
 · obtain ⟨u, hu⟩ : ∃ u : Nat, n = -(u : Int) := ⟨n.natAbs, by omega⟩
   subst hu
   rw [Lib.itoa_neg u (by omega)]
   have hp := parse_dig (Lib.decDigits u) 0 (dec_all u) (by rw [dval_dec]; omega)
   rw [dval_dec] at hp
   have hm : Lib.parseMag (Lib.decDigits u) = .ok u := by
     unfold Lib.parseMag
     rw [if_neg (dec_ne u), hp]
   have h45 : (45 : UInt8).toNat = 45 := rfl
   simp only [Lib.atoiAll, h45, or_true, if_true, hm, not_true, false_and, if_false, true_and]
   rw [if_neg (by omega)]
 · obtain ⟨u, hu⟩ : ∃ u : Nat, n = (u : Int) := ⟨n.toNat, by omega⟩
   subst hu
   rw [Lib.itoa_nonneg u]
   obtain ⟨c, r, hc, hcd⟩ := dec_cons u
   have hp := parse_dig (Lib.decDigits u) 0 (dec_all u) (by rw [dval_dec]; omega)
   rw [dval_dec] at hp
   have hm : Lib.parseMag (Lib.decDigits u) = .ok u := by
     unfold Lib.parseMag
     rw [if_neg (dec_ne u), hp]
   unfold isDig at hcd
   rw [hc] at hm ⊢
   rw [Lib.atoiAll_plain c r (by omega) (by omega), hm]
   show (if 9223372036854775808 ≤ u then Lib.NumEnd.range else Lib.NumEnd.ok (u : Int)) = _
   rw [if_neg (by omega)]
theorem itoa_inj {n m : Int} (hn : InI n) (hm : InI m) (h : Lib.itoa n = Lib.itoa m) : n = m := by
 have h1 := atoi_itoa hn
 rw [h, atoi_itoa hm] at h1
 injection h1 with h1
 exact h1.symm
def NumOf (s : List UInt8) (n : Int) : Prop := s = Lib.itoa n ∧ -2147483648 ≤ n ∧ n ≤ 2147483648
theorem NumOf.inI {s : List UInt8} {n : Int} (h : NumOf s n) : InI n := ⟨by have := h.2.1; omega, by have := h.2.2; omega⟩
theorem NumOf.atoi {s : List UInt8} {n : Int} (h : NumOf s n) : Lib.atoiAll s = .ok n := by rw [h.1]; exact atoi_itoa h.inI
theorem numOf_pos {l : List UInt8} (hd : ∀ c ∈ l, isDig c) (hne : l ≠ []) (hz : ∀ c r, l = c :: r → c.toNat = 48 → r = []) (hv : dval 0 l ≤ 2147483648) : NumOf l (dval 0 l : Int) :=
 ⟨by rw [Lib.itoa_nonneg, dec_of l hd hne hz], by omega, by omega⟩
theorem dec_len10 {u : Nat} (h : u ≤ 2147483648) : (Lib.decDigits u).length ≤ 10 := dec_len (by omega) (by omega)
def digsOk (minus : Bool) (l : List UInt8) : Prop := l ≠ [] ∧ l.length ≤ 10 ∧ (∀ c r, l = c :: r → c.toNat = 48 → r = [] ∧ minus = false) ∧ (∀ c ∈ l, isDig c) ∧ dval 0 l ≤ 2147483648
theorem digs_of_dec {u : Nat} (hu : u ≤ 2147483648) (minus : Bool) (h : minus = true → 1 ≤ u) : digsOk minus (Lib.decDigits u) := by
 refine ⟨dec_ne u, dec_len10 hu, fun c r e hc => ?_, dec_all u, by rw [dval_dec]; exact hu⟩
 rcases Nat.eq_zero_or_pos u with e0 | e0
 · subst e0
   rw [dec_small (by omega)] at e
   injection e with e1 e2
   refine ⟨e2.symm, ?_⟩
   cases minus with
   | false => rfl
   | true => have := h rfl; omega
 · obtain ⟨c', r', hh, hn⟩ := dec_head e0
   rw [hh] at e
   injection e with e1 e2
   subst e1
   exact absurd hc hn
end Go.Pal
namespace Go.Proofs
open Go.Shelf
def Tryz.laysAtoi_ren : Go.Shelf.Ren := ⟨fun | 172 => 63 | 244 => 112 | 245 => 113 | 247 => 136 | 279 => 137 | 280 => 138 | 281 => 139 | 282 => 140 | 287 => 165 | 316 => 166 | 171 => 23 | 205 => 167 | 321 => 185 | 322 => 186 | 243 => 59 | 246 => 109 | 283 => 127 | 284 => 128 | 285 => 129 | 286 => 130 | 129 => 157 | 317 => 158 | 318 => 159 | 319 => 160 | 320 => 161 | 337 => 184 | 338 => 121 | n => n, fun | 9 => 9 | 3 => 3 | 75 => 67 | 76 => 68 | 4 => 4 | 5 => 5 | 167 => 178 | 37 => 63 | 0 => 0 | 85 => 179 | 2 => 2 | 168 => 181 | 53 => 49 | 175 => 211 | 46 => 167 | 210 => 215 | 127 => 118 | 145 => 236 | 143 => 234 | 21 => 21 | 171 => 172 | 173 => 174 | 212 => 206 | 51 => 204 | 20 => 20 | 213 => 207 | 232 => 242 | 233 => 194 | 80 => 71 | n => n, fun | 15 => 3 | 16 => 4 | 17 => 2 | 18 => 5 | 19 => 1 | n => n⟩
theorem Tryz.laysAtoi : Go.Proofs.LaysC.n172 Tryz.prog Tryz.laysAtoi_ren := {
 mixed := by kernel_rfl
 f129 := Tryz.func157.trans (congrArg some (by kernel_rfl))
 f171 := Tryz.func23.trans (congrArg some (by kernel_rfl))
 f172 := Tryz.func63.trans (congrArg some (by kernel_rfl))
 f205 := Tryz.func167.trans (congrArg some (by kernel_rfl))
 f243 := Tryz.func59.trans (congrArg some (by kernel_rfl))
 f244 := Tryz.func112.trans (congrArg some (by kernel_rfl))
 f245 := Tryz.func113.trans (congrArg some (by kernel_rfl))
 f246 := Tryz.func109.trans (congrArg some (by kernel_rfl))
 f247 := Tryz.func136.trans (congrArg some (by kernel_rfl))
 f279 := Tryz.func137.trans (congrArg some (by kernel_rfl))
 f280 := Tryz.func138.trans (congrArg some (by kernel_rfl))
 f281 := Tryz.func139.trans (congrArg some (by kernel_rfl))
 f282 := Tryz.func140.trans (congrArg some (by kernel_rfl))
 f283 := Tryz.func127.trans (congrArg some (by kernel_rfl))
 f284 := Tryz.func128.trans (congrArg some (by kernel_rfl))
 f285 := Tryz.func129.trans (congrArg some (by kernel_rfl))
 f286 := Tryz.func130.trans (congrArg some (by kernel_rfl))
 f287 := Tryz.func165.trans (congrArg some (by kernel_rfl))
 f316 := Tryz.func166.trans (congrArg some (by kernel_rfl))
 f317 := Tryz.func158.trans (congrArg some (by kernel_rfl))
 f318 := Tryz.func159.trans (congrArg some (by kernel_rfl))
 f319 := Tryz.func160.trans (congrArg some (by kernel_rfl))
 f320 := Tryz.func161.trans (congrArg some (by kernel_rfl))
 f321 := Tryz.func185.trans (congrArg some (by kernel_rfl))
 f322 := Tryz.func186.trans (congrArg some (by kernel_rfl))
 f337 := Tryz.func184.trans (congrArg some (by kernel_rfl))
 f338 := Tryz.func121.trans (congrArg some (by kernel_rfl))
 t0 := Tryz.underlying0
 a0 := Tryz.isAgg0
 z0 := Tryz.sizeOf0
 v0 := Tryz.zeroValue0
 t2 := Tryz.underlying2
 a2 := Tryz.isAgg2
 z2 := Tryz.sizeOf2
 v2 := Tryz.zeroValue2
 t3 := Tryz.underlying3
 a3 := Tryz.isAgg3
 z3 := Tryz.sizeOf3
 v3 := Tryz.zeroValue3
 t4 := Tryz.underlying4
 a4 := Tryz.isAgg4
 z4 := Tryz.sizeOf4
 v4 := Tryz.zeroValue4
 t5 := Tryz.underlying5
 a5 := Tryz.isAgg5
 z5 := Tryz.sizeOf5
 v5 := Tryz.zeroValue5
 t9 := Tryz.underlying9
 a9 := Tryz.isAgg9
 z9 := Tryz.sizeOf9
 v9 := Tryz.zeroValue9
 t20 := Tryz.underlying20
 a20 := Tryz.isAgg20
 z20 := Tryz.sizeOf20
 v20 := Tryz.zeroValue20
 t21 := Tryz.underlying21
 a21 := Tryz.isAgg21
 z21 := Tryz.sizeOf21
 v21 := Tryz.zeroValue21
 t37 := Tryz.underlying63
 a37 := Tryz.isAgg63
 z37 := Tryz.sizeOf63
 v37 := Tryz.zeroValue63
 t46 := Tryz.underlying167
 a46 := Tryz.isAgg167
 z46 := Tryz.sizeOf167
 v46 := Tryz.zeroValue167
 t51 := Tryz.underlying204
 a51 := Tryz.isAgg204
 z51 := Tryz.sizeOf204
 v51 := Tryz.zeroValue204
 t53 := Tryz.underlying49
 a53 := Tryz.isAgg49
 z53 := Tryz.sizeOf49
 v53 := Tryz.zeroValue49
 t75 := Tryz.underlying67
 a75 := Tryz.isAgg67
 z75 := Tryz.sizeOf67
 v75 := Tryz.zeroValue67
 t76 := Tryz.underlying68
 a76 := Tryz.isAgg68
 z76 := Tryz.sizeOf68
 v76 := Tryz.zeroValue68
 t85 := Tryz.underlying179
 a85 := Tryz.isAgg179
 z85 := Tryz.sizeOf179
 v85 := Tryz.zeroValue179
 t127 := Tryz.underlying118
 a127 := Tryz.isAgg118
 z127 := Tryz.sizeOf118
 v127 := Tryz.zeroValue118
 t143 := Tryz.underlying234
 a143 := Tryz.isAgg234
 z143 := Tryz.sizeOf234
 v143 := Tryz.zeroValue234
 t145 := Tryz.underlying236
 a145 := Tryz.isAgg236
 z145 := Tryz.sizeOf236
 v145 := Tryz.zeroValue236
 t167 := Tryz.underlying178
 a167 := Tryz.isAgg178
 z167 := Tryz.sizeOf178
 v167 := Tryz.zeroValue178
 t168 := Tryz.underlying181
 a168 := Tryz.isAgg181
 z168 := Tryz.sizeOf181
 v168 := Tryz.zeroValue181
 t171 := Tryz.underlying172
 a171 := Tryz.isAgg172
 z171 := Tryz.sizeOf172
 v171 := Tryz.zeroValue172
 t173 := Tryz.underlying174
 a173 := Tryz.isAgg174
 z173 := Tryz.sizeOf174
 v173 := Tryz.zeroValue174
 t175 := Tryz.underlying211
 a175 := Tryz.isAgg211
 z175 := Tryz.sizeOf211
 v175 := Tryz.zeroValue211
 t210 := Tryz.underlying215
 a210 := Tryz.isAgg215
 z210 := Tryz.sizeOf215
 v210 := Tryz.zeroValue215
 t212 := Tryz.underlying206
 a212 := Tryz.isAgg206
 z212 := Tryz.sizeOf206
 v212 := Tryz.zeroValue206
 t213 := Tryz.underlying207
 a213 := Tryz.isAgg207
 z213 := Tryz.sizeOf207
 t232 := Tryz.underlying242
 a232 := Tryz.isAgg242
 z232 := Tryz.sizeOf242
 v232 := Tryz.zeroValue242
 t233 := Tryz.underlying194
 a233 := Tryz.isAgg194
 z233 := Tryz.sizeOf194
 v233 := Tryz.zeroValue194
 g15 := by kernel_rfl
 g16 := by kernel_rfl
 g17 := by kernel_rfl
 g18 := by kernel_rfl
 g19 := by kernel_rfl
 t80 := Tryz.underlying71
 a80 := Tryz.isAgg71
 z80 := Tryz.sizeOf71
 v80 := Tryz.zeroValue71
 i0 := by kernel_rfl
 i2 := by kernel_rfl
 i3 := by kernel_rfl
 i4 := by kernel_rfl
 i5 := by kernel_rfl
 i9 := by kernel_rfl
 i20 := by kernel_rfl
 i21 := by kernel_rfl
 i37 := by kernel_rfl
 i46 := by kernel_rfl
 i51 := by kernel_rfl
 i53 := by kernel_rfl
 i75 := by kernel_rfl
 i76 := by kernel_rfl
 i80 := by kernel_rfl
 i85 := by kernel_rfl
 i127 := by kernel_rfl
 i143 := by kernel_rfl
 i145 := by kernel_rfl
 i167 := by kernel_rfl
 i168 := by kernel_rfl
 i171 := by kernel_rfl
 i173 := by kernel_rfl
 i175 := by kernel_rfl
 i210 := by kernel_rfl
 i212 := by kernel_rfl
 i232 := by kernel_rfl
 i233 := by kernel_rfl
 m15 := by kernel_rfl
 m16 := by kernel_rfl
 m17 := by kernel_rfl
 m18 := by kernel_rfl
 m19 := by kernel_rfl
 c0 := by kernel_rfl
 c2 := by kernel_rfl
 c3 := by kernel_rfl
 c4 := by kernel_rfl
 c5 := by kernel_rfl
 c9 := by kernel_rfl
 c20 := by kernel_rfl
 c21 := by kernel_rfl
 c37 := by kernel_rfl
 c46 := by kernel_rfl
 c51 := by kernel_rfl
 c53 := by kernel_rfl
 c75 := by kernel_rfl
 c76 := by kernel_rfl
 c80 := by kernel_rfl
 c85 := by kernel_rfl
 c127 := by kernel_rfl
 c143 := by kernel_rfl
 c145 := by kernel_rfl
 c167 := by kernel_rfl
 c168 := by kernel_rfl
 c171 := by kernel_rfl
 c173 := by kernel_rfl
 c175 := by kernel_rfl
 c210 := by kernel_rfl
 c212 := by kernel_rfl
 c213 := by kernel_rfl
 c232 := by kernel_rfl
 c233 := by kernel_rfl }
end Go.Proofs
namespace Go.Proofs.YteiibpfabgfolaaGreatDoor
open Go Go.RowKit Go.Pal Go.Shelf
attribute [local go_sem] Oper.semAt_some
def Errs (w : World) : Prop := ∀ W, Below w.heap.size w W → (∃ ev, W.cell? ⟨Tryz.laysAtoi_ren.g 15, 0, none⟩ = some ev ∧ (ev = .nilIface ∨ ∃ te pe, ev = .iface te pe)) ∧ ∃ ev, W.cell? ⟨Tryz.laysAtoi_ren.g 16, 0, none⟩ = some ev ∧ (ev = .nilIface ∨ ∃ te pe, ev = .iface te pe)
theorem Errs.on {w w' : World} (h : Errs w) (hb : Below w.heap.size w w') : Errs w' := fun W hW => h W (hb.trans (hW.mono hb.size))
theorem atoi_any (s : List UInt8) (hs : s.length ≤ 8388608) (w : World) (hE : Errs w) :
   Calls Tryz.prog 63 #[.string ⟨s.toArray⟩] w fun e w' => Below w.heap.size w w' ∧ ((∃ n, Lib.atoiAll s = .ok n ∧ InI n ∧ e = .returned (.tuple #[.int .i64 n, .nilIface])) ∨ ∃ n t p, (∀ m, Lib.atoiAll s ≠ .ok m) ∧ e = .returned (.tuple #[.int .i64 n, .iface t p])) := by
 have hsz : (⟨s.toArray⟩ : ByteArray).size = s.length := by simp [ByteArray.size]
 have hd : (⟨s.toArray⟩ : ByteArray).data.toList = s := by simp
 obtain ⟨⟨ev, h1, h2⟩, ev2, h3, h4⟩ := hE w (Below.refl _ _)
 cases hc : Lib.atoiAll s
 · rename_i n
   have hb := Lib.atoiAll_bounds hc
   refine (Any.strconv_Atoi_ok Tryz.laysAtoi ⟨s.toArray⟩ (by omega) n (by rw [hd]; exact hc) w).mono ?_
   rintro e w' ⟨rfl, hw⟩
   refine ⟨?_, .inl ⟨n, rfl, hb, rfl⟩⟩
   rcases hw with rfl | ⟨t, rfl⟩
   · exact Below.refl _ _
   · exact Lib.bytesWorld_below _ _ _
 · refine (Any.strconv_Atoi_syntax Tryz.laysAtoi ⟨s.toArray⟩ (by omega) (by rw [hd]; exact hc) ev w h1 h2).mono ?_
   rintro e w' ⟨N, rfl, -, -, hb⟩
   exact ⟨hb, .inr ⟨_, _, _, (fun m h => (by cases h)), rfl⟩⟩
 · refine (Any.strconv_Atoi_range Tryz.laysAtoi ⟨s.toArray⟩ (by omega) (by rw [hd]; exact hc) ev2 w h3 h4).mono ?_
   rintro e w' ⟨N, rfl, -, -, hb⟩
   exact ⟨hb, .inr ⟨_, _, _, (fun m h => (by cases h)), rfl⟩⟩
end Go.Proofs.YteiibpfabgfolaaGreatDoor
namespace Go.Pal
open Go Go.RowKit
theorem str_get (l : List UInt8) (i : Nat) (h : i < (⟨l.toArray⟩ : ByteArray).size) : (⟨l.toArray⟩ : ByteArray)[i] = l[i]'(by simpa [ByteArray.size] using h) := by
 show l.toArray[i] = _
 simp
theorem str_part (l : List UInt8) (a b : Nat) : (⟨l.toArray⟩ : ByteArray).extract a b = ⟨((l.drop a).take (b - a)).toArray⟩ := by
 apply ByteArray.ext
 rw [ByteArray.data_extract]
 simp [List.extract]
theorem str_tail (c : UInt8) (r : List UInt8) (n : Nat) (h : n = r.length + 1) : (⟨(c :: r).toArray⟩ : ByteArray).extract 1 n = ⟨r.toArray⟩ := by
 rw [str_part, h]
 simp
end Go.Pal
namespace Go.Proofs.YteiibpfabgfolaaGreatDoor
open Go Go.RowKit Go.Pal
attribute [local go_sem] Oper.semAt_some str_get str_tail
end Go.Proofs.YteiibpfabgfolaaGreatDoor
namespace Go.Pal
open Go Go.RowKit
theorem str_upto (l : List UInt8) (k : Nat) : (⟨l.toArray⟩ : ByteArray).extract 0 k = ⟨(l.take k).toArray⟩ := by rw [str_part]; simp
theorem str_from (l : List UInt8) (k n : Nat) (h : n = l.length) : (⟨l.toArray⟩ : ByteArray).extract k n = ⟨(l.drop k).toArray⟩ := by
 rw [str_part, h]
 congr 1
 congr 1
 exact List.take_of_length_le (by rw [List.length_drop]; exact Nat.le_refl _)
def digs (s : List UInt8) : List UInt8 := s.takeWhile fun c => decide (isDig c)
theorem digs_stop {s : List UInt8} {k : Nat} (h : ∀ x ∈ s.take k, isDig x) (hst : ∀ x, s[k]? = some x → ¬ isDig x) : digs s = s.take k := by
 unfold digs
 have e : s = s.take k ++ s.drop k := (List.take_append_drop k s).symm
 have h2 : (s.drop k).takeWhile (fun c => decide (isDig c)) = [] := by
   cases hd : s.drop k with
   | nil => rfl
   | cons x t =>
     have : s[k]? = some x := by
       have h3 : (s.drop k)[0]? = some x := by rw [hd]; rfl
       rwa [List.getElem?_drop, Nat.add_zero] at h3
     rw [List.takeWhile_cons, if_neg (by simpa using hst x this)]
 calc s.takeWhile (fun c => decide (isDig c)) = (s.take k ++ s.drop k).takeWhile (fun c => decide (isDig c)) := by rw [← e]
   _ = s.take k ++ (s.drop k).takeWhile (fun c => decide (isDig c)) := List.takeWhile_append_of_pos fun a ha => by simpa using h a ha
   _ = s.take k := by rw [h2, List.append_nil]
theorem digs_len (s : List UInt8) : (digs s).length ≤ s.length := (List.takeWhile_sublist _).length_le
end Go.Pal
namespace Go.Proofs.YteiibpfabgfolaaGreatDoor
open Go Go.RowKit Go.Pal
attribute [local go_sem] Oper.semAt_some str_get str_upto str_from
end Go.Proofs.YteiibpfabgfolaaGreatDoor
namespace Go.Pal
open Go Go.RowKit
end Go.Pal
namespace Go.Proofs.YteiibpfabgfolaaGreatDoor
open Go Go.RowKit Go.Pal Go.Shelf
attribute [local go_sem] Oper.semAt_some str_get str_tail
end Go.Proofs.YteiibpfabgfolaaGreatDoor
