/-
  Walks: place of the reference; ports and mapped of package toptree.
-/
import Derived.Test.YtoiefehkfhkhbaaGreatDoorQPlain
import Derived.Test.YtoiefehkfhkhbaaGreatDoorQRef1
import Derived.Test.YtoiefehkfhkhbaaGreatDoorQRef3
namespace Go.Pal
open Go
theorem plI_next {l : List Int} {k : Nat} {z x : Int} (hz : l[k]? = some z) (hn : z ≠ x) (h : x ∉ l.take k) : x ∉ l.take (k + 1) := by
  rw [List.take_add_one, hz]
  simp [h]
  omega
theorem and_one_bit {m p : Nat} : (m / 2 ^ p) &&& 1 = if m.testBit p then 1 else 0 := by
  rw [Nat.and_one_is_mod, Nat.testBit_eq_decide_div_mod_eq]
  rcases Nat.mod_two_eq_zero_or_one (m / 2 ^ p) with h | h <;> simp [h]
theorem bit_one {m p : Nat} : (((m / 2 ^ p) &&& 1 : Nat) : Int) = 1 ↔ m.testBit p = true := by
  rw [and_one_bit]
  cases m.testBit p <;> simp
theorem beq_of_iff {a b : Int} {c : Bool} (h : a = b ↔ c = true) : (a == b) = c := by
  cases c with
  | true => exact beq_iff_eq.2 (h.2 rfl)
  | false =>
    cases hab : (a == b) with
    | false => rfl
    | true => exact absurd (h.1 (beq_iff_eq.1 hab)) (by simp)
theorem u16_bit {m p : Nat} (hm : m < 65536) : (bits .and .u16 ((m : Int) / 2 ^ p) 1 == 1) = m.testBit p := by
  have e : ((m : Int) / 2 ^ p) = ((m / 2 ^ p : Nat) : Int) := by simp
  have hlt : m / 2 ^ p < 65536 := Nat.lt_of_le_of_lt (Nat.div_le_self _ _) hm
  rw [e, show (1 : Int) = ((1 : Nat) : Int) from rfl, u16_and_nat _ _ hlt (by decide)]
  exact beq_of_iff bit_one
theorem i64_and1 (a : Nat) (ha : a < 65536) : bits .and .i64 (a : Int) 1 = ((a &&& 1 : Nat) : Int) := by
  have hx : a &&& 1 < 2 ^ 16 := Nat.and_lt_two_pow _ (by omega)
  have e : ∀ b : Nat, b < 65536 → (BitVec.ofInt 64 (b : Int)).toNat = b := fun b hb => by
    rw [BitVec.ofInt_natCast, BitVec.toNat_ofNat]; exact Nat.mod_eq_of_lt (by omega)
  show IntKind.i64.wrap ((BitVec.ofInt 64 (a : Int) &&& BitVec.ofInt 64 ((1 : Nat) : Int)).toNat : Int) = _
  rw [BitVec.toNat_and, e a ha, e 1 (by decide)]
  simp [IntKind.wrap, IntKind.bits, IntKind.signed]
  omega
theorem i64_bit {m p : Nat} (hm : m < 65536) : (bits .and .i64 ((m : Int) / 2 ^ p) 1 == 1) = m.testBit p := by
  have e : ((m : Int) / 2 ^ p) = ((m / 2 ^ p : Nat) : Int) := by simp
  have hlt : m / 2 ^ p < 65536 := Nat.lt_of_le_of_lt (Nat.div_le_self _ _) hm
  rw [e, i64_and1 _ hlt]
  exact beq_of_iff bit_one
end Go.Pal
namespace Go.Proofs.YtoiefehkfhkhbaaGreatDoor
open Go Go.RowKit Go.Pal

set_option maxHeartbeats 400000 in
theorem rplace_any (ns : List Int) (v : Value) (n : Int) (w : World) (hv : RdL w v ns) (hlen : ns.length ≤ 1000000) :
    Calls Tryz.prog 32 #[v, .int .i64 n] w fun e w' => e = .returned (.int .i64 (plI ns n)) ∧ w' = w := by
  obtain ⟨a, c, rfl, hr⟩ := hv
  have HR := Lib.hid hr; clear hr
  go_enter Tryz.func32, Tryz.ntmps32
  go_wp2_with fail
  go_loop [5] (fun i => ∃ k : Nat, k ≤ ns.length ∧ i = .int .i64 (k : Int) ∧ n ∉ ns.take k) (fun i => ns.length - (intOf i).toNat)
  case atStart => exact ⟨0, by omega, rfl, by simp⟩
  case round =>
    obtain ⟨k, hk, rfl, hno⟩ := hrel
    have HN := Lib.hid hno; clear hno
    by_cases hlt : k < ns.length
    · obtain ⟨z, hz⟩ : ∃ z, ns[k]? = some z := ⟨_, List.getElem?_eq_getElem hlt⟩
      rcases HR.out with h | ⟨b, off, rfl, hbB, hc⟩
      · rw [h] at hlt; simp at hlt
      have hcell := hc k z hz
      have HZ := Lib.hid hz
      clear hc hz
      by_cases hzn : z = n
      · subst hzn
        go_wp2
        go_ret
        exact ⟨by rw [plI_hit HZ.out HN.out]; rfl, rfl⟩
      · go_wp2
        go_round
        case rel => exact ⟨k + 1, by omega, by go_num, plI_next HZ.out hzn HN.out⟩
        case measure => simp [intOf]; omega
    · go_wp2
      go_ret
      have : k = ns.length := by omega
      rw [this, List.take_length] at HN
      exact ⟨by rw [plI_miss HN.out]; rfl, rfl⟩

set_option maxRecDepth 10000 in
set_option maxHeartbeats 400000 in
theorem ports_any (m n : Nat) (w : World) (hm : m < 65536) (hn : n ≤ 1000000) :
    Calls Tryz.prog 36 #[.int .u16 (m : Int), .int .i64 (n : Int)] w fun e w' => ∃ v', e = .returned v' ∧ OwnI w.heap.size w' v' (portsTo m (min n 16)) ∧ Below w.heap.size w w' := by
  rcases Nat.lt_or_ge 16 n with h16 | h16
  · rw [Nat.min_eq_right (Nat.le_of_lt h16)]
    have h1 : (16 : Int) < (n : Int) := by omega
    go_enter Tryz.func36, Tryz.ntmps36
    go_wp2_with fail
    go_loopw [5, 9] (fun v i wr => ∃ k : Nat, k ≤ 16 ∧ i = .int .i64 (k : Int) ∧ OwnI w.heap.size wr v (portsTo m k) ∧ Below w.heap.size w wr) (fun _ i _ => 16 - (intOf i).toNat)
    case atStart => exact ⟨0, by omega, rfl, OwnI.nil _ _, Below.refl _ _⟩
    case round =>
      obtain ⟨k, hk, rfl, hO, hb⟩ := hrel
      have hl := portsTo_length m k
      have hS := portsTo_succ m k
      have HS := Lib.hid hS
      have hsz := hb.size
      have HO := Lib.hid hO
      have HB := Lib.hid hb
      obtain ⟨q, cap, rfl⟩ := hO.sl
      clear hO hb hS
      have hb16 := u16_bit (p := k) hm
      obtain ⟨acc, hacc⟩ : ∃ acc, acc = portsTo m k := ⟨_, rfl⟩
      rw [← hacc] at HS HO hl ⊢
      have HAC := Lib.hid hacc
      clear hacc
      by_cases hlt : k < 16
      · cases hbt : m.testBit k with
        | true =>
          rw [hbt] at hb16
          rw [hbt, if_pos rfl] at HS
          go_wp2_with (at_builtin; refine wpList_appT rfl 34 undI _ _ rfl (w.heap.size) _ (acc) rfl (HO.out.alloc _) _ ((k : Int)) _ rfl (by simp [go_sem]) (by first | omega | (simp; omega)) (by simp; omega) ?_)
          intro v' w2 hO2 hb2
          obtain ⟨q2, cap2, rfl⟩ := hO2.sl
          have HO2 := Lib.hid hO2
          have HB2 := Lib.hid (((HB.out).alloc (hsz) _).trans hb2)
          clear hO2 hb2
          go_wp2_with fail
          go_roundw
          case rel => exact ⟨k + 1, by omega, by go_num, by rw [HS.out]; exact HO2.out, HB2.out⟩
          case measure => simp [intOf]; omega
        | false =>
          rw [hbt] at hb16
          rw [hbt, if_neg (by simp), List.append_nil] at HS
          go_wp2_with fail
          go_roundw
          case rel => exact ⟨k + 1, by omega, by go_num, by rw [HS.out]; exact HO.out, HB.out⟩
          case measure => simp [intOf]; omega
      · go_wp2_with fail
        have hk2 : k = 16 := by omega
        go_ret
        exact ⟨_, rfl, by rw [← hk2, ← HAC.out]; exact HO.out, HB.out⟩
  · rw [Nat.min_eq_left h16]
    have h1 : (n : Int) ≤ 16 := by omega
    go_enter Tryz.func36, Tryz.ntmps36
    go_wp2_with fail
    go_loopw [5, 9] (fun v i wr => ∃ k : Nat, k ≤ n ∧ i = .int .i64 (k : Int) ∧ OwnI w.heap.size wr v (portsTo m k) ∧ Below w.heap.size w wr) (fun _ i _ => n - (intOf i).toNat)
    case atStart => exact ⟨0, by omega, rfl, OwnI.nil _ _, Below.refl _ _⟩
    case round =>
      obtain ⟨k, hk, rfl, hO, hb⟩ := hrel
      have hl := portsTo_length m k
      have hS := portsTo_succ m k
      have HS := Lib.hid hS
      have hsz := hb.size
      have HO := Lib.hid hO
      have HB := Lib.hid hb
      obtain ⟨q, cap, rfl⟩ := hO.sl
      clear hO hb hS
      have hb16 := u16_bit (p := k) hm
      obtain ⟨acc, hacc⟩ : ∃ acc, acc = portsTo m k := ⟨_, rfl⟩
      rw [← hacc] at HS HO hl ⊢
      have HAC := Lib.hid hacc
      clear hacc
      by_cases hlt : k < n
      · cases hbt : m.testBit k with
        | true =>
          rw [hbt] at hb16
          rw [hbt, if_pos rfl] at HS
          go_wp2_with (at_builtin; refine wpList_appT rfl 34 undI _ _ rfl (w.heap.size) _ (acc) rfl (HO.out.alloc _) _ ((k : Int)) _ rfl (by simp [go_sem]) (by first | omega | (simp; omega)) (by simp; omega) ?_)
          intro v' w2 hO2 hb2
          obtain ⟨q2, cap2, rfl⟩ := hO2.sl
          have HO2 := Lib.hid hO2
          have HB2 := Lib.hid (((HB.out).alloc (hsz) _).trans hb2)
          clear hO2 hb2
          go_wp2_with fail
          go_roundw
          case rel => exact ⟨k + 1, by omega, by go_num, by rw [HS.out]; exact HO2.out, HB2.out⟩
          case measure => simp [intOf]; omega
        | false =>
          rw [hbt] at hb16
          rw [hbt, if_neg (by simp), List.append_nil] at HS
          go_wp2_with fail
          go_roundw
          case rel => exact ⟨k + 1, by omega, by go_num, by rw [HS.out]; exact HO.out, HB.out⟩
          case measure => simp [intOf]; omega
      · go_wp2_with fail
        have hk2 : k = n := by omega
        go_ret
        exact ⟨_, rfl, by rw [← hk2, ← HAC.out]; exact HO.out, HB.out⟩

set_option maxRecDepth 10000 in
set_option maxHeartbeats 400000 in
theorem mapped_any (ps to : List Int) (vp vt : Value) (w : World) (hp : RdL w vp ps) (ht : RdL w vt to) (hlp : ps.length ≤ 1000000) (hin : ∀ z ∈ ps, 0 ≤ z ∧ z < (to.length : Int)) :
    Calls Tryz.prog 35 #[vp, vt] w fun e w' => ∃ v', e = .returned v' ∧ OwnI w.heap.size w' v' (ps.map fun z => to.getD z.toNat 0) ∧ Below w.heap.size w w' := by
  have HP := Lib.hid hp
  have HT := Lib.hid ht
  obtain ⟨ap, cp, rfl, hrp⟩ := hp
  obtain ⟨at', ct, rfl, hrt⟩ := ht
  have HIN := Lib.hid hin
  clear hin hrp hrt
  go_enter Tryz.func35, Tryz.ntmps35
  go_wp2_with fail
  go_loopw [5, 10] (fun v i wr => ∃ k : Nat, k ≤ ps.length ∧ i = .int .i64 (k : Int) ∧ OwnI w.heap.size wr v ((ps.take k).map fun z => to.getD z.toNat 0) ∧ Below w.heap.size w wr) (fun _ i _ => ps.length - (intOf i).toNat)
  case atStart => exact ⟨0, by omega, rfl, OwnI.nil _ _, Below.refl _ _⟩
  case round =>
    obtain ⟨k, hk, rfl, hO, hb⟩ := hrel
    have hsz := hb.size
    have HO := Lib.hid hO
    have HB := Lib.hid hb
    obtain ⟨q, cap, rfl⟩ := hO.sl
    clear hO hb
    by_cases hlt : k < ps.length
    · obtain ⟨b, off, c, z, h1, hz, hcc⟩ := HP.out.at hlt
      simp only [Value.slice.injEq] at h1
      obtain ⟨rfl, -, rfl⟩ := h1
      obtain ⟨hz0, hz1⟩ := HIN.out z (List.mem_of_getElem? hz)
      obtain ⟨j, rfl⟩ : ∃ j : Nat, z = (j : Int) := ⟨z.toNat, by omega⟩
      have hjl : j < to.length := by omega
      obtain ⟨b2, off2, c2, y, h2, hy, hcc2⟩ := HT.out.at hjl
      simp only [Value.slice.injEq] at h2
      obtain ⟨rfl, -, rfl⟩ := h2
      have hcell := hcc wr HB.out
      have hcell2 := hcc2 wr HB.out
      have hst : (ps.take (k + 1)).map (fun z => to.getD z.toNat 0) = (ps.take k).map (fun z => to.getD z.toNat 0) ++ [y] := by
        rw [List.take_add_one, hz]
        simp [hy]
      have HST := Lib.hid hst
      have hle : ((ps.take k).map fun z => to.getD z.toNat 0).length ≤ k := by simp; omega
      obtain ⟨acc, hacc⟩ : ∃ acc, acc = (ps.take k).map fun z => to.getD z.toNat 0 := ⟨_, rfl⟩
      rw [← hacc] at HST HO hle ⊢
      clear hz hy hst hcc hcc2 hacc
      go_wp2_with (at_builtin; refine wpList_appT rfl 34 undI _ _ rfl (w.heap.size) _ (acc) rfl (HO.out.alloc _) _ (y) _ rfl (by simp [go_sem]) (by first | omega | (simp; omega)) (by simp; omega) ?_)
      intro v' w2 hO2 hb2
      obtain ⟨q2, cap2, rfl⟩ := hO2.sl
      have HO2 := Lib.hid hO2
      have HB2 := Lib.hid (((HB.out).alloc (hsz) _).trans hb2)
      clear hO2 hb2
      go_wp2_with fail
      go_roundw
      case rel => exact ⟨k + 1, by omega, by go_num, by rw [HST.out]; exact HO2.out, HB2.out⟩
      case measure => simp [intOf]; omega
    · have hk2 : k = ps.length := by omega
      have HK2 := Lib.hid hk2
      have hge : ¬ ((k : Int) < (ps.length : Int)) := by omega
      clear hk2
      go_wp2_with fail
      go_ret
      refine ⟨_, rfl, ?_, HB.out⟩
      have := HO.out
      have e := HK2.out
      rw [show List.take k ps = ps by rw [e, List.take_length]] at this
      simp at this ⊢
      rw [← e] at this
      simpa [e] using this
end Go.Proofs.YtoiefehkfhkhbaaGreatDoor
