/- The reference's digits and numerals. Walks: two lists of integers compared; the .. -/
import Derived.Test.YtglnhnjmelilmaaGreatDoorPWw
import Derived.Test.YtglnhnjmelilmaaGreatDoorPVb
import Derived.Test.YtglnhnjmelilmaaGreatDoorPRes
import Derived.Laws.IdiomStrings
import Derived.Test.YtglnhnjmelilmaaGreatDoorPR1g
import Derived.Test.YtglnhnjmelilmaaGreatDoorPVd
import Derived.Test.YtglnhnjmelilmaaGreatDoorPHE
set_option maxHeartbeats 2000000
set_option linter.all false
namespace Go.Pal
open Go Go.RowKit
def BΦ (fix : Nat → Option Value) (bs : Nat → Option (List UInt8)) (k : Nat) (v : Value) (W : World) : Prop := (∀ u, fix k = some u → v = u) ∧ ∀ l, bs k = some l → ∃ b, b < W.heap.size ∧ v = .slice (some ⟨b, 0, none⟩) l.length l.length ∧ ∀ j (hj : j < l.length), W.cell? ⟨b, j, none⟩ = some (.int .u8 (l[j].toNat : Int))
theorem bΦ_on (fix : Nat → Option Value) (bs : Nat → Option (List UInt8)) (k : Nat) (v : Value) (w w' : World) (h : BΦ fix bs k v w) (hb : Below w.heap.size w w') : BΦ fix bs k v w' :=
 ⟨h.1, fun l hl => by
   obtain ⟨b, h1, h2, h3⟩ := h.2 l hl
   exact ⟨b, Nat.lt_of_lt_of_le h1 hb.size, h2, fun j hj => (hb.cell (p := ⟨b, j, none⟩) h1).trans (h3 j hj)⟩⟩
theorem str_app (a b : List UInt8) : (⟨a.toArray⟩ : ByteArray) ++ ⟨b.toArray⟩ = ⟨(a ++ b).toArray⟩ := by
 apply ByteArray.ext
 rw [ByteArray.data_append]
 simp
end Go.Pal
namespace Go.Proofs.YtglnhnjmelilmaaGreatDoor
open Go Go.RowKit Go.Pal
attribute [local go_sem] Oper.semAt_some
theorem conv_byte (c : UInt8) (b : Nat) (W : World) (h : W.cell? ⟨b, 0, none⟩ = some (.int .u8 (c.toNat : Int))) : (convert 120 9 (.slice (some ⟨b, 0, none⟩) 1 1)).run Tryz.prog W = .ok (.string ⟨#[c]⟩) W := by
 have := run_convert_bytes_back (P := Tryz.prog) W 120 9 5 ⟨b, 0, none⟩ 1 [c] Tryz.underlying120 Tryz.underlying5 Tryz.underlying9 (fun j hj => by
   have e : j = 0 := by simp at hj; omega
   subst e
   exact h)
 exact this
set_option maxRecDepth 10000 in
theorem rdigits_any (u : Nat) : u ≤ 9223372036854775807 → ∀ w : World, Calls Tryz.prog 126 #[.int .i64 (u : Int)] w fun e w' => e = .returned (.string ⟨(Lib.decDigits u).toArray⟩) ∧ Below w.heap.size w w' := by
 induction u using Nat.strongRecOn with
 | _ u ih =>
   intro hu w
   by_cases h : u < 10
   · have h1 : decide ((u : Int) < 10) = true := decide_eq_true (by omega)
     obtain ⟨c, hc⟩ : ∃ c, c = UInt8.ofNat (48 + u) := ⟨_, rfl⟩
     have hcv := conv_byte c w.heap.size (w.alloc (.cells #[.int .u8 (48 + (u : Int))] 5)) (by rw [hc, dig_of h]; simp [go_sem])
     have HD := Lib.hid (show Lib.decDigits u = [c] from by rw [hc]; exact dec_small h)
     clear hc
     clear ih
     go_enter Tryz.func126, Tryz.ntmps126
     go_wp2_with fail
     go_ret
     refine ⟨?_, ?_⟩
     · rw [HD.out]; rfl
     (repeat' (first | (with_reducible first | exact Below.refl _ _ | assumption | refine Below.alloc ?_ ?_ _ | refine Below.drew ?_ | refine Below.setCell ?_ ?_ _ | refine below_setRow ?_ ?_ _ | exact Nat.le_refl _) | omega | (simp; done) | (simp; omega) | (simp at *; omega)))
   · have h1 : decide ((u : Int) < 10) = false := decide_eq_false (by omega)
     have hm : u % 10 < 10 := Nat.mod_lt _ (by omega)
     obtain ⟨c, hc⟩ : ∃ c, c = UInt8.ofNat (48 + u % 10) := ⟨_, rfl⟩
     have hcn : c.toNat = 48 + u % 10 := by rw [hc, dig_of hm]
     have HD := Lib.hid (show Lib.decDigits u = Lib.decDigits (u / 10) ++ [c] from by rw [hc]; exact dec_big h)
     obtain ⟨q, hq⟩ : ∃ q, q = u / 10 := ⟨_, rfl⟩
     obtain ⟨m, hm2⟩ : ∃ m, m = u % 10 := ⟨_, rfl⟩
     have IH := Lib.hid (ih q (by omega) (by omega))
     have hqi : ((u : Int) / 10) = (q : Int) := by omega
     have hmi : ((u : Int) % 10) = (m : Int) := by omega
     have hm9 : m < 10 := by omega
     rw [← hq] at HD
     rw [← hm2] at hcn
     have HQI := Lib.hid hqi
     have HMI := Lib.hid hmi
     have HCN := Lib.hid hcn
     have HLq : Hid (¬ 9223372036854775807 < (Lib.decDigits q).length + 1) := Lib.hid (by
       have := dec_len (u := q) (k := 20) (by omega) (Nat.lt_of_le_of_lt (show q ≤ 9223372036854775807 by omega) (by decide))
       omega)
     clear ih hc hq hm2 hqi hmi hm hcn
     go_enter Tryz.func126, Tryz.ntmps126
     go_wp2_with fail
     refine wp_region_res 10 (fun W => Below w.heap.size w W) (BΦ (fun k => [some (.int .i64 (u : Int)), some (.int .i64 (q : Int)), some (.string ⟨(Lib.decDigits q).toArray⟩), some (.int .i64 (u : Int)), some (.int .i64 (m : Int)), some (.int .i64 (48 + (m : Int))), some (.int .u8 (48 + (m : Int))), none, some (.string ⟨#[c]⟩), some (.string ⟨(Lib.decDigits u).toArray⟩)].getD k none) (fun k => if k = 7 then some [c] else none)) (by kernel_rfl) (by kernel_rfl) (by kernel_rfl) (by kernel_rfl) (by kernel_rfl) (by kernel_rfl) (bΦ_on _ _) (Below.refl _ _).drew ?_ ?_
     · intro k hk
       rcases k with _ | _ | _ | _ | _ | _ | _ | _ | _ | _ | k
       · refine resStep_of rfl fun a' W hS hold hdep K hK => ?_
         have h1 := hold 0 _ (by kernel_rfl) rfl
         unfold Oper.wp
         go_simp
         (try go_ints)
         exact hK _ W ⟨fun u hu => Option.some.inj hu, fun l hl => nomatch hl⟩ hS (Below.refl _ _)
       · refine resStep_of rfl fun a' W hS hold hdep K hK => ?_
         obtain ⟨vd, h1, hfd, -⟩ := hdep 0 10 (by kernel_rfl) (by rfl)
         cases hfd _ rfl
         have hqi := HQI.out
         unfold Oper.wp
         go_simp
         (try go_ints)
         exact hK _ W ⟨fun u hu => Option.some.inj hu, fun l hl => by cases hl⟩ hS (Below.refl _ _)
       · refine resStep_of rfl fun a' W hS hold hdep K hK => ?_
         obtain ⟨vd, h1, hfd, -⟩ := hdep 1 11 (by kernel_rfl) (by rfl)
         cases hfd _ rfl
         unfold Oper.wp
         go_simp
         refine (IH.out W).mono ?_
         rintro e w' ⟨rfl, hb⟩
         exact hK _ _ ⟨fun u hu => Option.some.inj hu, fun l hl => by cases hl⟩ (hS.trans (hb.mono hS.size)) hb
       · refine resStep_of rfl fun a' W hS hold hdep K hK => ?_
         have h1 := hold 0 _ (by kernel_rfl) rfl
         unfold Oper.wp
         go_simp
         (try go_ints)
         exact hK _ W ⟨fun u hu => Option.some.inj hu, fun l hl => nomatch hl⟩ hS (Below.refl _ _)
       · refine resStep_of rfl fun a' W hS hold hdep K hK => ?_
         obtain ⟨vd, h1, hfd, -⟩ := hdep 3 13 (by kernel_rfl) (by rfl)
         cases hfd _ rfl
         have hmi := HMI.out
         unfold Oper.wp
         go_simp
         (try go_ints)
         exact hK _ W ⟨fun u' hu => (congrArg (Value.int .i64) hmi).trans (Option.some.inj hu), fun l hl => by cases hl⟩ hS (Below.refl _ _)
       · refine resStep_of rfl fun a' W hS hold hdep K hK => ?_
         obtain ⟨vd, h1, hfd, -⟩ := hdep 4 14 (by kernel_rfl) (by rfl)
         cases hfd _ rfl
         unfold Oper.wp
         go_simp
         (try go_ints)
         exact hK _ W ⟨fun u hu => Option.some.inj hu, fun l hl => by cases hl⟩ hS (Below.refl _ _)
       · refine resStep_of rfl fun a' W hS hold hdep K hK => ?_
         obtain ⟨vd, h1, hfd, -⟩ := hdep 5 15 (by kernel_rfl) (by rfl)
         cases hfd _ rfl
         unfold Oper.wp
         go_simp
         (try go_ints)
         exact hK _ W ⟨fun u hu => Option.some.inj hu, fun l hl => by cases hl⟩ hS (Below.refl _ _)
       · refine resStep_of rfl fun a' W hS hold hdep K hK => ?_
         obtain ⟨vd, h1, hfd, -⟩ := hdep 6 16 (by kernel_rfl) (by rfl)
         cases hfd _ rfl
         unfold Oper.wp
         go_simp
         refine hK _ _ ⟨fun u hu => (nomatch hu), fun l hl => ?_⟩ (hS.alloc hS.size _) ((Below.refl _ W).alloc (Nat.le_refl _) _)
         cases (Option.some.inj hl : [c] = l)
         refine ⟨W.heap.size, by simp, rfl, fun j hj => ?_⟩
         have e : j = 0 := by simp at hj; omega
         subst e
         show (W.alloc _).cell? _ = some (.int .u8 (c.toNat : Int))
         rw [HCN.out]
         simp [go_sem]
       · refine resStep_of rfl fun a' W hS hold hdep K hK => ?_
         obtain ⟨vd, h1, -, hf⟩ := hdep 7 17 (by kernel_rfl) (by rfl)
         obtain ⟨b, hbl, rfl, hcell⟩ := hf [c] rfl
         have hcv := conv_byte c b W (hcell 0 (by simp))
         simp only [List.length_cons, List.length_nil, Nat.zero_add] at h1
         unfold Oper.wp
         go_simp
         exact hK _ W ⟨fun u hu => Option.some.inj hu, fun l hl => by cases hl⟩ hS (Below.refl _ _)
       · refine resStep_of rfl fun a' W hS hold hdep K hK => ?_
         obtain ⟨vd, h1, hfd, -⟩ := hdep 2 12 (by kernel_rfl) (by rfl)
         cases hfd _ rfl
         obtain ⟨vd, h2, hfd, -⟩ := hdep 8 18 (by kernel_rfl) (by rfl)
         cases hfd _ rfl
         have hlq := HLq.out
         unfold Oper.wp
         go_simp
         refine hK _ W ⟨fun u' hu => ?_, fun l hl => by cases hl⟩ hS (Below.refl _ _)
         rw [← (Option.some.inj hu : Value.string ⟨(Lib.decDigits u).toArray⟩ = _), HD.out, ← str_app]
       · omega
     intro vals W2 hB2 hvals
     obtain ⟨h9, -⟩ := hvals 9 (by omega)
     have h9 := h9 _ rfl
     simp only [putAll, List.drop_succ_cons, List.drop_zero, List.getElem?_toArray, List.getElem?_cons_zero, List.getElem?_cons_succ, Option.bind_some, Act.put]
     rw [h9]
     have HB2 := Lib.hid hB2
     clear hB2 hvals h9
     go_simp
     go_wp2_with fail
     go_ret
     exact ⟨rfl, HB2.out⟩
end Go.Proofs.YtglnhnjmelilmaaGreatDoor
namespace Go.Proofs.YtglnhnjmelilmaaGreatDoor
open Go Go.RowKit Go.Pal
end Go.Proofs.YtglnhnjmelilmaaGreatDoor
namespace Go.Pal
open Go Go.RowKit
end Go.Pal
namespace Go.Proofs.YtglnhnjmelilmaaGreatDoor
open Go Go.RowKit Go.Pal
attribute [local go_sem] Oper.semAt_some
theorem rnum_any (n : Int) (h0 : -9223372036854775807 ≤ n) (h1 : n ≤ 9223372036854775807) (w : World) : Calls Tryz.prog 94 #[.int .i64 n] w fun e w' => e = .returned (.string ⟨(Lib.itoa n).toArray⟩) ∧ Below w.heap.size w w' := by
 by_cases hn : n < 0
 · have hd : decide (n < 0) = true := decide_eq_true hn
   obtain ⟨u, hu⟩ : ∃ u : Nat, n = -(u : Int) := ⟨n.natAbs, by omega⟩
   have HI := Lib.hid (show Lib.itoa n = 45 :: Lib.decDigits u from by unfold Lib.itoa; rw [if_pos hn, show n.natAbs = u by omega])
   have HR := Lib.hid fun w => rdigits_any u (by omega) w
   have hl := dec_len (u := u) (k := 20) (by omega) (Nat.lt_of_le_of_lt (show u ≤ 9223372036854775807 by omega) (by decide))
   have hlq : ¬ 9223372036854775807 < 1 + (Lib.decDigits u).length := by omega
   have hneg : -n = (u : Int) := by omega
   clear hu
   go_enter Tryz.func94, Tryz.ntmps94
   go_wp2_with fail
   refine (HR.out w).mono ?_
   rintro e w1 ⟨rfl, hb⟩
   have HB := Lib.hid hb
   clear hb
   go_wp2_with fail
   go_ret
   refine ⟨?_, HB.out⟩
   rw [HI.out]
   show Ending.returned (.string ((⟨([45] : List UInt8).toArray⟩ : ByteArray) ++ ⟨(Lib.decDigits u).toArray⟩)) = _
   rw [str_app]
   rfl
 · have hd : decide (n < 0) = false := decide_eq_false hn
   obtain ⟨u, rfl⟩ : ∃ u : Nat, n = (u : Int) := ⟨n.toNat, by omega⟩
   have HI := Lib.hid (show Lib.itoa (u : Int) = Lib.decDigits u from by unfold Lib.itoa; rw [if_neg hn]; rfl)
   have HR := Lib.hid fun w => rdigits_any u (by omega) w
   go_enter Tryz.func94, Tryz.ntmps94
   go_wp2_with fail
   refine (HR.out w).mono ?_
   rintro e w1 ⟨rfl, hb⟩
   have HB := Lib.hid hb
   clear hb
   go_wp2_with fail
   go_ret
   exact ⟨by rw [HI.out]; rfl, HB.out⟩
end Go.Proofs.YtglnhnjmelilmaaGreatDoor
