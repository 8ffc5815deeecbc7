/- The reference's digits and numerals. Walks: two lists of integers compared; the .. -/
import Derived.Test.YtglnhnjmelilmaaGreatDoorQWw
import Derived.Test.YtglnhnjmelilmaaGreatDoorQVb
import Derived.Test.YtglnhnjmelilmaaGreatDoorQRes
import Derived.Laws.IdiomStrings
import Derived.Test.YtglnhnjmelilmaaGreatDoorQR1g
import Derived.Test.YtglnhnjmelilmaaGreatDoorQVd
import Derived.Test.YtglnhnjmelilmaaGreatDoorQHE
set_option maxHeartbeats 4000000
set_option maxRecDepth 10000
set_option linter.all false
namespace Go.Pal
open Go Go.RowKit
def BΦ (fix : Nat → Option Value) (bs : Nat → Option (List UInt8)) (k : Nat) (v : Value) (W : World) : Prop := (∀ u, fix k = some u → v = u) ∧ ∀ l, bs k = some l → ∃ b, b < W.heap.size ∧ v = .slice (some ⟨b, 0, none⟩) l.length l.length ∧ ∀ j (hj : j < l.length), W.cell? ⟨b, j, none⟩ = some (.int .u8 (l[j].toNat : Int))
theorem bΦ_on (fix : Nat → Option Value) (bs : Nat → Option (List UInt8)) (k : Nat) (v : Value) (w w' : World) (h : BΦ fix bs k v w) (hb : Below w.heap.size w w') : BΦ fix bs k v w' :=
 ⟨h.1, fun l hl => by
   obtain ⟨b, h1, h2, h3⟩ := h.2 l hl
   exact ⟨b, Nat.lt_of_lt_of_le h1 hb.size, h2, fun j hj => (hb.cell (p := ⟨b, j, none⟩) h1).trans (h3 j hj)⟩⟩
theorem str_app (a b : List UInt8) : (⟨a.toArray⟩ : ByteArray) ++ ⟨b.toArray⟩ = ⟨(a ++ b).toArray⟩ := by
 apply ByteArray.ext
 rw [ByteArray.data_append]
 simp
end Go.Pal
namespace Go.Proofs.YtglnhnjmelilmaaGreatDoor
open Go Go.RowKit Go.Pal
attribute [local go_sem] Oper.semAt_some
theorem conv_byte (c : UInt8) (b : Nat) (W : World) (h : W.cell? ⟨b, 0, none⟩ = some (.int .u8 (c.toNat : Int))) : (convert 120 9 (.slice (some ⟨b, 0, none⟩) 1 1)).run Tryz.prog W = .ok (.string ⟨#[c]⟩) W := by
 have := run_convert_bytes_back (P := Tryz.prog) W 120 9 5 ⟨b, 0, none⟩ 1 [c] Tryz.underlying120 Tryz.underlying5 Tryz.underlying9 (fun j hj => by
   have e : j = 0 := by simp at hj; omega
   subst e
   exact h)
 exact this
theorem rdigits_any (u : Nat) : u ≤ 9223372036854775807 → ∀ w : World, Calls Tryz.prog 126 #[.int .i64 (u : Int)] w fun e w' => e = .returned (.string ⟨(Lib.decDigits u).toArray⟩) ∧ Below w.heap.size w w' := by
 induction u using Nat.strongRecOn with
 | _ u ih =>
   intro hu w
   by_cases h : u < 10
   · have h1 : decide ((u : Int) < 10) = true := decide_eq_true (by omega)
     obtain ⟨c, hc⟩ : ∃ c, c = UInt8.ofNat (48 + u) := ⟨_, rfl⟩
     have hcv := conv_byte c w.heap.size (w.alloc (.cells #[.int .u8 (48 + (u : Int))] 5)) (by rw [hc, dig_of h]; simp [go_sem])
     have HD := Lib.hid (show Lib.decDigits u = [c] from by rw [hc]; exact dec_small h)
     clear hc
     clear ih
     go_enter Tryz.func126, Tryz.ntmps126
     go_wp2_with fail
     go_ret
     refine ⟨?_, ?_⟩
     · rw [HD.out]; rfl
     (repeat' (first | (with_reducible first | exact Below.refl _ _ | assumption | refine Below.alloc ?_ ?_ _ | refine Below.drew ?_ | refine Below.setCell ?_ ?_ _ | refine below_setRow ?_ ?_ _ | exact Nat.le_refl _) | omega | (simp; done) | (simp; omega) | (simp at *; omega)))
   · have h1 : decide ((u : Int) < 10) = false := decide_eq_false (by omega)
     have hm : u % 10 < 10 := Nat.mod_lt _ (by omega)
     obtain ⟨c, hc⟩ : ∃ c, c = UInt8.ofNat (48 + u % 10) := ⟨_, rfl⟩
     have hcn : c.toNat = 48 + u % 10 := by rw [hc, dig_of hm]
     have HD := Lib.hid (show Lib.decDigits u = Lib.decDigits (u / 10) ++ [c] from by rw [hc]; exact dec_big h)
     obtain ⟨q, hq⟩ : ∃ q, q = u / 10 := ⟨_, rfl⟩
     obtain ⟨m, hm2⟩ : ∃ m, m = u % 10 := ⟨_, rfl⟩
     have IH := Lib.hid (ih q (by omega) (by omega))
     have hqi : ((u : Int) / 10) = (q : Int) := by omega
     have hmi : ((u : Int) % 10) = (m : Int) := by omega
     have hm9 : m < 10 := by omega
     rw [← hq] at HD
     rw [← hm2] at hcn
     have HQI := Lib.hid hqi
     have HMI := Lib.hid hmi
     have HCN := Lib.hid hcn
     have HLq : Hid (¬ 9223372036854775807 < (Lib.decDigits q).length + 1) := Lib.hid (by
       have := dec_len (u := q) (k := 20) (by omega) (Nat.lt_of_le_of_lt (show q ≤ 9223372036854775807 by omega) (by decide))
       omega)
     clear ih hc hq hm2 hqi hmi hm hcn
     go_enter Tryz.func126, Tryz.ntmps126
     go_wp2_with fail
     refine wp_region_res 10 (fun W => Below w.heap.size w W) (BΦ (fun k => [some (.int .i64 (u : Int)), some (.int .i64 (q : Int)), some (.string ⟨(Lib.decDigits q).toArray⟩), some (.int .i64 (u : Int)), some (.int .i64 (m : Int)), some (.int .i64 (48 + (m : Int))), some (.int .u8 (48 + (m : Int))), none, some (.string ⟨#[c]⟩), some (.string ⟨(Lib.decDigits u).toArray⟩)].getD k none) (fun k => if k = 7 then some [c] else none)) (by kernel_rfl) (by kernel_rfl) (by kernel_rfl) (by kernel_rfl) (by kernel_rfl) (by kernel_rfl) (bΦ_on _ _) (Below.refl _ _).drew ?_ ?_
     · intro k hk
       rcases k with _ | _ | _ | _ | _ | _ | _ | _ | _ | _ | k
       · refine resStep_of rfl fun a' W hS hold hdep K hK => ?_
         have h1 := hold 0 _ (by kernel_rfl) rfl
         unfold Oper.wp
         go_simp
         (try go_ints)
         exact hK _ W ⟨fun u hu => Option.some.inj hu, fun l hl => nomatch hl⟩ hS (Below.refl _ _)
       · refine resStep_of rfl fun a' W hS hold hdep K hK => ?_
         obtain ⟨vd, h1, hfd, -⟩ := hdep 0 10 (by kernel_rfl) (by rfl)
         cases hfd _ rfl
         have hqi := HQI.out
         unfold Oper.wp
         go_simp
         (try go_ints)
         exact hK _ W ⟨fun u hu => Option.some.inj hu, fun l hl => by cases hl⟩ hS (Below.refl _ _)
       · refine resStep_of rfl fun a' W hS hold hdep K hK => ?_
         obtain ⟨vd, h1, hfd, -⟩ := hdep 1 11 (by kernel_rfl) (by rfl)
         cases hfd _ rfl
         unfold Oper.wp
         go_simp
         refine (IH.out W).mono ?_
         rintro e w' ⟨rfl, hb⟩
         exact hK _ _ ⟨fun u hu => Option.some.inj hu, fun l hl => by cases hl⟩ (hS.trans (hb.mono hS.size)) hb
       · refine resStep_of rfl fun a' W hS hold hdep K hK => ?_
         have h1 := hold 0 _ (by kernel_rfl) rfl
         unfold Oper.wp
         go_simp
         (try go_ints)
         exact hK _ W ⟨fun u hu => Option.some.inj hu, fun l hl => nomatch hl⟩ hS (Below.refl _ _)
       · refine resStep_of rfl fun a' W hS hold hdep K hK => ?_
         obtain ⟨vd, h1, hfd, -⟩ := hdep 3 13 (by kernel_rfl) (by rfl)
         cases hfd _ rfl
         have hmi := HMI.out
         unfold Oper.wp
         go_simp
         (try go_ints)
         exact hK _ W ⟨fun u' hu => (congrArg (Value.int .i64) hmi).trans (Option.some.inj hu), fun l hl => by cases hl⟩ hS (Below.refl _ _)
       · refine resStep_of rfl fun a' W hS hold hdep K hK => ?_
         obtain ⟨vd, h1, hfd, -⟩ := hdep 4 14 (by kernel_rfl) (by rfl)
         cases hfd _ rfl
         unfold Oper.wp
         go_simp
         (try go_ints)
         exact hK _ W ⟨fun u hu => Option.some.inj hu, fun l hl => by cases hl⟩ hS (Below.refl _ _)
       · refine resStep_of rfl fun a' W hS hold hdep K hK => ?_
         obtain ⟨vd, h1, hfd, -⟩ := hdep 5 15 (by kernel_rfl) (by rfl)
         cases hfd _ rfl
         unfold Oper.wp
         go_simp
         (try go_ints)
         exact hK _ W ⟨fun u hu => Option.some.inj hu, fun l hl => by cases hl⟩ hS (Below.refl _ _)
       · refine resStep_of rfl fun a' W hS hold hdep K hK => ?_
         obtain ⟨vd, h1, hfd, -⟩ := hdep 6 16 (by kernel_rfl) (by rfl)
         cases hfd _ rfl
         unfold Oper.wp
         go_simp
         refine hK _ _ ⟨fun u hu => (nomatch hu), fun l hl => ?_⟩ (hS.alloc hS.size _) ((Below.refl _ W).alloc (Nat.le_refl _) _)
         cases (Option.some.inj hl : [c] = l)
         refine ⟨W.heap.size, by simp, rfl, fun j hj => ?_⟩
         have e : j = 0 := by simp at hj; omega
         subst e
         show (W.alloc _).cell? _ = some (.int .u8 (c.toNat : Int))
         rw [HCN.out]
         simp [go_sem]
       · refine resStep_of rfl fun a' W hS hold hdep K hK => ?_
         obtain ⟨vd, h1, -, hf⟩ := hdep 7 17 (by kernel_rfl) (by rfl)
         obtain ⟨b, hbl, rfl, hcell⟩ := hf [c] rfl
         have hcv := conv_byte c b W (hcell 0 (by simp))
         simp only [List.length_cons, List.length_nil, Nat.zero_add] at h1
         unfold Oper.wp
         go_simp
         exact hK _ W ⟨fun u hu => Option.some.inj hu, fun l hl => by cases hl⟩ hS (Below.refl _ _)
       · refine resStep_of rfl fun a' W hS hold hdep K hK => ?_
         obtain ⟨vd, h1, hfd, -⟩ := hdep 2 12 (by kernel_rfl) (by rfl)
         cases hfd _ rfl
         obtain ⟨vd, h2, hfd, -⟩ := hdep 8 18 (by kernel_rfl) (by rfl)
         cases hfd _ rfl
         have hlq := HLq.out
         unfold Oper.wp
         go_simp
         refine hK _ W ⟨fun u' hu => ?_, fun l hl => by cases hl⟩ hS (Below.refl _ _)
         rw [← (Option.some.inj hu : Value.string ⟨(Lib.decDigits u).toArray⟩ = _), HD.out, ← str_app]
       · omega
     intro vals W2 hB2 hvals
     obtain ⟨h9, -⟩ := hvals 9 (by omega)
     have h9 := h9 _ rfl
     simp only [putAll, List.drop_succ_cons, List.drop_zero, List.getElem?_toArray, List.getElem?_cons_zero, List.getElem?_cons_succ, Option.bind_some, Act.put]
     rw [h9]
     have HB2 := Lib.hid hB2
     clear hB2 hvals h9
     go_simp
     go_wp2_with fail
     go_ret
     exact ⟨rfl, HB2.out⟩
end Go.Proofs.YtglnhnjmelilmaaGreatDoor
namespace Go.Proofs.YtglnhnjmelilmaaGreatDoor
open Go Go.RowKit Go.Pal
theorem rcmp_same (xs : List Int) (va vb : Value) (w : World) (ha : RdL w va xs) (hb : RdL w vb xs) (hlx : xs.length ≤ 1000000) :
   Calls Tryz.prog 101 #[va, vb] w fun e w' => e = .returned (.int .i64 0) ∧ Below w.heap.size w w' := by
 have HA := Lib.hid ha
 have HBV := Lib.hid hb
 obtain ⟨a, c, rfl, -⟩ := ha
 obtain ⟨a2, c2, rfl, -⟩ := hb
 go_enter Tryz.func101, Tryz.ntmps101
 go_wp2_with fail
 go_loopw [5, 6] (fun i j wr => ∃ k : Nat, k ≤ xs.length ∧ i = .int .i64 ((k : Int) - 1) ∧ j = .int .i64 ((k : Int) - 1) ∧ Below w.heap.size w wr) (fun i _ _ => (intOf i + 1).toNat)
 case atStart => exact ⟨xs.length, by omega, rfl, rfl, Below.refl _ _⟩
 case round =>
   obtain ⟨k, hk, rfl, rfl, hb⟩ := hrel
   have HB1 := Lib.hid hb
   clear hb
   by_cases hk0 : k = 0
   · subst hk0
     go_wp2_with fail
     go_ret
     exact ⟨rfl, HB1.out⟩
   · obtain ⟨m, rfl⟩ : ∃ m, k = m + 1 := ⟨k - 1, by omega⟩
     have hlt : m < xs.length := by omega
     have e1 : (((m + 1 : Nat) : Int) - 1) = (m : Int) := by omega
     rw [e1]
     obtain ⟨b, off, c', z, hv, hz, hc⟩ := HA.out.at hlt
     simp only [Value.slice.injEq] at hv
     obtain ⟨rfl, -, rfl⟩ := hv
     obtain ⟨b2, off2, c', z2, hv, hz2, hc2⟩ := HBV.out.at hlt
     simp only [Value.slice.injEq] at hv
     obtain ⟨rfl, -, rfl⟩ := hv
     rw [hz] at hz2
     obtain rfl := Option.some.inj hz2
     have hcell := hc wr.drew HB1.out.drew
     have hcell2 := hc2 wr.drew HB1.out.drew
     simp only [World.cell?_drew] at hcell hcell2
     clear hc hc2 hz hz2 hk0 e1
     go_wp2_with fail
     refine wp_region_free (fun w' => w' = wr.drew) (by kernel_rfl) (by kernel_rfl) rfl ?_
     repeat (apply wpFree_still; (intro w hw; subst hw; go_simp; (try go_ints); (first | with_reducible rfl | (go_simp; with_reducible rfl))); with_reducible rfl; (intro K hK; go_simp; (try go_ints); refine hK _ ?_; clear hK K))
     with_reducible refine wpFree_nil ?_
     rintro w' rfl
     go_wp2_with fail
     refine wp_region_free (fun w' => w' = wr.drew.drew) (by kernel_rfl) (by kernel_rfl) rfl ?_
     repeat (apply wpFree_still; (intro w hw; subst hw; go_simp; (try go_ints); (first | with_reducible rfl | (go_simp; with_reducible rfl))); with_reducible rfl; (intro K hK; go_simp; (try go_ints); refine hK _ ?_; clear hK K))
     with_reducible refine wpFree_nil ?_
     rintro w' rfl
     go_wp2_with fail
     go_roundw
     case rel => exact ⟨m, by omega, by go_num, by go_num, HB1.out.drew.drew⟩
     case measure => simp [intOf]
theorem rsame_same (xs : List Int) (va vb : Value) (w : World) (ha : RdL w va xs) (hb : RdL w vb xs) (hlx : xs.length ≤ 1000000) :
   Calls Tryz.prog 42 #[va, vb] w fun e w' => e = .returned (.bool true) ∧ Below w.heap.size w w' := by
 have H := Lib.hid (rcmp_same xs va vb w ha hb hlx)
 obtain ⟨a, c, rfl, -⟩ := ha
 obtain ⟨a2, c2, rfl, -⟩ := hb
 go_enter Tryz.func42, Tryz.ntmps42
 go_wp2_with fail
 refine H.out.mono ?_
 rintro e w1 ⟨rfl, hb1⟩
 have HB1 := Lib.hid hb1
 clear hb1 H
 go_wp2_with fail
 go_ret
 exact ⟨rfl, HB1.out⟩
theorem bit_test (S k : Nat) : (bits .and .u64 ((wd S (k / 64) : Int) / 2 ^ (k % 64)) 1 == 1) = S.testBit k := by
 have e : (wd S (k / 64) : Int) / 2 ^ (k % 64) = ((wd S (k / 64) / 2 ^ (k % 64) : Nat) : Int) := by simp
 have hlt : wd S (k / 64) / 2 ^ (k % 64) < 18446744073709551616 := Nat.lt_of_le_of_lt (Nat.div_le_self _ _) (wd_lt S _)
 rw [e, show (1 : Int) = ((1 : Nat) : Int) from rfl, bits_and_word _ _ hlt (by decide)]
 have h2 : (wd S (k / 64)).testBit (k % 64) = S.testBit k := by
   rw [wd_testBit, decide_eq_true (Nat.mod_lt _ (by decide)), Bool.true_and]
   congr 1
   omega
 rw [← h2, Nat.testBit, Nat.shiftRight_eq_div_pow, Nat.and_comm, Nat.one_and_eq_mod_two]
 have hx : (wd S (k / 64) / 2 ^ (k % 64)) % 2 < 2 := Nat.mod_lt _ (by decide)
 generalize (wd S (k / 64) / 2 ^ (k % 64)) % 2 = x at *
 match x, hx with
 | 0, _ => rfl
 | 1, _ => rfl
theorem l01To_any (S : Nat) (w : World) :
   Calls Tryz.prog 39 #[.agg (words S)] w fun e w' => ∃ v', e = .returned v' ∧ OwnI w.heap.size w' v' (elemsI S) ∧ Below w.heap.size w w' := by
 go_enter Tryz.func39, Tryz.ntmps39
 go_wp2_with fail
 go_loopw [3, 4] (fun v i wr => ∃ k : Nat, k ≤ 1024 ∧ i = .int .i64 (k : Int) ∧ OwnI (w.heap.size + 1) wr v (belowI S k) ∧ row? wr w.heap.size = some (words S) ∧ Below w.heap.size w wr) (fun _ i _ => 1024 - (intOf i).toNat)
 case atStart =>
   refine ⟨0, by omega, rfl, ?_, ?_, ((Below.refl _ _).alloc (Nat.le_refl _) _).alloc (by simp) _⟩
   · have := OwnI.empty (B := w.heap.size + 1) (w := w.alloc (.cells (words S) 79)) (by simp)
     rw [belowI_zero]
     simpa using this
   · exact (row?_alloc_past _ _ _ (by simp)).trans (row?_alloc_at _ _ _ _ rfl)
 case round =>
   obtain ⟨k, hk, rfl, hO, hr, hb⟩ := hrel
   have hsz := hb.size
   have hl1 := row?_lt hr
   have HO := Lib.hid hO
   have HB1 := Lib.hid hb
   clear hO hb
   by_cases hlt : k < 1024
   · have hw := words_get S (i := k / 64) (by omega)
     have hcell : wr.cell? ⟨w.heap.size, k / 64, none⟩ = some (.int .u64 (wd S (k / 64) : Int)) := (cell?_row hr).trans hw
     have hl : (k : Int) / 64 < 16 := by omega
     have hl0 : 0 ≤ (k : Int) / 64 := by omega
     have hq : ((k : Int) / 64).toNat = k / 64 := by omega
     have hq2 : ((k : Int) % 64).toNat = k % 64 := by omega
     have hwl := wd_lt S (k / 64)
     have ht := bit_test S k
     have hbs := belowI_succ S k
     have hbl := belowI_length S k
     obtain ⟨acc, hacc⟩ : ∃ acc, acc = belowI S k := ⟨_, rfl⟩
     rw [← hacc] at HO hbs hbl
     have HR := Lib.hid hr
     cases hb : S.testBit k with
     | true =>
       rw [hb] at ht hbs
       have HBS := Lib.hid hbs
       clear hw hr hb hbs hacc
       go_wp2_with (at_builtin; refine wpList_appT rfl 83 undR _ _ rfl ((w.heap.size + 1)) _ (acc) rfl (HO.out.alloc _) _ ((k : Int)) _ rfl (by simp [go_sem]) (by first | omega | (simp; omega)) (by simp; omega) ?_)
       intro v' w2 hO2 hb2
       have hr2 := (row?_below hb2 (by omega)).trans ((row?_alloc_past wr (.cells #[.int .i64 (k : Int)] 3) _ hl1).trans HR.out)
       have HO2 := Lib.hid hO2
       have HB2 := Lib.hid ((HB1.out.alloc hsz _).trans (hb2.mono (by omega)))
       have HR2 := Lib.hid hr2
       clear hO2 hb2 ht hcell hq hq2 hr2
       go_wp2_with fail
       go_roundw
       case rel => exact ⟨k + 1, by omega, by go_num, by rw [HBS.out]; exact HO2.out, HR2.out, HB2.out⟩
       case measure => simp [intOf]; omega
     | false =>
       rw [hb] at ht hbs
       simp at hbs
       have HBS := Lib.hid hbs
       clear hw hr hb hbs hacc
       go_wp2_with fail
       go_roundw
       case rel => exact ⟨k + 1, by omega, by go_num, by rw [HBS.out]; exact HO.out, HR.out, HB1.out⟩
       case measure => simp [intOf]; omega
   · have hk1 : k = 1024 := by omega
     subst hk1
     rw [belowI_all] at HO
     clear hr
     go_wp2_with fail
     go_ret
     exact ⟨_, rfl, HO.out.lower (by omega), HB1.out⟩
end Go.Proofs.YtglnhnjmelilmaaGreatDoor
namespace Go.Pal
open Go Go.RowKit
theorem join_one (a sep : List UInt8) : Lib.join [a] sep = a := by simp [Lib.join, List.intercalate]
theorem join_two (a b : List UInt8) (l : List (List UInt8)) (sep : List UInt8) : Lib.join (a :: b :: l) sep = a ++ sep ++ Lib.join (b :: l) sep := by
 simp [Lib.join, List.intercalate, List.intersperse]
theorem join_snoc (x sep : List UInt8) : ∀ (a : List UInt8) (l : List (List UInt8)), Lib.join (a :: l ++ [x]) sep = Lib.join (a :: l) sep ++ sep ++ x
 | a, [] => by
   show Lib.join (a :: x :: []) sep = _
   rw [join_two, join_one, join_one]
 | a, b :: l => by
   have ih := join_snoc x sep b l
   show Lib.join (a :: b :: (l ++ [x])) sep = _
   rw [join_two, join_two]
   rw [show b :: (l ++ [x]) = b :: l ++ [x] from rfl, ih]
   simp
def refEnds (G : Gr) (l : List Nat) (k : Nat) : List UInt8 := [123] ++ Lib.join ((l.take k).map G.endsAt) [32]
theorem refEnds_zero (G : Gr) (l : List Nat) : refEnds G l 0 = [123] := by
 unfold refEnds
 simp [Lib.join, List.intercalate]
theorem refEnds_succ (G : Gr) {l : List Nat} {k j : Nat} (h : l[k]? = some j) : refEnds G l (k + 1) = (if k = 0 then refEnds G l k else refEnds G l k ++ [32]) ++ G.endsAt j := by
 unfold refEnds
 rw [take_snoc h, List.map_append]
 by_cases hk : k = 0
 · subst hk
   rw [if_pos rfl]
   show [123] ++ Lib.join [G.endsAt j] [32] = [123] ++ Lib.join [] [32] ++ G.endsAt j
   rw [join_one]
   simp [Lib.join, List.intercalate]
 · rw [if_neg hk]
   have hne : (l.take k).map G.endsAt ≠ [] := by
     intro e
     rw [List.map_eq_nil_iff, List.take_eq_nil_iff] at e
     rcases e with e | e
     · exact hk e
     · rw [e] at h
       simp at h
   obtain ⟨a, r, e⟩ : ∃ a r, (l.take k).map G.endsAt = a :: r := by
     cases hh : (l.take k).map G.endsAt with
     | nil => exact absurd hh hne
     | cons a r => exact ⟨a, r, rfl⟩
   rw [e]
   show [123] ++ Lib.join (a :: r ++ [G.endsAt j]) [32] = _
   rw [join_snoc]
   simp
theorem sDiff_none {S n : Nat} (hS : IsSet S) : sDiff S (belS n) = 0 ↔ ∀ j ∈ elems S, j < n := by
 constructor
 · intro h j hj
   have h1 := elems_bit hj
   have h2 : (sDiff S (belS n)).testBit j = false := by rw [h]; exact Nat.zero_testBit j
   rw [sDiff_testBit, belS_bit, h1] at h2
   simpa using h2
 · intro h
   refine Nat.eq_of_testBit_eq fun m => ?_
   rw [sDiff_testBit, belS_bit, Nat.zero_testBit]
   cases hb : S.testBit m with
   | false => rfl
   | true => simp [h m ((mem_elems hS).2 hb)]
end Go.Pal
namespace Go.Proofs.YtglnhnjmelilmaaGreatDoor
open Go Go.RowKit Go.Pal
attribute [local go_sem] Oper.semAt_some
theorem rnum_any (n : Int) (h0 : -9223372036854775807 ≤ n) (h1 : n ≤ 9223372036854775807) (w : World) : Calls Tryz.prog 94 #[.int .i64 n] w fun e w' => e = .returned (.string ⟨(Lib.itoa n).toArray⟩) ∧ Below w.heap.size w w' := by
 by_cases hn : n < 0
 · have hd : decide (n < 0) = true := decide_eq_true hn
   obtain ⟨u, hu⟩ : ∃ u : Nat, n = -(u : Int) := ⟨n.natAbs, by omega⟩
   have HI := Lib.hid (show Lib.itoa n = 45 :: Lib.decDigits u from by unfold Lib.itoa; rw [if_pos hn, show n.natAbs = u by omega])
   have HR := Lib.hid fun w => rdigits_any u (by omega) w
   have hl := dec_len (u := u) (k := 20) (by omega) (Nat.lt_of_le_of_lt (show u ≤ 9223372036854775807 by omega) (by decide))
   have hlq : ¬ 9223372036854775807 < 1 + (Lib.decDigits u).length := by omega
   have hneg : -n = (u : Int) := by omega
   clear hu
   go_enter Tryz.func94, Tryz.ntmps94
   go_wp2_with fail
   refine (HR.out w).mono ?_
   rintro e w1 ⟨rfl, hb⟩
   have HB := Lib.hid hb
   clear hb
   go_wp2_with fail
   go_ret
   refine ⟨?_, HB.out⟩
   rw [HI.out]
   show Ending.returned (.string ((⟨([45] : List UInt8).toArray⟩ : ByteArray) ++ ⟨(Lib.decDigits u).toArray⟩)) = _
   rw [str_app]
   rfl
 · have hd : decide (n < 0) = false := decide_eq_false hn
   obtain ⟨u, rfl⟩ : ∃ u : Nat, n = (u : Int) := ⟨n.toNat, by omega⟩
   have HI := Lib.hid (show Lib.itoa (u : Int) = Lib.decDigits u from by unfold Lib.itoa; rw [if_neg hn]; rfl)
   have HR := Lib.hid fun w => rdigits_any u (by omega) w
   go_enter Tryz.func94, Tryz.ntmps94
   go_wp2_with fail
   refine (HR.out w).mono ?_
   rintro e w1 ⟨rfl, hb⟩
   have HB := Lib.hid hb
   clear hb
   go_wp2_with fail
   go_ret
   exact ⟨by rw [HI.out]; rfl, HB.out⟩
theorem rends_any (G : Gr) (hG : G.Ok) (S : Nat) (hS : IsSet S) (vV vE vS : Value) (w : World) (hg : RefG w vV vE G) (hs : RdL w vS (elemsI S)) :
   Calls Tryz.prog 38 #[.agg #[vV, vE], vS] w fun e w' => e = .returned (if sDiff S (belS G.E.length) = 0 then .tuple #[.string ⟨(G.endsText S).toArray⟩, .int .i64 0] else .tuple #[.string ⟨#[]⟩, .int .i64 9]) ∧ Below w.heap.size w w' := by
 have HG := Lib.hid hG
 have HR := Lib.hid hg
 have HL := Lib.hid hs
 have HSet := Lib.hid hS
 have hm := hG.most
 have hel : (elems S).length ≤ 1024 := elems_len2 S
 obtain ⟨aV, cV, rfl⟩ := hg.1.sl
 obtain ⟨aE, cE, rfl⟩ := hg.2.sl
 obtain ⟨aS, cS, rfl, -⟩ := hs
 have hli : (elemsI S).length = (elems S).length := by simp [elemsI]
 obtain ⟨LV, hLV⟩ : ∃ n, n = G.V.length := ⟨_, rfl⟩
 obtain ⟨LE, hLE⟩ : ∃ n, n = G.E.length := ⟨_, rfl⟩
 obtain ⟨LS, hLS⟩ : ∃ n, n = (elems S).length := ⟨_, rfl⟩
 have HLE := Lib.hid hLE
 have HLS := Lib.hid hLS
 rw [← hLE] at hm
 rw [← hLS] at hel
 rw [hli, ← hLS] at HL ⊢
 rw [← hLV, ← hLE] at HR
 rw [← hLV, ← hLE]
 obtain ⟨T, hT⟩ : ∃ T, T = G.endsText S := ⟨_, rfl⟩
 obtain ⟨q, hq⟩ : ∃ q, q = sDiff S (belS LE) := ⟨_, rfl⟩
 have HT := Lib.hid hT
 have HQ := Lib.hid hq
 rw [← hT, ← hq]
 obtain ⟨R, hR⟩ : ∃ R : Value, R = if q = 0 then .tuple #[.string ⟨T.toArray⟩, .int .i64 0] else .tuple #[.string ⟨#[]⟩, .int .i64 9] := ⟨_, rfl⟩
 have HRes := Lib.hid hR
 rw [← hR]
 clear hg hG hS hLV hLE hLS hli hT hq hR
 go_enter Tryz.func38, Tryz.ntmps38
 go_wp2_with fail
 generalize hW0 : World.alloc w _ = W0
 obtain ⟨hr, hb0⟩ := alloc_row hW0
 have hs0 := row?_lt hr
 have HB0 := Lib.hid hb0
 have HRow := Lib.hid fun W (h : Below W0.heap.size W0 W) => (row?_below h hs0).trans hr
 clear hW0 hr hb0
 go_loopw [6, 7] (fun o i wr => ∃ k : Nat, k ≤ LS ∧ i = .int .i64 (k : Int) ∧ (∃ t : List UInt8, o = .string ⟨t.toArray⟩ ∧ t = refEnds G (elems S) k ∧ t.length ≤ 1 + 50 * k) ∧ (∀ j ∈ (elems S).take k, j < LE) ∧ Below W0.heap.size W0 wr) (fun _ i _ => LS - (intOf i).toNat)
 case atStart => exact ⟨0, by omega, rfl, ⟨[123], rfl, (refEnds_zero _ _).symm, by simp⟩, by simp, Below.refl _ _⟩
 case round =>
   obtain ⟨k, hk, rfl, ⟨t, rfl, ht, htl⟩, hall, hb⟩ := hrel
   have HTk := Lib.hid ht
   have HAll := Lib.hid hall
   have HB := Lib.hid hb
   have hsz := hb.size
   clear ht hall hb
   by_cases hlt : k < LS
   · obtain ⟨b, off, c', z, h1, hz, hc⟩ := HL.out.at (by rw [show (elemsI S).length = LS by rw [HLS.out]; simp [elemsI]]; exact hlt)
     simp only [Value.slice.injEq] at h1
     obtain ⟨rfl, -, rfl⟩ := h1
     obtain ⟨j, hj⟩ : ∃ j, (elems S)[k]? = some j := ⟨_, List.getElem?_eq_getElem (by rw [← HLS.out]; exact hlt)⟩
     obtain rfl : z = (j : Int) := by
       rw [elemsI, List.getElem?_map, hj] at hz
       exact (Option.some.inj hz).symm
     have HJ := Lib.hid hj
     have HC := Lib.hid fun W (hW : Below W0.heap.size W0 W) => show W.cell? ⟨b, off + k, none⟩ = some (.int .i64 (j : Int)) ∧ W.cell? ⟨w.heap.size, 1, none⟩ = some (.slice aE LE cE) from ⟨hc W (HB0.out.trans (hW.mono HB0.out.size)), (cell?_row (i := 1) (HRow.out W hW)).trans rfl⟩
     clear hz hj hc
     by_cases hjl : j < LE
     · have hd1 : decide ((LE : Int) ≤ (j : Int)) = false := decide_eq_false (by omega)
       have hd2 : ¬ LE ≤ j := by omega
       obtain ⟨b2, off2, c2, x, h2, hbb2, hx, hc2⟩ := HR.out.2.at (by rw [← HLE.out]; exact hjl)
       have hmem := List.mem_of_getElem? hx
       have hids := HG.out.endsI _ hmem
       obtain ⟨⟨xu, xv⟩, xl, xw⟩ := x
       simp only at hids
       have hea : G.endsAt j = Lib.itoa xu ++ 45 :: Lib.itoa xv := by unfold Gr.endsAt; rw [hx]; rfl
       have HSucc := Lib.hid (refEnds_succ G HJ.out)
       have HEa := Lib.hid hea
       have hlu := Lib.itoa_length_le xu (by omega) (by omega)
       have hlv := Lib.itoa_length_le xv (by omega) (by omega)
       simp only [Value.slice.injEq] at h2
       obtain ⟨rfl, -, rfl⟩ := h2
       have HC2 := Lib.hid fun W (hW : Below W0.heap.size W0 W) => show W.cell? ⟨b2, off2 + j * 4, none⟩ = some (.int .i64 xu) ∧ W.cell? ⟨b2, off2 + j * 4 + 1, none⟩ = some (.int .i64 xv) from ⟨hc2 W (HB0.out.trans (hW.mono HB0.out.size)) 0 _ rfl, hc2 W (HB0.out.trans (hW.mono HB0.out.size)) 1 _ rfl⟩
       have HNu := Lib.hid fun W => rnum_any xu (by omega) (by omega) W
       have HNv := Lib.hid fun W => rnum_any xv (by omega) (by omega) W
       obtain ⟨A, hA⟩ : ∃ A, A = Lib.itoa xu := ⟨_, rfl⟩
       obtain ⟨B, hB⟩ : ∃ A, A = Lib.itoa xv := ⟨_, rfl⟩
       rw [← hA] at HNu HEa hlu
       rw [← hB] at HNv HEa hlv
       have hall2 : ∀ i ∈ (elems S).take (k + 1), i < LE := by
         rw [take_snoc HJ.out]
         intro i hi
         rcases List.mem_append.1 hi with hi | hi
         · exact HAll.out i hi
         · rw [List.mem_singleton] at hi
           rw [hi]; exact hjl
       have HAll2 := Lib.hid hall2
       clear hx hmem hids hea hc2 hA hB hall2
       go_wp2_with fail
       refine wp_region_free (fun W => Below W0.heap.size W0 W) (by kernel_rfl) (by kernel_rfl) HB.out.drew ?_
       repeat (first | ((first | apply wpFree_still (hg := rfl) | apply wpFree_stillG rfl); (intro w hw; obtain ⟨k1, k2⟩ := HC.out w hw; clear hw; go_simp; (try go_ints); (first | with_reducible rfl | (go_simp; with_reducible rfl))); (intro K hK; go_simp; (try go_ints); refine hK _ ?_; clear hK K)) | (apply wpFree_skip rfl; (intro K hK; go_simp; (try go_ints); refine hK _ ?_; clear hK K)))
       with_reducible refine wpFree_nil ?_
       intro w2 hb2
       have HB2 := Lib.hid hb2
       clear hb2
       by_cases hk0 : k = 0
       · have hd3 : decide ((0 : Int) < (k : Int)) = false := decide_eq_false (by omega)
         have hd4 : ¬ 0 < k := by omega
         have HK0 := Lib.hid hk0
         clear hk0
         have n1 : ¬ 9223372036854775807 < t.length + A.length := by omega
         have n2 : ¬ 9223372036854775807 < t.length + A.length + 1 := by omega
         have n3 : ¬ 9223372036854775807 < t.length + A.length + 1 + B.length := by omega
         go_wp2_with fail
         refine wp_region_free (fun W => Below W0.heap.size W0 W) (by kernel_rfl) (by kernel_rfl) HB2.out.drew ?_
         repeat (first | ((first | apply wpFree_still (hg := rfl) | apply wpFree_stillG rfl); (intro w hw; obtain ⟨k1, k2⟩ := HC.out w hw; obtain ⟨k3, k4⟩ := HC2.out w hw; clear hw; go_simp; (try go_ints); (first | with_reducible rfl | (go_simp; with_reducible rfl))); (intro K hK; go_simp; (try go_ints); refine hK _ ?_; clear hK K)) | (apply wpFree_skip rfl; (intro K hK; go_simp; (try go_ints); refine hK _ ?_; clear hK K)))
         apply wpFree_call
         · intro w hw; go_simp; first | with_reducible rfl | with_reducible exact ⟨rfl, rfl⟩
         · with_reducible rfl
         · intro w hw; exact (HNu.out w).mono fun e w' ⟨h1, h2⟩ => ⟨h1, hw.trans (h2.mono hw.size)⟩
         intro K hK; go_simp; (try go_ints); refine hK _ ?_; clear hK K
         repeat (first | ((first | apply wpFree_still (hg := rfl) | apply wpFree_stillG rfl); (intro w hw; obtain ⟨k1, k2⟩ := HC.out w hw; obtain ⟨k3, k4⟩ := HC2.out w hw; clear hw; go_simp; (try go_ints); (first | with_reducible rfl | (go_simp; with_reducible rfl))); (intro K hK; go_simp; (try go_ints); refine hK _ ?_; clear hK K)) | (apply wpFree_skip rfl; (intro K hK; go_simp; (try go_ints); refine hK _ ?_; clear hK K)))
         apply wpFree_call
         · intro w hw; go_simp; first | with_reducible rfl | with_reducible exact ⟨rfl, rfl⟩
         · with_reducible rfl
         · intro w hw; exact (HNv.out w).mono fun e w' ⟨h1, h2⟩ => ⟨h1, hw.trans (h2.mono hw.size)⟩
         intro K hK; go_simp; (try go_ints); refine hK _ ?_; clear hK K
         repeat (first | ((first | apply wpFree_still (hg := rfl) | apply wpFree_stillG rfl); (intro w hw; clear hw; go_simp; (try go_ints); (first | with_reducible rfl | (go_simp; with_reducible rfl))); (intro K hK; go_simp; (try go_ints); refine hK _ ?_; clear hK K)) | (apply wpFree_skip rfl; (intro K hK; go_simp; (try go_ints); refine hK _ ?_; clear hK K)))
         with_reducible refine wpFree_nil ?_
         intro w3 hb3
         have HB3 := Lib.hid hb3
         clear hb3
         go_wp2_with fail
         go_roundw
         case rel =>
           refine ⟨k + 1, by omega, by go_num, ⟨t ++ A ++ [45] ++ B, ?_, ?_, by simp; omega⟩, HAll2.out, HB3.out⟩
           · show Value.string (((⟨t.toArray⟩ ++ ⟨A.toArray⟩) ++ (⟨([45] : List UInt8).toArray⟩ : ByteArray)) ++ ⟨B.toArray⟩) = _
             rw [str_app, str_app, str_app]
           · rw [HSucc.out, if_pos HK0.out, HEa.out, ← HTk.out]
             simp
         case measure => simp [intOf]; omega
       · have hd3 : decide ((0 : Int) < (k : Int)) = true := decide_eq_true (by omega)
         have hd4 : 0 < k := by omega
         have n0 : ¬ 9223372036854775807 < t.length + 1 := by omega
         have n1 : ¬ 9223372036854775807 < t.length + 1 + A.length := by omega
         have n2 : ¬ 9223372036854775807 < t.length + 1 + A.length + 1 := by omega
         have n3 : ¬ 9223372036854775807 < t.length + 1 + A.length + 1 + B.length := by omega
         go_wp2_with fail
         refine wp_region_free (fun W => Below W0.heap.size W0 W) (by kernel_rfl) (by kernel_rfl) HB2.out.drew ?_
         repeat (first | ((first | apply wpFree_still (hg := rfl) | apply wpFree_stillG rfl); (intro w hw; obtain ⟨k1, k2⟩ := HC.out w hw; obtain ⟨k3, k4⟩ := HC2.out w hw; clear hw; go_simp; (try go_ints); (first | with_reducible rfl | (go_simp; with_reducible rfl))); (intro K hK; go_simp; (try go_ints); refine hK _ ?_; clear hK K)) | (apply wpFree_skip rfl; (intro K hK; go_simp; (try go_ints); refine hK _ ?_; clear hK K)))
         apply wpFree_call
         · intro w hw; go_simp; first | with_reducible rfl | with_reducible exact ⟨rfl, rfl⟩
         · with_reducible rfl
         · intro w hw; exact (HNu.out w).mono fun e w' ⟨h1, h2⟩ => ⟨h1, hw.trans (h2.mono hw.size)⟩
         intro K hK; go_simp; (try go_ints); refine hK _ ?_; clear hK K
         repeat (first | ((first | apply wpFree_still (hg := rfl) | apply wpFree_stillG rfl); (intro w hw; obtain ⟨k1, k2⟩ := HC.out w hw; obtain ⟨k3, k4⟩ := HC2.out w hw; clear hw; go_simp; (try go_ints); (first | with_reducible rfl | (go_simp; with_reducible rfl))); (intro K hK; go_simp; (try go_ints); refine hK _ ?_; clear hK K)) | (apply wpFree_skip rfl; (intro K hK; go_simp; (try go_ints); refine hK _ ?_; clear hK K)))
         apply wpFree_call
         · intro w hw; go_simp; first | with_reducible rfl | with_reducible exact ⟨rfl, rfl⟩
         · with_reducible rfl
         · intro w hw; exact (HNv.out w).mono fun e w' ⟨h1, h2⟩ => ⟨h1, hw.trans (h2.mono hw.size)⟩
         intro K hK; go_simp; (try go_ints); refine hK _ ?_; clear hK K
         repeat (first | ((first | apply wpFree_still (hg := rfl) | apply wpFree_stillG rfl); (intro w hw; clear hw; go_simp; (try go_ints); (first | with_reducible rfl | (go_simp; with_reducible rfl))); (intro K hK; go_simp; (try go_ints); refine hK _ ?_; clear hK K)) | (apply wpFree_skip rfl; (intro K hK; go_simp; (try go_ints); refine hK _ ?_; clear hK K)))
         with_reducible refine wpFree_nil ?_
         intro w3 hb3
         have HB3 := Lib.hid hb3
         clear hb3
         go_wp2_with fail
         go_roundw
         case rel =>
           refine ⟨k + 1, by omega, by go_num, ⟨t ++ [32] ++ A ++ [45] ++ B, ?_, ?_, by simp; omega⟩, HAll2.out, HB3.out⟩
           · show Value.string ((((⟨t.toArray⟩ ++ (⟨([32] : List UInt8).toArray⟩ : ByteArray)) ++ ⟨A.toArray⟩) ++ (⟨([45] : List UInt8).toArray⟩ : ByteArray)) ++ ⟨B.toArray⟩) = _
             rw [str_app, str_app, str_app, str_app]
           · rw [HSucc.out, if_neg hk0, HEa.out, ← HTk.out]
             simp
         case measure => simp [intOf]; omega
     · have hd1 : decide ((LE : Int) ≤ (j : Int)) = true := decide_eq_true (by omega)
       have hd2 : LE ≤ j := by omega
       have hqn : ¬ q = 0 := by
         rw [HQ.out, sDiff_none HSet.out]
         intro h
         exact hjl (h j (List.mem_of_getElem? HJ.out))
       have HQN := Lib.hid hqn
       clear hqn
       go_wp2_with fail
       refine wp_region_free (fun W => Below W0.heap.size W0 W) (by kernel_rfl) (by kernel_rfl) HB.out.drew ?_
       repeat (first | ((first | apply wpFree_still (hg := rfl) | apply wpFree_stillG rfl); (intro w hw; obtain ⟨k1, k2⟩ := HC.out w hw; clear hw; go_simp; (try go_ints); (first | with_reducible rfl | (go_simp; with_reducible rfl))); (intro K hK; go_simp; (try go_ints); refine hK _ ?_; clear hK K)) | (apply wpFree_skip rfl; (intro K hK; go_simp; (try go_ints); refine hK _ ?_; clear hK K)))
       with_reducible refine wpFree_nil ?_
       intro w2 hb2
       have HB2 := Lib.hid hb2
       clear hb2
       go_wp2_with fail
       go_ret2
       refine ⟨by rw [HRes.out, if_neg HQN.out]; rfl, HB0.out.trans (HB2.out.mono HB0.out.size)⟩
   · have hkn : k = LS := by omega
     subst hkn
     have hq0 : q = 0 := by
       rw [HQ.out, sDiff_none HSet.out]
       intro j hj
       refine HAll.out j ?_
       rw [HLS.out, List.take_length]
       exact hj
     have HQ0 := Lib.hid hq0
     clear hq0
     have n0 : ¬ 9223372036854775807 < t.length + 1 := by omega
     go_wp2_with fail
     go_ret2
     refine ⟨?_, HB0.out.trans (HB.out.mono HB0.out.size)⟩
     rw [HRes.out, if_pos HQ0.out, HT.out]
     show Ending.returned (.tuple #[.string ((⟨t.toArray⟩ : ByteArray) ++ ⟨([125] : List UInt8).toArray⟩), _]) = _
     rw [str_app, HTk.out]
     unfold refEnds Gr.endsText
     rw [HLS.out, List.take_length]
     rfl
end Go.Proofs.YtglnhnjmelilmaaGreatDoor
