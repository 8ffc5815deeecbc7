/- The reference's digits and numerals. Walks: two lists of integers compared; the .. -/
import Derived.Test.YteiibpfabgfolaaGreatDoorVWw
import Derived.Test.YteiibpfabgfolaaGreatDoorVVb
import Derived.Test.YteiibpfabgfolaaGreatDoorVRes
import Derived.Laws.IdiomStrings
import Derived.Test.YteiibpfabgfolaaGreatDoorVR1g
import Derived.Test.YteiibpfabgfolaaGreatDoorVVd
import Derived.Test.YteiibpfabgfolaaGreatDoorVHx
set_option maxHeartbeats 2000000
set_option maxRecDepth 10000
set_option linter.all false
namespace Go.Pal
open Go Go.RowKit
def BΦ (fix : Nat → Option Value) (bs : Nat → Option (List UInt8)) (k : Nat) (v : Value) (W : World) : Prop := (∀ u, fix k = some u → v = u) ∧ ∀ l, bs k = some l → ∃ b, b < W.heap.size ∧ v = .slice (some ⟨b, 0, none⟩) l.length l.length ∧ ∀ j (hj : j < l.length), W.cell? ⟨b, j, none⟩ = some (.int .u8 (l[j].toNat : Int))
theorem bΦ_on (fix : Nat → Option Value) (bs : Nat → Option (List UInt8)) (k : Nat) (v : Value) (w w' : World) (h : BΦ fix bs k v w) (hb : Below w.heap.size w w') : BΦ fix bs k v w' :=
 ⟨h.1, fun l hl => by
   obtain ⟨b, h1, h2, h3⟩ := h.2 l hl
   exact ⟨b, Nat.lt_of_lt_of_le h1 hb.size, h2, fun j hj => (hb.cell (p := ⟨b, j, none⟩) h1).trans (h3 j hj)⟩⟩
theorem str_app (a b : List UInt8) : (⟨a.toArray⟩ : ByteArray) ++ ⟨b.toArray⟩ = ⟨(a ++ b).toArray⟩ := by
 apply ByteArray.ext
 rw [ByteArray.data_append]
 simp
end Go.Pal
namespace Go.Proofs.YteiibpfabgfolaaGreatDoor
open Go Go.RowKit Go.Pal
attribute [local go_sem] Oper.semAt_some
theorem conv_byte (c : UInt8) (b : Nat) (W : World) (h : W.cell? ⟨b, 0, none⟩ = some (.int .u8 (c.toNat : Int))) : (convert 63 9 (.slice (some ⟨b, 0, none⟩) 1 1)).run Tryz.prog W = .ok (.string ⟨#[c]⟩) W := by
 have := run_convert_bytes_back (P := Tryz.prog) W 63 9 5 ⟨b, 0, none⟩ 1 [c] Tryz.underlying63 Tryz.underlying5 Tryz.underlying9 (fun j hj => by
   have e : j = 0 := by simp at hj; omega
   subst e
   exact h)
 exact this
theorem rdigits_any (u : Nat) : u ≤ 9223372036854775807 → ∀ w : World, Calls Tryz.prog 31 #[.int .i64 (u : Int)] w fun e w' => e = .returned (.string ⟨(Lib.decDigits u).toArray⟩) ∧ Below w.heap.size w w' := by
 induction u using Nat.strongRecOn with
 | _ u ih =>
   intro hu w
   by_cases h : u < 10
   · have h1 : decide ((u : Int) < 10) = true := decide_eq_true (by omega)
     obtain ⟨c, hc⟩ : ∃ c, c = UInt8.ofNat (48 + u) := ⟨_, rfl⟩
     have hcv := conv_byte c w.heap.size (w.alloc (.cells #[.int .u8 (48 + (u : Int))] 5)) (by rw [hc, dig_of h]; simp [go_sem])
     have HD := Lib.hid (show Lib.decDigits u = [c] from by rw [hc]; exact dec_small h)
     clear hc
     clear ih
     go_enter Tryz.func31, Tryz.ntmps31
     go_wp2_with fail
     go_ret
     refine ⟨?_, ?_⟩
     · rw [HD.out]; rfl
     (repeat' (first | (with_reducible first | exact Below.refl _ _ | assumption | refine Below.alloc ?_ ?_ _ | refine Below.drew ?_ | refine Below.setCell ?_ ?_ _ | refine below_setRow ?_ ?_ _ | exact Nat.le_refl _) | omega | (simp; done) | (simp; omega) | (simp at *; omega)))
   · have h1 : decide ((u : Int) < 10) = false := decide_eq_false (by omega)
     have hm : u % 10 < 10 := Nat.mod_lt _ (by omega)
     obtain ⟨c, hc⟩ : ∃ c, c = UInt8.ofNat (48 + u % 10) := ⟨_, rfl⟩
     have hcn : c.toNat = 48 + u % 10 := by rw [hc, dig_of hm]
     have HD := Lib.hid (show Lib.decDigits u = Lib.decDigits (u / 10) ++ [c] from by rw [hc]; exact dec_big h)
     obtain ⟨q, hq⟩ : ∃ q, q = u / 10 := ⟨_, rfl⟩
     obtain ⟨m, hm2⟩ : ∃ m, m = u % 10 := ⟨_, rfl⟩
     have IH := Lib.hid (ih q (by omega) (by omega))
     have hqi : ((u : Int) / 10) = (q : Int) := by omega
     have hmi : ((u : Int) % 10) = (m : Int) := by omega
     have hm9 : m < 10 := by omega
     rw [← hq] at HD
     rw [← hm2] at hcn
     have HQI := Lib.hid hqi
     have HMI := Lib.hid hmi
     have HCN := Lib.hid hcn
     have HLq : Hid (¬ 9223372036854775807 < (Lib.decDigits q).length + 1) := Lib.hid (by
       have := dec_len (u := q) (k := 20) (by omega) (Nat.lt_of_le_of_lt (show q ≤ 9223372036854775807 by omega) (by decide))
       omega)
     clear ih hc hq hm2 hqi hmi hm hcn
     go_enter Tryz.func31, Tryz.ntmps31
     go_wp2_with fail
     refine wp_region_res 10 (fun W => Below w.heap.size w W) (BΦ (fun k => [some (.int .i64 (u : Int)), some (.int .i64 (q : Int)), some (.string ⟨(Lib.decDigits q).toArray⟩), some (.int .i64 (u : Int)), some (.int .i64 (m : Int)), some (.int .i64 (48 + (m : Int))), some (.int .u8 (48 + (m : Int))), none, some (.string ⟨#[c]⟩), some (.string ⟨(Lib.decDigits u).toArray⟩)].getD k none) (fun k => if k = 7 then some [c] else none)) (by kernel_rfl) (by kernel_rfl) (by kernel_rfl) (by kernel_rfl) (by kernel_rfl) (by kernel_rfl) (bΦ_on _ _) (Below.refl _ _).drew ?_ ?_
     · intro k hk
       rcases k with _ | _ | _ | _ | _ | _ | _ | _ | _ | _ | k
       · refine resStep_of rfl fun a' W hS hold hdep K hK => ?_
         have h1 := hold 0 _ (by kernel_rfl) rfl
         unfold Oper.wp
         go_simp
         (try go_ints)
         exact hK _ W ⟨fun u hu => Option.some.inj hu, fun l hl => nomatch hl⟩ hS (Below.refl _ _)
       · refine resStep_of rfl fun a' W hS hold hdep K hK => ?_
         obtain ⟨vd, h1, hfd, -⟩ := hdep 0 10 (by kernel_rfl) (by rfl)
         cases hfd _ rfl
         have hqi := HQI.out
         unfold Oper.wp
         go_simp
         (try go_ints)
         exact hK _ W ⟨fun u hu => Option.some.inj hu, fun l hl => by cases hl⟩ hS (Below.refl _ _)
       · refine resStep_of rfl fun a' W hS hold hdep K hK => ?_
         obtain ⟨vd, h1, hfd, -⟩ := hdep 1 11 (by kernel_rfl) (by rfl)
         cases hfd _ rfl
         unfold Oper.wp
         go_simp
         refine (IH.out W).mono ?_
         rintro e w' ⟨rfl, hb⟩
         exact hK _ _ ⟨fun u hu => Option.some.inj hu, fun l hl => by cases hl⟩ (hS.trans (hb.mono hS.size)) hb
       · refine resStep_of rfl fun a' W hS hold hdep K hK => ?_
         have h1 := hold 0 _ (by kernel_rfl) rfl
         unfold Oper.wp
         go_simp
         (try go_ints)
         exact hK _ W ⟨fun u hu => Option.some.inj hu, fun l hl => nomatch hl⟩ hS (Below.refl _ _)
       · refine resStep_of rfl fun a' W hS hold hdep K hK => ?_
         obtain ⟨vd, h1, hfd, -⟩ := hdep 3 13 (by kernel_rfl) (by rfl)
         cases hfd _ rfl
         have hmi := HMI.out
         unfold Oper.wp
         go_simp
         (try go_ints)
         exact hK _ W ⟨fun u' hu => (congrArg (Value.int .i64) hmi).trans (Option.some.inj hu), fun l hl => by cases hl⟩ hS (Below.refl _ _)
       · refine resStep_of rfl fun a' W hS hold hdep K hK => ?_
         obtain ⟨vd, h1, hfd, -⟩ := hdep 4 14 (by kernel_rfl) (by rfl)
         cases hfd _ rfl
         unfold Oper.wp
         go_simp
         (try go_ints)
         exact hK _ W ⟨fun u hu => Option.some.inj hu, fun l hl => by cases hl⟩ hS (Below.refl _ _)
       · refine resStep_of rfl fun a' W hS hold hdep K hK => ?_
         obtain ⟨vd, h1, hfd, -⟩ := hdep 5 15 (by kernel_rfl) (by rfl)
         cases hfd _ rfl
         unfold Oper.wp
         go_simp
         (try go_ints)
         exact hK _ W ⟨fun u hu => Option.some.inj hu, fun l hl => by cases hl⟩ hS (Below.refl _ _)
       · refine resStep_of rfl fun a' W hS hold hdep K hK => ?_
         obtain ⟨vd, h1, hfd, -⟩ := hdep 6 16 (by kernel_rfl) (by rfl)
         cases hfd _ rfl
         unfold Oper.wp
         go_simp
         refine hK _ _ ⟨fun u hu => (nomatch hu), fun l hl => ?_⟩ (hS.alloc hS.size _) ((Below.refl _ W).alloc (Nat.le_refl _) _)
         cases (Option.some.inj hl : [c] = l)
         refine ⟨W.heap.size, by simp, rfl, fun j hj => ?_⟩
         have e : j = 0 := by simp at hj; omega
         subst e
         show (W.alloc _).cell? _ = some (.int .u8 (c.toNat : Int))
         rw [HCN.out]
         simp [go_sem]
       · refine resStep_of rfl fun a' W hS hold hdep K hK => ?_
         obtain ⟨vd, h1, -, hf⟩ := hdep 7 17 (by kernel_rfl) (by rfl)
         obtain ⟨b, hbl, rfl, hcell⟩ := hf [c] rfl
         have hcv := conv_byte c b W (hcell 0 (by simp))
         simp only [List.length_cons, List.length_nil, Nat.zero_add] at h1
         unfold Oper.wp
         go_simp
         exact hK _ W ⟨fun u hu => Option.some.inj hu, fun l hl => by cases hl⟩ hS (Below.refl _ _)
       · refine resStep_of rfl fun a' W hS hold hdep K hK => ?_
         obtain ⟨vd, h1, hfd, -⟩ := hdep 2 12 (by kernel_rfl) (by rfl)
         cases hfd _ rfl
         obtain ⟨vd, h2, hfd, -⟩ := hdep 8 18 (by kernel_rfl) (by rfl)
         cases hfd _ rfl
         have hlq := HLq.out
         unfold Oper.wp
         go_simp
         refine hK _ W ⟨fun u' hu => ?_, fun l hl => by cases hl⟩ hS (Below.refl _ _)
         rw [← (Option.some.inj hu : Value.string ⟨(Lib.decDigits u).toArray⟩ = _), HD.out, ← str_app]
       · omega
     intro vals W2 hB2 hvals
     obtain ⟨h9, -⟩ := hvals 9 (by omega)
     have h9 := h9 _ rfl
     simp only [putAll, List.drop_succ_cons, List.drop_zero, List.getElem?_toArray, List.getElem?_cons_zero, List.getElem?_cons_succ, Option.bind_some, Act.put]
     rw [h9]
     have HB2 := Lib.hid hB2
     clear hB2 hvals h9
     go_simp
     go_wp2_with fail
     go_ret
     exact ⟨rfl, HB2.out⟩
end Go.Proofs.YteiibpfabgfolaaGreatDoor
namespace Go.Proofs.YteiibpfabgfolaaGreatDoor
open Go Go.RowKit Go.Pal
theorem bit_test (S k : Nat) : (bits .and .u64 ((wd S (k / 64) : Int) / 2 ^ (k % 64)) 1 == 1) = S.testBit k := by
 have e : (wd S (k / 64) : Int) / 2 ^ (k % 64) = ((wd S (k / 64) / 2 ^ (k % 64) : Nat) : Int) := by simp
 have hlt : wd S (k / 64) / 2 ^ (k % 64) < 18446744073709551616 := Nat.lt_of_le_of_lt (Nat.div_le_self _ _) (wd_lt S _)
 rw [e, show (1 : Int) = ((1 : Nat) : Int) from rfl, bits_and_word _ _ hlt (by decide)]
 have h2 : (wd S (k / 64)).testBit (k % 64) = S.testBit k := by
   rw [wd_testBit, decide_eq_true (Nat.mod_lt _ (by decide)), Bool.true_and]
   congr 1
   omega
 rw [← h2, Nat.testBit, Nat.shiftRight_eq_div_pow, Nat.and_comm, Nat.one_and_eq_mod_two]
 have hx : (wd S (k / 64) / 2 ^ (k % 64)) % 2 < 2 := Nat.mod_lt _ (by decide)
 generalize (wd S (k / 64) / 2 ^ (k % 64)) % 2 = x at *
 match x, hx with
 | 0, _ => rfl
 | 1, _ => rfl
theorem l01To_any (S : Nat) (w : World) :
   Calls Tryz.prog 20 #[.agg (words S)] w fun e w' => ∃ v', e = .returned v' ∧ OwnI w.heap.size w' v' (elemsI S) ∧ Below w.heap.size w w' := by
 go_enter Tryz.func20, Tryz.ntmps20
 go_wp2_with fail
 go_loopw [3, 4] (fun v i wr => ∃ k : Nat, k ≤ 1024 ∧ i = .int .i64 (k : Int) ∧ OwnI (w.heap.size + 1) wr v (belowI S k) ∧ row? wr w.heap.size = some (words S) ∧ Below w.heap.size w wr) (fun _ i _ => 1024 - (intOf i).toNat)
 case atStart =>
   refine ⟨0, by omega, rfl, ?_, ?_, ((Below.refl _ _).alloc (Nat.le_refl _) _).alloc (by simp) _⟩
   · have := OwnI.empty (B := w.heap.size + 1) (w := w.alloc (.cells (words S) 51)) (by simp)
     rw [belowI_zero]
     simpa using this
   · exact (row?_alloc_past _ _ _ (by simp)).trans (row?_alloc_at _ _ _ _ rfl)
 case round =>
   obtain ⟨k, hk, rfl, hO, hr, hb⟩ := hrel
   have hsz := hb.size
   have hl1 := row?_lt hr
   have HO := Lib.hid hO
   have HB1 := Lib.hid hb
   clear hO hb
   by_cases hlt : k < 1024
   · have hw := words_get S (i := k / 64) (by omega)
     have hcell : wr.cell? ⟨w.heap.size, k / 64, none⟩ = some (.int .u64 (wd S (k / 64) : Int)) := (cell?_row hr).trans hw
     have hl : (k : Int) / 64 < 16 := by omega
     have hl0 : 0 ≤ (k : Int) / 64 := by omega
     have hq : ((k : Int) / 64).toNat = k / 64 := by omega
     have hq2 : ((k : Int) % 64).toNat = k % 64 := by omega
     have hwl := wd_lt S (k / 64)
     have ht := bit_test S k
     have hbs := belowI_succ S k
     have hbl := belowI_length S k
     obtain ⟨acc, hacc⟩ : ∃ acc, acc = belowI S k := ⟨_, rfl⟩
     rw [← hacc] at HO hbs hbl
     have HR := Lib.hid hr
     cases hb : S.testBit k with
     | true =>
       rw [hb] at ht hbs
       have HBS := Lib.hid hbs
       clear hw hr hb hbs hacc
       go_wp2_with (at_builtin; refine wpList_appT rfl 57 undR _ _ rfl ((w.heap.size + 1)) _ (acc) rfl (HO.out.alloc _) _ ((k : Int)) _ rfl (by simp [go_sem]) (by first | omega | (simp; omega)) (by simp; omega) ?_)
       intro v' w2 hO2 hb2
       have hr2 := (row?_below hb2 (by omega)).trans ((row?_alloc_past wr (.cells #[.int .i64 (k : Int)] 3) _ hl1).trans HR.out)
       have HO2 := Lib.hid hO2
       have HB2 := Lib.hid ((HB1.out.alloc hsz _).trans (hb2.mono (by omega)))
       have HR2 := Lib.hid hr2
       clear hO2 hb2 ht hcell hq hq2 hr2
       go_wp2_with fail
       go_roundw
       case rel => exact ⟨k + 1, by omega, by go_num, by rw [HBS.out]; exact HO2.out, HR2.out, HB2.out⟩
       case measure => simp [intOf]; omega
     | false =>
       rw [hb] at ht hbs
       simp at hbs
       have HBS := Lib.hid hbs
       clear hw hr hb hbs hacc
       go_wp2_with fail
       go_roundw
       case rel => exact ⟨k + 1, by omega, by go_num, by rw [HBS.out]; exact HO.out, HR.out, HB1.out⟩
       case measure => simp [intOf]; omega
   · have hk1 : k = 1024 := by omega
     subst hk1
     rw [belowI_all] at HO
     clear hr
     go_wp2_with fail
     go_ret
     exact ⟨_, rfl, HO.out.lower (by omega), HB1.out⟩
end Go.Proofs.YteiibpfabgfolaaGreatDoor
namespace Go.Pal
open Go Go.RowKit
theorem join_one (a sep : List UInt8) : Lib.join [a] sep = a := by simp [Lib.join, List.intercalate]
theorem join_two (a b : List UInt8) (l : List (List UInt8)) (sep : List UInt8) : Lib.join (a :: b :: l) sep = a ++ sep ++ Lib.join (b :: l) sep := by
 simp [Lib.join, List.intercalate, List.intersperse]
theorem join_snoc (x sep : List UInt8) : ∀ (a : List UInt8) (l : List (List UInt8)), Lib.join (a :: l ++ [x]) sep = Lib.join (a :: l) sep ++ sep ++ x
 | a, [] => by
   show Lib.join (a :: x :: []) sep = _
   rw [join_two, join_one, join_one]
 | a, b :: l => by
   have ih := join_snoc x sep b l
   show Lib.join (a :: b :: (l ++ [x])) sep = _
   rw [join_two, join_two]
   rw [show b :: (l ++ [x]) = b :: l ++ [x] from rfl, ih]
   simp
end Go.Pal
namespace Go.Proofs.YteiibpfabgfolaaGreatDoor
open Go Go.RowKit Go.Pal
attribute [local go_sem] Oper.semAt_some
end Go.Proofs.YteiibpfabgfolaaGreatDoor
