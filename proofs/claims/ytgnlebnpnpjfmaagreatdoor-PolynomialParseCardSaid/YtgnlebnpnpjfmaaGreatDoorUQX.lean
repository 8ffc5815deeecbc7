/- Walks of the reference's polynomials: Row; rows of numbers. -/
import Derived.Test.YtgnlebnpnpjfmaaGreatDoorUQF
set_option linter.all false
namespace Go.Pal
theorem topP_snoc (p : Pol) (x : Ex × Nat) (b : Int) : topP (p ++ [x]) b = if (x.1.2 : Int) = b then max (topP p b) (x.1.1 + 1) else topP p b := by
 unfold topP
 rw [List.foldl_append]
 rfl
theorem max_int (T k : Nat) : ((max T (k + 1) : Nat) : Int) - 1 = max ((T : Int) - 1) (k : Int) := by
 rcases Nat.le_total T (k + 1) with h | h
 · rw [Nat.max_eq_right h, Int.max_eq_right (by omega)]; omega
 · rw [Nat.max_eq_left h, Int.max_eq_left (by omega)]
theorem topP_le {m : Nat} {p : Pol} (h : Upto m p) (b : Int) : topP p b ≤ m + 1 := by
 unfold topP
 have h2 : ∀ (q : Pol) (a : Nat), (∀ x ∈ q, x.1.1 ≤ m) → a ≤ m + 1 → q.foldl (fun m x => if (x.1.2 : Int) = b then max m (x.1.1 + 1) else m) a ≤ m + 1 := by
   intro q
   induction q with
   | nil => intro a _ ha; exact ha
   | cons x r ih =>
     intro a hq ha
     rw [List.foldl_cons]
     refine ih _ (fun y hy => hq y (by simp [hy])) ?_
     have := hq x (by simp)
     split <;> omega
 exact h2 p 0 (fun x hx => (h x hx).1) (by omega)
theorem topP_perm {p q : Pol} (h : p.Perm q) (b : Int) : topP p b = topP q b := by
 unfold topP
 refine h.foldl_eq' (fun x _ y _ z => ?_) _
 split <;> split <;> omega
end Go.Pal
namespace Go.Proofs.YtgnlebnpnpjfmaaGreatDoor
open Go Go.RowKit Go.Pal
attribute [local go_sem] Oper.semAt_some
def slC (s : Sl) : Array Value := #[slV s]
def elR : ElT Tryz.prog 55 1 slC where
 bytes := 24
 zero := .slice none 0 0
 info := by kernel_rfl
 zc := rfl
 pos := by decide
 small := by decide
 size _ := rfl
 one x u hu := by simp [slC, slV] at hu; subst hu; rfl
def elN : ElT Tryz.prog 49 1 slC where
 bytes := 24
 zero := .agg #[.slice none 0 0]
 info := by kernel_rfl
 zc := rfl
 pos := by decide
 small := by decide
 size _ := rfl
 one x u hu := by simp [slC, slV] at hu; subst hu; rfl
@[go_sem ↓ high] theorem bs_N10 (a : Option Addr) (n c : Nat) (w : World) : (Instr.buildSlice 83 1 #[(0, .slice a n c)]).run Tryz.prog w = .ok (.slice (some ⟨w.heap.size, 0, none⟩) 1 1) (w.alloc (.cells #[.slice a n c] 55)) := by kernel_rfl
@[go_sem ↓ high] theorem bs_Nat (a : Option Addr) (n c : Nat) (w : World) : (Instr.buildSlice 81 1 #[(0, .agg #[.slice a n c])]).run Tryz.prog w = .ok (.slice (some ⟨w.heap.size, 0, none⟩) 1 1) (w.alloc (.cells #[.slice a n c] 49)) := by kernel_rfl
def RowR (w : World) (v : Value) (T : Nat) (f : Nat → Nat) : Prop := ∃ L, Rd slC 1 w.heap.size w v L ∧ L.length = T ∧ ∀ i s, L[i]? = some s → RefV w (slV s) (f i)
def RowN (w : World) (v : Value) (T : Nat) (f : Nat → Nat) : Prop := ∃ L, Rd slC 1 w.heap.size w v L ∧ L.length = T ∧ ∀ i s, L[i]? = some s → NatV w (.agg #[slV s]) (f i)
theorem RowR.below {w w' : World} {v : Value} {T : Nat} {f : Nat → Nat} (h : RowR w v T f) (hb : Below w.heap.size w w') : RowR w' v T f := by
 obtain ⟨L, h1, h2, h3⟩ := h
 exact ⟨L, (h1.below hb (Nat.le_refl _)).mono hb.size, h2, fun i s hs => (h3 i s hs).below hb⟩
theorem RowN.below {w w' : World} {v : Value} {T : Nat} {f : Nat → Nat} (h : RowN w v T f) (hb : Below w.heap.size w w') : RowN w' v T f := by
 obtain ⟨L, h1, h2, h3⟩ := h
 exact ⟨L, (h1.below hb (Nat.le_refl _)).mono hb.size, h2, fun i s hs => (h3 i s hs).below hb⟩
theorem same_grown {w w' : World} {o : Option Nat} (h : w.grownBy w' o) : Same (fun j => o ≠ some j) w w' := ⟨h.os, h.tape, h.output, h.size, fun j hj hne => h.block j hj (fun e => hne e.symm)⟩
theorem own_noint {t : TypeId} (E : ElT Tryz.prog t 1 slC) {B : Nat} {w : World} {v : Value} {L : List Sl} (k : IntKind) (h : OwnR t 1 slC B w v L) (h0 : L = [] → v = .slice none 0 0) : ∀ j, v.ownBlock = some j → ∀ x : Int, w.cell? ⟨j, 0, none⟩ ≠ some (.int k x) := by
 intro j hj x e
 cases L with
 | nil =>
   rw [h0 rfl] at hj
   cases hj
 | cons s r =>
   obtain ⟨b, c, rfl, -, -⟩ := h.addr (by simp)
   have hjb : b = j := Option.some.inj hj
   subst hjb
   have hc := OwnR.cellAt E h (i := 0) (j := 0) (x := s) (u := slV s) rfl rfl
   simp only [Nat.zero_mul, Nat.add_zero] at hc
   rw [hc] at e
   simp [slV] at e
theorem snoc_at {α : Type} {L : List α} {x s : α} {i : Nat} (h : (L ++ [x])[i]? = some s) : L[i]? = some s ∨ (i = L.length ∧ s = x) := by
 rcases Nat.lt_or_ge i L.length with hi | hi
 · rw [List.getElem?_append_left hi] at h
   exact .inl h
 · rw [List.getElem?_append_right hi] at h
   have h0 : i - L.length = 0 := by
     have := (List.getElem?_eq_some_iff.1 h).1
     simp at this
     omega
   rw [h0] at h
   simp at h
   exact .inr ⟨by omega, h.symm⟩
set_option maxRecDepth 100000 in
set_option maxHeartbeats 4000000 in
theorem qrow_any (p : Pol) (hp : Canon p) (hu : Upto 4096 p) (hl : p.length ≤ 100000) (b : Int) (hb : InI b) (v : Value) (w : World) (hv : RefP w v p) :
   Calls Tryz.prog 50 #[v, .int .i64 b] w fun e w' => ∃ v', e = .returned v' ∧ RowR w' v' (topP p b) (fun i => coefZ p (i : Int) b) ∧ Below w.heap.size w w' := by
 obtain ⟨pa, c, rfl⟩ := refP_sl hv
 have HV := Lib.hid hv
 have HU := Lib.hid hu
 have HAT := Lib.hid fun (a : Nat) (ha : a ≤ 4097) W (h : Below w.heap.size w W) => qat_any p hp hl (a : Int) b (by unfold InI; omega) hb _ W (hv.below h)
 have htop := topP_le hu b
 clear hv hu hp
 go_enter Tryz.func50, Tryz.ntmps50
 go_wp2_with fail
 go_loopw [6, 7] (fun x i wr => ∃ j : Nat, j ≤ p.length ∧ i = .int .i64 (j : Int) ∧ x = .int .i64 ((topP (p.take j) b : Int) - 1) ∧ Below w.heap.size w wr) (fun _ i _ => p.length - (intOf i).toNat)
 case atStart => exact ⟨0, Nat.zero_le _, rfl, rfl, Below.refl _ _⟩
 case round =>
   obtain ⟨j, hj, rfl, rfl, hbl⟩ := hrel
   have HB := Lib.hid hbl
   clear hbl
   rcases Nat.lt_or_ge j p.length with hj2 | hj2
   · obtain ⟨⟨k, m⟩, hx⟩ : ∃ x, p[j]? = some x := ⟨_, List.getElem?_eq_getElem hj2⟩
     obtain ⟨bq, off, s1, s2, s3, rfl, -, hcc⟩ := refP_at HV.out hx
     have hdj : decide (j < p.length) = true := decide_eq_true hj2
     have hk := (HU.out _ (List.mem_of_getElem? hx)).1
     simp only at hk
     have HN := Lib.hid (show topP (p.take (j + 1)) b = _ from by rw [take_snoc hx, topP_snoc])
     have hT := topP_le (p := p.take j) (m := 4096) (fun x hx => HU.out x (List.mem_of_mem_take hx)) b
     obtain ⟨T, hTe⟩ : ∃ T, T = topP (p.take j) b := ⟨_, rfl⟩
     rw [← hTe] at HN hT ⊢
     obtain ⟨-, k1, k2⟩ := hcc wr HB.out
     clear hcc hx hTe htop
     by_cases h2 : (k.2 : Int) = b
     · have e2 : ((k.2 : Int) == b) = true := by rw [beq_iff_eq]; exact h2
       have HN2 := Lib.hid (show ((topP (p.take (j + 1)) b : Nat) : Int) - 1 = max ((T : Int) - 1) (k.1 : Int) from by rw [HN.out, if_pos h2]; exact max_int T k.1)
       clear h2
       go_wp2_with fail
       go_roundw
       case rel => exact ⟨j + 1, by omega, by go_num, by rw [HN2.out], HB.out⟩
       case measure => simp [intOf]; omega
     · have e2 : ((k.2 : Int) == b) = false := by rw [beq_eq_false_iff_ne]; exact h2
       have HN2 := Lib.hid (show topP (p.take (j + 1)) b = T from by rw [HN.out, if_neg h2])
       clear h2
       go_wp2_with fail
       go_roundw
       case rel => exact ⟨j + 1, by omega, by go_num, by rw [HN2.out], HB.out⟩
       case measure => simp [intOf]; omega
   · have hkl : p.take j = p := List.take_of_length_le hj2
     have hdj : decide (j < p.length) = false := decide_eq_false (by omega)
     rw [hkl]
     clear hkl
     obtain ⟨T, hTe⟩ : ∃ T, T = topP p b := ⟨_, rfl⟩
     have HT := Lib.hid hTe
     rw [← hTe] at htop ⊢
     clear hTe
     go_wp2_with fail
     rename World => Wo
     go_loopw [5, 8] (fun x i wr => ∃ (a : Nat) (L : List Sl), a ≤ T ∧ i = .int .i64 (a : Int) ∧ OwnR 55 1 slC w.heap.size wr x L ∧ L.length = a ∧ (L = [] → x = .slice none 0 0) ∧ (∀ (q : Nat) s, L[q]? = some s → RefV wr (slV s) (coefZ p (q : Int) b)) ∧ Below w.heap.size w wr) (fun _ i _ => T - (intOf i).toNat)
     case atStart => exact ⟨0, [], by omega, rfl, OwnR.nil _ _, rfl, fun _ => rfl, by simp, HB.out⟩
     case round =>
       obtain ⟨a, L, ha, rfl, hO, hLl, hLn, hLs, hbl⟩ := hrel
       obtain ⟨oa, oc, rfl⟩ := hO.sl
       have HO := Lib.hid hO
       have HLS := Lib.hid hLs
       have HLN := Lib.hid hLn
       have HB2 := Lib.hid hbl
       have HLL := Lib.hid hLl
       rw [hLl] at HO HLN ⊢
       have hsz := hbl.size
       clear hO hLs hbl hLl hLn
       rcases Nat.lt_or_ge a T with ha2 | ha2
       · have hd1 : decide (a < T) = true := decide_eq_true ha2
         have hd2 : decide ((a : Int) ≤ (T : Int) - 1) = true := decide_eq_true (by omega)
         go_wp2_with fail
         refine (HAT.out a (by omega) wr HB2.out).mono ?_
         rintro e w1 ⟨v1, rfl, h1, b1⟩
         obtain ⟨na, nc, rfl, -, -⟩ := id h1
         obtain ⟨nl, hnl⟩ : ∃ l, l = (digB 10 (coefZ p (a : Int) b)).length := ⟨_, rfl⟩
         rw [← hnl] at h1 ⊢
         have b1s := b1.size
         have hbA : Below w1.heap.size w1 (w1.alloc (.cells #[.slice na nl nc] 55)) := (Below.refl _ _).alloc (Nat.le_refl _) _
         have bb := b1.trans (hbA.mono b1.size)
         have HOA := Lib.hid (HO.out.below bb (Nat.le_refl _))
         have H1A := Lib.hid (h1.below hbA)
         have HSA := Lib.hid fun (q : Nat) s (hq : L[q]? = some s) => RefV.below (HLS.out q s hq) bb
         have B1 := Lib.hid (HB2.out.trans (bb.mono hsz))
         have HNI := Lib.hid (own_noint elR .i64 HOA.out HLN.out)
         clear h1 b1 hnl hbA bb HO HLS
         go_wp2_with (at_builtin; refine wpList_appO elR 83 Tryz.underlying83 rfl _ _ rfl w.heap.size _ L rfl HOA.out _ (na, nl, nc) _ rfl (row?_alloc_at _ _ _ _ (by simp)) (by have := HLL.out; omega) (by simp; omega) ?_)
         intro v5 w5 hO5 hb5 hg5 hl5
         have hs5 := same_grown hg5
         have HF := Lib.hid (show ∀ (q : Nat) s, (L ++ [(na, nl, nc)])[q]? = some s → RefV w5 (slV s) (coefZ p (q : Int) b) from fun q s hq => by
           rcases snoc_at hq with hq | ⟨rfl, rfl⟩
           · exact RdN.same (HSA.out q s hq) hs5 HNI.out
           · rw [HLL.out]
             exact RdN.same H1A.out hs5 HNI.out)
         have HO5 := Lib.hid hO5
         have B5 := Lib.hid (B1.out.trans hb5)
         have HL5 := Lib.hid (show (L ++ [(na, nl, nc)]).length = a + 1 from by simp [HLL.out])
         obtain ⟨oa5, oc5, rfl⟩ := hO5.sl
         clear hO5 hb5 hg5 hl5 hs5 HOA H1A HSA B1 HNI
         go_wp2_with fail
         go_roundw
         case rel => exact ⟨a + 1, _, by omega, by go_num, HO5.out, HL5.out, fun e => by simp at e, HF.out, B5.out⟩
         case measure => simp [intOf]; omega
       · have hd1 : decide (a < T) = false := decide_eq_false (by omega)
         have hd2 : decide ((a : Int) ≤ (T : Int) - 1) = false := decide_eq_false (by omega)
         have HTA := Lib.hid (show a = T by omega)
         go_wp2_with fail
         go_ret
         refine ⟨_, rfl, ⟨L, ?_, by rw [HLL.out, ← HT.out, HTA.out], HLS.out⟩, HB2.out⟩
         have h := HO.out.rd elR
         exact h
end Go.Proofs.YtgnlebnpnpjfmaaGreatDoor
