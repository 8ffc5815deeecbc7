/- Walks: graphio's FormatSets and ParseSets. -/
import Derived.Test.YtglnhnjmelilmaaGreatDoorSBB
import Derived.Test.YtglnhnjmelilmaaGreatDoorSBH
import Derived.Test.YtglnhnjmelilmaaGreatDoorSVb
set_option maxHeartbeats 2000000
set_option maxRecDepth 10000
set_option linter.all false
namespace Go.Pal
open Go Go.RowKit
theorem setT_len (S : Nat) : (setT S).length ≤ 5200 := by
 have h := join_len (b := 4) (ls := (elems S).map Lib.decDigits) (fun l hl => by
   obtain ⟨p, hp, rfl⟩ := List.mem_map.1 hl
   exact dec_len (by omega) (Nat.lt_of_lt_of_le (elems_lt hp) (by decide))) [32]
 have h2 := elems_len2 S
 rw [List.length_map] at h
 have h3 : (4 + [(32 : UInt8)].length) * (elems S).length ≤ 5 * 1024 := Nat.mul_le_mul_left 5 h2
 unfold setT
 rw [List.length_append, List.length_append]
 show 1 + _ + 1 ≤ 5200
 omega
theorem take_map_snoc {α β : Type} {f : α → β} {l : List α} {k : Nat} {x : α} (h : l[k]? = some x) : (l.take (k + 1)).map f = (l.take k).map f ++ [f x] := by
 rw [take_snoc h, List.map_append]
 rfl
end Go.Pal
namespace Go.Proofs.YtglnhnjmelilmaaGreatDoor
open Go Go.RowKit Go.Pal Go.Shelf
attribute [local go_sem] Oper.semAt_some
theorem fsets_any (L : List Nat) (hL : ∀ S ∈ L, IsSet S) (hlen : L.length ≤ 1000) (hjn : (Lib.join (L.map setT) [59, 32]).length ≤ 1000000) (v : Value) (w : World) (hv : Rd words 16 w.heap.size w v L) (hP : Pow w) (hT : TabOk w) (hg : 1 < w.heap.size) :
   Calls Tryz.prog 27 #[v] w fun e w' => e = .returned (.string ⟨(rowsT L).toArray⟩) ∧ Below w.heap.size w w' := by
 have HV := Lib.hid hv
 have HP := Lib.hid hP
 have HT := Lib.hid fun W (h : Below w.heap.size w W) => hT.below h hg
 have HSt := Lib.hid hL
 have HJn := Lib.hid hjn
 obtain ⟨a, c, rfl⟩ := hv.sl
 obtain ⟨X, hX⟩ : ∃ X, X = rowsT L := ⟨_, rfl⟩
 rw [← hX]
 have HX := Lib.hid hX
 obtain ⟨N, hN⟩ : ∃ N, N = L.length := ⟨_, rfl⟩
 have HN := Lib.hid hN
 rw [← hN] at HV hlen ⊢
 clear hv hP hT hL hX hN hjn
 go_enter Tryz.func27, Tryz.ntmps27
 by_cases h0 : N = 0
 · have HE := Lib.hid (show X = [45] from by rw [HX.out]; unfold rowsT; rw [if_pos (List.length_eq_zero_iff.1 (by rw [← HN.out]; exact h0))])
   subst h0
   go_wp2_with fail
   go_ret
   exact ⟨by rw [HE.out]; rfl, Below.refl _ _⟩
 · have e0 : ((N : Int) == 0) = false := beq_false_of_ne (by omega)
   have e1 : ¬ (N : Int) = 0 := by omega
   have HE := Lib.hid (show X = Lib.join (L.map setT) [59, 32] from by rw [HX.out]; unfold rowsT; rw [if_neg (fun e => h0 (by rw [HN.out, e]; rfl))])
   clear h0
   go_wp2_with fail
   go_loopw [3, 11] (fun out i wr => ∃ k : Nat, k ≤ N ∧ i = .int .i64 (k : Int) ∧ OwnStr w.heap.size wr out ((L.take k).map setT) ∧ Below w.heap.size w wr) (fun _ i _ => N - (intOf i).toNat)
   case atStart => exact ⟨0, by omega, rfl, OwnR.nil _ _, Below.refl _ _⟩
   case round =>
     obtain ⟨k, hk, rfl, hO, hb⟩ := hrel
     have HO := Lib.hid hO
     have HB := Lib.hid hb
     have hs := hb.size
     obtain ⟨qo, co, hsl⟩ := hO.sl
     subst hsl
     obtain ⟨acc, hacc⟩ : ∃ acc, acc = (L.take k).map setT := ⟨_, rfl⟩
     have hal : acc.length ≤ k := by rw [hacc, List.length_map, List.length_take]; omega
     rw [← hacc] at HO ⊢
     have HAcc := Lib.hid hacc
     clear hO hb hacc
     by_cases hlt : k < N
     · obtain ⟨b, off, c', S, h1, hbb, hy, hc⟩ := HV.out.at (i := k) (by rw [← HN.out]; exact hlt)
       simp only [Value.slice.injEq] at h1
       obtain ⟨rfl, -, rfl⟩ := h1
       have hSs := HSt.out S (List.mem_of_getElem? hy)
       have jl : rowLoad Tryz.prog 79 ⟨b, off + k * 16, none⟩ wr = .ok (.agg (words S)) wr := load_cells Tryz.isAgg79 Tryz.sizeOf79 wr b _ _ (words_size S) fun j u hu => hc wr HB.out j u hu
       have HSn := Lib.hid (show (L.take (k + 1)).map setT = acc ++ [setT S] from by rw [take_map_snoc hy, ← HAcc.out])
       have HB1 := Lib.hid (HB.out.alloc hs (.cells (words S) 79))
       have hrt : row? (wr.alloc (.cells (words S) 79)) wr.heap.size = some (words S) := row?_alloc_at _ _ _ _ rfl
       have HStr := Lib.hid fun W (h : Below w.heap.size w W) => bstring_any S hSs W (HP.out.on h) (HT.out W h) (Nat.lt_of_lt_of_le hg h.size)
       have htl := setT_len S
       obtain ⟨T, hTt⟩ : ∃ T, T = setT S := ⟨_, rfl⟩
       rw [← hTt] at HSn HStr htl
       have hki : (k : Int) < (N : Int) := by omega
       clear hbb hy hc hSs hTt
       go_wp2_with fail
       refine (HStr.out _ HB1.out).mono ?_
       rintro r w2 ⟨rfl, hb2⟩
       have hbr : Below wr.heap.size wr w2 := ((Below.refl _ wr).alloc (Nat.le_refl _) _).trans (hb2.mono (by first | (simp; done) | (simp; omega)))
       have HO2 := Lib.hid (HO.out.below hbr (Nat.le_refl _))
       have HB2 := Lib.hid (HB.out.trans (hbr.mono hs))
       have hs2 := HB2.out.size
       clear hb2 hbr jl hrt HStr
       go_wp2_with (at_builtin; refine wpList_appO elStr 146 Tryz.underlying146 rfl _ _ rfl w.heap.size _ acc rfl (HO2.out.alloc _) _ T _ rfl (row?_alloc_at _ _ _ _ rfl) (by omega) (by simp; omega) ?_)
       intro v' w6 hO6 hb6 _ _
       have HO6 := Lib.hid hO6
       have HB6 := Lib.hid ((HB2.out.alloc hs2 _).trans hb6)
       obtain ⟨q6, c6, hs6⟩ := hO6.sl
       subst hs6
       clear hO6 hb6
       go_wp2_with fail
       go_roundw
       case rel => exact ⟨k + 1, by omega, by go_num, by rw [HSn.out]; exact HO6.out, HB6.out⟩
       case measure => simp [intOf]; omega
     · have hkn : k = N := by omega
       have hki : ¬ (k : Int) < (N : Int) := by omega
       have hall : acc = L.map setT := by rw [HAcc.out, hkn, HN.out, List.take_length]
       have hjl : (Lib.join acc [59, 32]).length ≤ 1000000 := by rw [hall]; exact HJn.out
       have HJ := Lib.hid (join_own w.heap.size acc _ wr HO.out [59, 32] (by omega) hjl)
       have HEj := Lib.hid (show Lib.join acc [59, 32] = X from by rw [hall]; exact HE.out.symm)
       rw [HEj.out] at HJ
       clear hall hjl
       go_wp2_with fail
       refine HJ.out.mono ?_
       rintro r w6 ⟨rfl, hb6⟩
       have HB6 := Lib.hid (HB.out.trans (hb6.mono hs))
       clear hb6
       go_wp2_with fail
       go_ret
       exact ⟨rfl, HB6.out⟩
def elST : ElT Tryz.prog 79 16 words where
 bytes := 128
 zero := .agg (words 0)
 info := by kernel_rfl
 zc := by simp [Value.cells, words_size]
 pos := by decide
 small := by decide
 size := words_size
 one _ _ hu := words_one (by simpa using hu)
theorem foldR_len : ∀ (P : List (List UInt8)) (acc : List Nat), (foldR acc P).1.length ≤ acc.length + P.length
 | [], acc => Nat.le_refl _
 | p :: r, acc => by
   rw [foldR_cons]
   split
   · have := foldR_len r (acc ++ [setL (readSet p).1])
     simp at this ⊢
     omega
   · simp
theorem bs_ST (S : Nat) (w : World) : (Instr.buildSlice 61 1 #[(0, .agg (words S))]).run Tryz.prog w = .ok (.slice (some ⟨w.heap.size, 0, none⟩) 1 1) (w.alloc (.cells (words S) 79)) := by kernel_rfl
theorem wpList_bSet1 {ops : Array Oper} {rest : List Oper} {o : Oper} {a : Act} {Q : Exit → Act → World → Prop} {w : World} (hg : o.guard = none) (x0 : Operand) (ho : o.op = .buildSlice 61 1 #[(0, x0)])
   (S : Nat) (h0 : a.eval x0 = .agg (words S)) (h : wpList Tryz.prog ops Q rest (a.put o.dst (.slice (some ⟨w.heap.size, 0, none⟩) 1 1)) (w.alloc (.cells (words S) 79))) : wpList Tryz.prog ops Q (o :: rest) a w := by
 refine wpList_plain hg fun K hK => ?_
 unfold Oper.wp execOp
 simp only [ho, List.map_toArray, List.map_cons, List.map_nil, h0, Sem.run_bind, bs_ST, Result.andThen_ok]
 exact hK _ _ h
def PSRes (B : Nat) (X : List Nat × Nat) (e : Ending) (w' : World) : Prop := ∃ v, e = .returned (.tuple #[v, .int .i64 (X.2 : Nat)]) ∧ OwnR 79 16 words B w' v X.1
theorem psets_any (s : List UInt8) (hs : s.length ≤ 1000000) (w : World) (hE : Errs w) (hM : Mxl w) :
   Calls Tryz.prog 30 #[.string ⟨s.toArray⟩] w fun e w' => PSRes w.heap.size (readRows s) e w' ∧ Below w.heap.size w w' := by
 have HEr := Lib.hid hE
 obtain ⟨X, hX⟩ : ∃ X, X = readRows s := ⟨_, rfl⟩
 rw [← hX]
 have HX := Lib.hid hX
 have HSp := Lib.hid (split2_any s (by omega) w hM)
 obtain ⟨P, hP⟩ : ∃ P, P = parts2 [] s := ⟨_, rfl⟩
 have hbd := parts2_bound s.length s (Nat.le_refl _) []
 rw [← hP] at HSp hbd
 have HPl := Lib.hid (show ∀ p ∈ P, p.length ≤ 1000000 from fun p hp => by have := hbd.2 p hp; simp at this; omega)
 have hct : P.length ≤ 1000001 := by omega
 have HXs := Lib.hid (show s ≠ [45] → X = foldR [] P from fun h => by rw [hX, hP]; unfold readRows; rw [if_neg h])
 clear hE hM hX hP hbd
 obtain ⟨NP, hNP⟩ : ∃ n, n = P.length := ⟨_, rfl⟩
 have HNP := Lib.hid hNP
 rw [← hNP] at HSp hct
 clear hNP
 go_enter Tryz.func30, Tryz.ntmps30
 by_cases h45 : s = [45]
 · have HE := Lib.hid (show X = ([], 0) from by rw [HX.out]; unfold readRows; rw [if_pos h45])
   subst h45
   go_wp2_with fail
   go_ret2
   exact ⟨⟨_, by rw [HE.out]; rfl, by rw [HE.out]; exact OwnR.nil _ _⟩, Below.refl _ _⟩
 · have e45 : (s == [45]) = false := by simpa using h45
   have HX0 := Lib.hid (HXs.out h45)
   clear h45
   go_wp2_with fail
   refine HSp.out.mono ?_
   rintro e w1 ⟨rfl, hr, hb1, hlt1⟩
   have HR := Lib.hid hr
   have HB1 := Lib.hid hb1
   clear hr hb1 HSp
   go_wp2_with fail
   go_loopw [4, 14] (fun out i wr => ∃ (k : Nat) (acc : List Nat), k ≤ NP ∧ i = .int .i64 (k : Int) ∧ OwnR 79 16 words w1.heap.size wr out acc ∧ acc.length ≤ k ∧ X = foldR acc (P.drop k) ∧ Below w1.heap.size w1 wr) (fun _ i _ => NP - (intOf i).toNat)
   case atStart => exact ⟨0, [], by omega, rfl, OwnR.nil _ _, by simp, HX0.out, Below.refl _ _⟩
   case round =>
     obtain ⟨k, acc, hk, rfl, hO, hal, hx, hb⟩ := hrel
     have HO := Lib.hid hO
     have HB := Lib.hid hb
     have HXk := Lib.hid hx
     have hsz := hb.size
     have HB0 := Lib.hid (HB1.out.trans (hb.mono (Nat.le_of_lt hlt1)))
     obtain ⟨qo, co, hsl⟩ := hO.sl
     subst hsl
     clear hO hb hx
     by_cases hlt : k < NP
     · obtain ⟨p, hp⟩ : ∃ p, P[k]? = some p := ⟨_, List.getElem?_eq_getElem (by rw [← HNP.out]; exact hlt)⟩
       have c1 : wr.cell? ⟨w.heap.size, k, none⟩ = some (.string ⟨p.toArray⟩) := (HB.out.cell (p := ⟨w.heap.size, k, none⟩) hlt1).trans ((cell?_row (i := k) HR.out).trans (by rw [List.getElem?_toArray, List.getElem?_map, hp]; rfl))
       have hpl := HPl.out p (List.mem_of_getElem? hp)
       have HD := Lib.hid (show X = if (readSet p).2 = 0 then foldR (acc ++ [setL (readSet p).1]) (P.drop (k + 1)) else ([], (readSet p).2) from by
         obtain ⟨h1, h2⟩ := List.getElem?_eq_some_iff.1 hp
         rw [HXk.out, List.drop_eq_getElem_cons h1, h2, foldR_cons])
       have HPa := Lib.hid (bparse_any p (by omega) wr (HEr.out.on HB0.out))
       obtain ⟨R, hRr⟩ : ∃ R, R = readSet p := ⟨_, rfl⟩
       rw [← hRr] at HD HPa
       obtain ⟨rl, rc⟩ := R
       simp only at HD HPa
       obtain ⟨S, hSs⟩ : ∃ S, S = setL rl := ⟨_, rfl⟩
       rw [← hSs] at HD HPa
       have hki : (k : Int) < (NP : Int) := by omega
       clear hp hRr hSs
       go_wp2_with fail
       refine HPa.out.mono ?_
       rintro e w2 ⟨rfl, hb2⟩
       have HB2 := Lib.hid (HB.out.trans (hb2.mono hsz))
       have HO2 := Lib.hid (HO.out.below hb2 (Nat.le_refl _))
       have HB02 := Lib.hid (HB0.out.trans (hb2.mono HB0.out.size))
       have hs2 := HB2.out.size
       have hrt : row? (w2.alloc (.cells (words S) 79)) w2.heap.size = some (words S) := row?_alloc_at _ _ _ _ rfl
       clear hb2 c1 HPa
       by_cases hc0 : rc = 0
       · subst hc0
         have HE := Lib.hid (HD.out.trans (if_pos rfl))
         go_wp2_with (first | (refine wpList_bSet1 rfl _ rfl S rfl ?_) | (at_builtin; refine wpList_appO elST 61 Tryz.underlying61 rfl _ _ rfl w1.heap.size _ acc rfl ((HO2.out.alloc _).alloc _) _ S _ rfl (row?_alloc_at _ _ _ _ (by simp)) (by omega) (by simp; omega) ?_))
         intro v' w6 hO6 hb6 _ _
         have HO6 := Lib.hid hO6
         have HB6 := Lib.hid (((HB2.out.alloc hs2 _).alloc (by simp; omega) _).trans hb6)
         obtain ⟨q6, c6, hs6⟩ := hO6.sl
         subst hs6
         clear hO6 hb6 hrt
         go_wp2_with fail
         go_roundw
         case rel => exact ⟨k + 1, _, by omega, by go_num, HO6.out, by simp; omega, HE.out, HB6.out⟩
         case measure => simp [intOf]; omega
       · have HE := Lib.hid (HD.out.trans (if_neg hc0))
         have e1 : ((rc : Int) != 0) = true := by rw [bne_iff_ne]; omega
         have e2 : ¬ (rc : Int) = 0 := by omega
         clear hc0
         go_wp2_with fail
         go_ret2
         exact ⟨⟨_, by rw [HE.out]; rfl, by rw [HE.out]; exact OwnR.nil _ _⟩, HB02.out.alloc HB02.out.size _⟩
     · have hki : ¬ (k : Int) < (NP : Int) := by omega
       have HE := Lib.hid (show X = (acc, 0) from by rw [HXk.out, List.drop_eq_nil_of_le (by rw [← HNP.out]; omega), foldR_nil])
       go_wp2_with fail
       go_ret2
       exact ⟨⟨_, by rw [HE.out]; rfl, by rw [HE.out]; exact HO.out.lower (Nat.le_of_lt hlt1)⟩, HB0.out⟩
end Go.Proofs.YtglnhnjmelilmaaGreatDoor
