/- Walks: lists of sets to the reference's (Lists), the reference's text of them (Rows). -/
import Derived.Test.YtglnhnjmelilmaaGreatDoorSBF
import Derived.Test.YtglnhnjmelilmaaGreatDoorSBE
set_option maxHeartbeats 1000000
set_option maxRecDepth 10000
set_option linter.all false
namespace Go.Pal
open Go Go.RowKit
def slR (s : Option Addr × Nat × Nat) : Array Value := #[.slice s.1 s.2.1 s.2.2]
def SetsA (A : Nat → Prop) (w : World) (L : List (Option Addr × Nat × Nat)) (rows : List Nat) : Prop :=
 L.length = rows.length ∧ ∀ (i : Nat) (s : Option Addr × Nat × Nat) (S : Nat), L[i]? = some s → rows[i]? = some S → RdA A w (.slice s.1 s.2.1 s.2.2) (elemsI S)
theorem SetsA.keep {A A' : Nat → Prop} {w w' : World} {L : List (Option Addr × Nat × Nat)} {rows : List Nat} (h : SetsA A w L rows) (hs : w.heap.size ≤ w'.heap.size) (hk : ∀ k, k < w.heap.size → A k → w'.heap[k]? = w.heap[k]? ∧ A' k) : SetsA A' w' L rows :=
 ⟨h.1, fun i s S h1 h2 => (h.2 i s S h1 h2).keep hs hk⟩
theorem SetsA.snoc {A : Nat → Prop} {w : World} {L : List (Option Addr × Nat × Nat)} {rows : List Nat} (h : SetsA A w L rows) {s : Option Addr × Nat × Nat} {S : Nat} (hs : RdA A w (.slice s.1 s.2.1 s.2.2) (elemsI S)) : SetsA A w (L ++ [s]) (rows ++ [S]) := by
 refine ⟨by simp [h.1], fun i s' S' h1 h2 => ?_⟩
 by_cases hi : i < L.length
 · rw [List.getElem?_append_left hi] at h1
   rw [List.getElem?_append_left (by rw [← h.1]; exact hi)] at h2
   exact h.2 i s' S' h1 h2
 · have hi2 : i = L.length := by
     have := (List.getElem?_eq_some_iff.1 h1).1
     simp at this
     omega
   subst hi2
   rw [List.getElem?_append_right (Nat.le_refl _)] at h1
   rw [h.1, List.getElem?_append_right (Nat.le_refl _)] at h2
   simp at h1 h2
   subst h1
   subst h2
   exact hs
def RowsOk (w : World) (v : Value) (rows : List Nat) : Prop := ∃ L, Rd slR 1 w.heap.size w v L ∧ SetsA (fun _ => True) w L rows
theorem RowsOk.below {w w' : World} {v : Value} {rows : List Nat} (h : RowsOk w v rows) (hb : Below w.heap.size w w') : RowsOk w' v rows := by
 obtain ⟨L, h1, h2⟩ := h
 exact ⟨L, (h1.below hb (Nat.le_refl _)).mono hb.size, h2.keep hb.size fun k hk _ => ⟨hb.block k hk, trivial⟩⟩
theorem RowsOk.nil (w : World) : RowsOk w (.slice none 0 0) [] := ⟨[], Rd.nil, rfl, fun i s S h => by simp at h⟩
theorem RowsOk.sl {w : World} {v : Value} {rows : List Nat} (h : RowsOk w v rows) : ∃ a c, v = .slice a rows.length c := by
 obtain ⟨L, h1, h2⟩ := h
 obtain ⟨a, c, rfl⟩ := h1.sl
 exact ⟨a, c, by rw [h2.1]⟩
theorem RowsOk.at {w : World} {v : Value} {rows : List Nat} (h : RowsOk w v rows) {k S : Nat} (hk : rows[k]? = some S) :
   ∃ (b off c : Nat) (s : Option Addr × Nat × Nat), v = .slice (some ⟨b, off, none⟩) rows.length c ∧ (∀ w', Below w.heap.size w w' → w'.cell? ⟨b, off + k, none⟩ = some (.slice s.1 s.2.1 s.2.2)) ∧ RdL w (.slice s.1 s.2.1 s.2.2) (elemsI S) := by
 obtain ⟨L, h1, h2⟩ := h
 have hlt := (List.getElem?_eq_some_iff.1 hk).1
 obtain ⟨b, off, c, s, e1, -, e2, e3⟩ := h1.at (i := k) (by rw [h2.1]; exact hlt)
 refine ⟨b, off, c, s, by rw [e1, h2.1], fun w' hb => ?_, (h2.2 k s S e2 hk).rdl⟩
 have := e3 w' hb 0 _ rfl
 rwa [Nat.mul_one, Nat.add_zero] at this
def rowsTo (L : List Nat) (k : Nat) : List UInt8 := Lib.join ((L.take k).map setT) [59, 32]
theorem rowsTo_zero (L : List Nat) : rowsTo L 0 = [] := by unfold rowsTo; rw [List.take_zero, List.map_nil, join_nil]
theorem rowsTo_succ {L : List Nat} {k S : Nat} (h : L[k]? = some S) : rowsTo L (k + 1) = (if k = 0 then rowsTo L k else rowsTo L k ++ [59, 32]) ++ setT S := by
 unfold rowsTo
 rw [take_map_snoc h]
 by_cases hk : k = 0
 · subst hk
   rw [if_pos rfl, List.take_zero, List.map_nil, join_nil]
   show Lib.join [setT S] [59, 32] = _
   rw [join_one]
   rfl
 · rw [if_neg hk]
   obtain ⟨a, r, e⟩ : ∃ a r, (L.take k).map setT = a :: r := by
     cases hh : (L.take k).map setT with
     | nil =>
       exfalso
       rw [List.map_eq_nil_iff, List.take_eq_nil_iff] at hh
       rcases hh with e | e
       · exact hk e
       · rw [e] at h; simp at h
     | cons a r => exact ⟨a, r, rfl⟩
   rw [e]
   show Lib.join (a :: r ++ [setT S]) [59, 32] = _
   rw [join_snoc]
end Go.Pal
namespace Go.Proofs.YtglnhnjmelilmaaGreatDoor
open Go Go.RowKit Go.Pal Go.Shelf
attribute [local go_sem] Oper.semAt_some
def elRS : ElT Tryz.prog 83 1 slR where
 bytes := 24
 zero := .slice none 0 0
 info := by kernel_rfl
 zc := rfl
 pos := by decide
 small := by decide
 size _ := rfl
 one x u hu := by simp [slR] at hu; subst hu; rfl
@[go_sem ↓ high] theorem bs_RS (a : Option Addr) (n c : Nat) (w : World) : (Instr.buildSlice 64 1 #[(0, .slice a n c)]).run Tryz.prog w = .ok (.slice (some ⟨w.heap.size, 0, none⟩) 1 1) (w.alloc (.cells #[.slice a n c] 83)) := by kernel_rfl
structure LsSt (B : Nat) (w : World) (vo : Value) (L : List (Option Addr × Nat × Nat)) (rows : List Nat) : Prop where
 out : OwnR 83 1 slR B w vo L
 sets : SetsA (fun j => vo.ownBlock ≠ some j) w L rows
theorem LsSt.nil (B : Nat) (w : World) : LsSt B w (.slice none 0 0) [] [] := ⟨OwnR.nil _ _, rfl, fun i s S h => by simp at h⟩
theorem LsSt.below {B : Nat} {w w' : World} {vo : Value} {L : List (Option Addr × Nat × Nat)} {rows : List Nat} (h : LsSt B w vo L rows) (hb : Below w.heap.size w w') : LsSt B w' vo L rows :=
 ⟨h.out.below hb (Nat.le_refl _), h.sets.keep hb.size fun k hk hA => ⟨hb.block k hk, hA⟩⟩
theorem LsSt.rows {B : Nat} {w : World} {vo : Value} {L : List (Option Addr × Nat × Nat)} {rows : List Nat} (h : LsSt B w vo L rows) : RowsOk w vo rows := ⟨L, h.out.rd elRS, h.sets.keep (Nat.le_refl _) fun _ _ _ => ⟨rfl, trivial⟩⟩
theorem LsSt.snoc {B : Nat} {w w' : World} {vo v' : Value} {L : List (Option Addr × Nat × Nat)} {rows : List Nat} (h : LsSt B w vo L rows) {s : Option Addr × Nat × Nat} {S : Nat} (hn : RdA (fun j => vo.ownBlock ≠ some j) w (.slice s.1 s.2.1 s.2.2) (elemsI S)) (hO : OwnR 83 1 slR B w' v' (L ++ [s])) (hg : ∀ k, k < w.heap.size → vo.ownBlock ≠ some k → w'.heap[k]? = w.heap[k]?) (hs : w.heap.size ≤ w'.heap.size) (hl : v'.ownBlock = vo.ownBlock ∨ ∃ j, v'.ownBlock = some j ∧ w.heap.size ≤ j) : LsSt B w' v' (L ++ [s]) (rows ++ [S]) := by
 have hap : ∀ k, k < w.heap.size → vo.ownBlock ≠ some k → v'.ownBlock ≠ some k := fun k hk hne => by
   rcases hl with e | ⟨j, e, hj⟩
   · rw [e]; exact hne
   · rw [e]; intro e2; cases e2; omega
 exact ⟨hO, (h.sets.snoc hn).keep hs fun k hk hA => ⟨hg k hk hA, hap k hk hA⟩⟩
theorem lists_any (L : List Nat) (hlen : L.length ≤ 100000) (v : Value) (w : World) (hv : Rd words 16 w.heap.size w v L) :
   Calls Tryz.prog 29 #[v] w fun e w' => ∃ v', e = .returned v' ∧ RowsOk w' v' L ∧ Below w.heap.size w w' := by
 have HV := Lib.hid hv
 obtain ⟨a, c, rfl⟩ := hv.sl
 obtain ⟨N, hN⟩ : ∃ N, N = L.length := ⟨_, rfl⟩
 have HN := Lib.hid hN
 rw [← hN] at HV hlen ⊢
 clear hv hN
 go_enter Tryz.func29, Tryz.ntmps29
 go_wp2_with fail
 go_loopw [3, 4] (fun out i wr => ∃ (k : Nat) (Ls : List (Option Addr × Nat × Nat)), k ≤ N ∧ i = .int .i64 (k : Int) ∧ LsSt w.heap.size wr out Ls (L.take k) ∧ Ls.length = k ∧ Below w.heap.size w wr) (fun _ i _ => N - (intOf i).toNat)
 case atStart => exact ⟨0, [], by omega, rfl, LsSt.nil _ _, rfl, Below.refl _ _⟩
 case round =>
   obtain ⟨k, Ls, hk, rfl, hO, hLk, hb⟩ := hrel
   have HO := Lib.hid hO
   have HB := Lib.hid hb
   have HLk := Lib.hid hLk
   have hs := hb.size
   obtain ⟨qo, co, hsl⟩ := hO.out.sl
   subst hsl
   have hLl : Ls.length ≤ 100000 := by omega
   clear hO hb hLk
   by_cases hlt : k < N
   · obtain ⟨b, off, c', S, h1, hbb, hy, hc⟩ := HV.out.at (i := k) (by rw [← HN.out]; exact hlt)
     simp only [Value.slice.injEq] at h1
     obtain ⟨rfl, -, rfl⟩ := h1
     have jl : rowLoad Tryz.prog 79 ⟨b, off + k * 16, none⟩ wr = .ok (.agg (words S)) wr := load_cells Tryz.isAgg79 Tryz.sizeOf79 wr b _ _ (words_size S) fun j u hu => hc wr HB.out j u hu
     have HTk := Lib.hid (take_snoc hy)
     have hki : (k : Int) < (N : Int) := by omega
     clear hbb hy hc
     go_wp2_with fail
     refine (l01To_any S wr).mono ?_
     rintro r w2 ⟨vx, rfl, hOx, hb2⟩
     obtain ⟨qx, cx, hslx⟩ := hOx.sl
     subst hslx
     have HOx := Lib.hid hOx
     have HBr := Lib.hid hb2
     have HO2 := Lib.hid (HO.out.below hb2)
     have HB2 := Lib.hid (HB.out.trans (hb2.mono hs))
     have hs2 := HB2.out.size
     obtain ⟨nx, hnx⟩ : ∃ n, n = (elemsI S).length := ⟨_, rfl⟩
     rw [← hnx] at HOx ⊢
     clear hOx hb2 jl hnx
     go_wp2_with (at_builtin; refine wpList_appO elRS 64 Tryz.underlying64 rfl _ _ rfl w.heap.size _ Ls rfl (HO2.out.out.alloc _) _ (qx, nx, cx) _ rfl (row?_alloc_at _ _ _ _ rfl) (by omega) (by simp; omega) ?_)
     intro v' w6 hO6 hb6 hg6 hl6
     have hsx := HBr.out.size
     have hgr : ∀ j, j < w2.heap.size → (Value.slice qo Ls.length co).ownBlock ≠ some j → w6.heap[j]? = w2.heap[j]? := fun j hj hne => (hg6.block j (by simp; omega) (fun e => hne e.symm)).trans (Below.heap_alloc _ _ _ hj)
     have HS6 := Lib.hid (LsSt.snoc HO2.out (s := (qx, nx, cx)) (S := S) (HOx.out.rdaOf fun j hj e => by
       have h1 := HOx.out.block j hj
       have h2 := HO.out.out.lt j e
       omega) hO6 hgr (by have := hg6.size; simp at this; omega) (hl6.imp id fun e => ⟨_, e, by simp⟩))
     have HB6 := Lib.hid ((HB2.out.alloc hs2 _).trans hb6)
     obtain ⟨q6, c6, hs6⟩ := hO6.sl
     subst hs6
     clear hO6 hb6 hg6 hl6 hgr
     go_wp2_with fail
     go_roundw
     case rel => exact ⟨k + 1, Ls ++ [(qx, nx, cx)], by omega, by go_num, by rw [HTk.out]; exact HS6.out, by rw [List.length_append, HLk.out]; rfl, HB6.out⟩
     case measure => simp [intOf]; omega
   · have hkn : k = N := by omega
     have hki : ¬ (k : Int) < (N : Int) := by omega
     have HR := Lib.hid (show RowsOk wr (.slice qo Ls.length co) L from by have := HO.out.rows; rwa [hkn, HN.out, List.take_length] at this)
     go_wp2_with fail
     go_ret
     exact ⟨_, rfl, HR.out, HB.out⟩
theorem rrows_any (L : List Nat) (hlen : L.length ≤ 100) (v : Value) (w : World) (hv : RowsOk w v L) :
   Calls Tryz.prog 28 #[v] w fun e w' => e = .returned (.string ⟨(rowsT L).toArray⟩) ∧ Below w.heap.size w w' := by
 have HV := Lib.hid hv
 obtain ⟨a, c, rfl⟩ := hv.sl
 obtain ⟨X, hX⟩ : ∃ X, X = rowsT L := ⟨_, rfl⟩
 rw [← hX]
 have HX := Lib.hid hX
 obtain ⟨N, hN⟩ : ∃ N, N = L.length := ⟨_, rfl⟩
 have HN := Lib.hid hN
 rw [← hN] at HV hlen ⊢
 clear hv hX hN
 go_enter Tryz.func28, Tryz.ntmps28
 by_cases h0 : N = 0
 · have HE := Lib.hid (show X = [45] from by rw [HX.out]; unfold rowsT; rw [if_pos (List.length_eq_zero_iff.1 (by rw [← HN.out]; exact h0))])
   subst h0
   go_wp2_with fail
   go_ret
   exact ⟨by rw [HE.out]; rfl, Below.refl _ _⟩
 · have e0 : ((N : Int) == 0) = false := beq_false_of_ne (by omega)
   have e1 : ¬ (N : Int) = 0 := by omega
   have HE := Lib.hid (show X = rowsTo L N from by rw [HX.out]; unfold rowsT rowsTo; rw [if_neg (fun e => h0 (by rw [HN.out, e]; rfl)), HN.out, List.take_length])
   clear h0
   go_wp2_with fail
   go_loopw [3, 4] (fun o i wr => ∃ k : Nat, k ≤ N ∧ i = .int .i64 (k : Int) ∧ (∃ t : List UInt8, o = .string ⟨t.toArray⟩ ∧ t = rowsTo L k ∧ t.length ≤ 5202 * k) ∧ Below w.heap.size w wr) (fun _ i _ => N - (intOf i).toNat)
   case atStart => exact ⟨0, by omega, rfl, ⟨[], rfl, (rowsTo_zero L).symm, by simp⟩, Below.refl _ _⟩
   case round =>
     obtain ⟨k, hk, rfl, ⟨t, rfl, ht, htl⟩, hb⟩ := hrel
     have HTk := Lib.hid ht
     have HB := Lib.hid hb
     clear ht hb
     by_cases hlt : k < N
     · obtain ⟨S, hS⟩ : ∃ S, L[k]? = some S := ⟨_, List.getElem?_eq_getElem (by rw [← HN.out]; exact hlt)⟩
       obtain ⟨b, off, c', s, h1, hc, hrd⟩ := HV.out.at hS
       rw [← HN.out] at h1
       simp only [Value.slice.injEq] at h1
       obtain ⟨rfl, -, rfl⟩ := h1
       have c0 := hc wr HB.out
       have HSucc := Lib.hid (rowsTo_succ hS)
       have HTt := Lib.hid (rtext_any S _ wr (hrd.below HB.out))
       have htx := setT_len S
       obtain ⟨s1, s2, s3⟩ := s
       simp only at c0 HTt
       obtain ⟨A, hA⟩ : ∃ A, A = setT S := ⟨_, rfl⟩
       rw [← hA] at HSucc HTt htx
       have hki : (k : Int) < (N : Int) := by omega
       clear hS hc hrd hA
       by_cases hk0 : k = 0
       · have hd3 : decide ((0 : Int) < (k : Int)) = false := decide_eq_false (by omega)
         have hd4 : ¬ 0 < k := by omega
         have HK0 := Lib.hid hk0
         clear hk0
         have n1 : ¬ 9223372036854775807 < t.length + A.length := by omega
         go_wp2_with fail
         refine HTt.out.mono ?_
         rintro e w2 ⟨rfl, hb2⟩
         have HB2 := Lib.hid (HB.out.trans (hb2.mono HB.out.size))
         clear hb2 c0
         go_wp2_with fail
         go_roundw
         case rel =>
           refine ⟨k + 1, by omega, by go_num, ⟨t ++ A, ?_, ?_, by simp; omega⟩, HB2.out⟩
           · show Value.string (⟨t.toArray⟩ ++ ⟨A.toArray⟩) = _
             rw [str_app]
           · rw [HSucc.out, if_pos HK0.out, ← HTk.out]
         case measure => simp [intOf]; omega
       · have hd3 : decide ((0 : Int) < (k : Int)) = true := decide_eq_true (by omega)
         have hd4 : 0 < k := by omega
         have n0 : ¬ 9223372036854775807 < t.length + 2 := by omega
         have n1 : ¬ 9223372036854775807 < t.length + 2 + A.length := by omega
         go_wp2_with fail
         refine HTt.out.mono ?_
         rintro e w2 ⟨rfl, hb2⟩
         have HB2 := Lib.hid (HB.out.trans (hb2.mono HB.out.size))
         clear hb2 c0
         go_wp2_with fail
         go_roundw
         case rel =>
           refine ⟨k + 1, by omega, by go_num, ⟨t ++ [59, 32] ++ A, ?_, ?_, by simp; omega⟩, HB2.out⟩
           · show Value.string ((⟨t.toArray⟩ ++ (⟨([59, 32] : List UInt8).toArray⟩ : ByteArray)) ++ ⟨A.toArray⟩) = _
             rw [str_app, str_app]
           · rw [HSucc.out, if_neg hk0, ← HTk.out]
         case measure => simp [intOf]; omega
     · have hkn : N = k := by omega
       have hki : ¬ (k : Int) < (N : Int) := by omega
       have HEk := Lib.hid (show t = X from by rw [HTk.out, HE.out, hkn])
       go_wp2_with fail
       go_ret
       exact ⟨by rw [← HEk.out]; rfl, HB.out⟩
end Go.Proofs.YtglnhnjmelilmaaGreatDoor
