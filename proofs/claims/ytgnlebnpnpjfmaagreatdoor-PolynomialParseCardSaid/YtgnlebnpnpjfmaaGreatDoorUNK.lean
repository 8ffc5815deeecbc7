/- Walk: slices.Backward at words: the iterator from the last word to the first. -/
import Derived.Test.YtgnlebnpnpjfmaaGreatDoorUOw
import Derived.Test.YtgnlebnpnpjfmaaGreatDoorUNG
import Derived.Test.YtgnlebnpnpjfmaaGreatDoorURu
import Derived.OwnWalkIn
import Derived.TacticsInMore
import Derived.LoopNIn
import Derived.LoopIn
set_option linter.all false
namespace Go.Pal
open Go Go.RowKit
def bwd (l : List Nat) : List (Nat × Nat) := (List.range l.length).reverse.map fun i => (i, atB l i)
theorem bwd_len (l : List Nat) : (bwd l).length = l.length := by simp [bwd]
theorem bwd_at {l : List Nat} {k : Nat} (h : k < l.length) : (bwd l)[k]? = some (l.length - 1 - k, atB l (l.length - 1 - k)) := by
 unfold bwd
 rw [List.getElem?_map, List.getElem?_reverse (by simpa using h), List.length_range, List.getElem?_range (by omega)]
 rfl
theorem bwd_split {l : List Nat} {k : Nat} (h : k < l.length) : bwd l = (bwd l).take k ++ (l.length - 1 - k, atB l (l.length - 1 - k)) :: (bwd l).drop (k + 1) := by
 have hk := bwd_at h
 obtain ⟨h1, h2⟩ := List.getElem?_eq_some_iff.1 hk
 rw [← h2, ← List.drop_eq_getElem_cons h1, List.take_append_drop]
theorem bwd_take_succ {l : List Nat} {k : Nat} (h : k < l.length) : (bwd l).take (k + 1) = (bwd l).take k ++ [(l.length - 1 - k, atB l (l.length - 1 - k))] := by
 rw [List.take_add_one, bwd_at h]
 rfl
end Go.Pal
namespace Go.Proofs.YtgnlebnpnpjfmaaGreatDoor
open Go Go.RowKit Go.Pal
attribute [local go_sem] Oper.semAt_some
theorem backward_any (a : Option Addr) (n c : Nat) (w : World) :
   Calls Tryz.prog 102 #[.slice a n c] w fun e w' => e = .returned (.func (.func 127) #[] #[.pointer (some ⟨w.heap.size, 0, none⟩)]) ∧ w' = w.alloc (.cells #[.slice a n c] 47) := by
 go_enter Tryz.func102, Tryz.ntmps102
 go_wp2
 go_ret
 exact ⟨rfl, rfl⟩
set_option maxRecDepth 10000 in
set_option maxHeartbeats 1000000 in
theorem backward1_iterates (A : Nat → Prop) (b : Nat) (a : Option Addr) (c : Nat) (l : List Nat) (hl : l.length ≤ 100000) (W : World) (hb : row? W b = some #[.slice a l.length c]) (hv : RdN .u32 W (.slice a l.length c) l) (hAb : A b) (hAa : ∀ ba off, a = some ⟨ba, off, none⟩ → l ≠ [] → A ba) (hAlt : ∀ k, A k → k < W.heap.size) :
   IteratesA Tryz.prog A 127 #[.pointer (some ⟨b, 0, none⟩)] (fun x : Nat × Nat => #[.int .i64 (x.1 : Int), .int .u32 (x.2 : Int)]) (bwd l) W := by
 intro lo J hJ hY h0
 have hbl := row?_lt hb
 refine callsIn_of_wp Tryz.func127 rfl trivial ?_ rfl
 simp only [Tryz.ntmps127, List.size_toArray, List.length_cons, List.length_nil, Nat.reduceAdd, Nat.reduceSub, Array.replicate_succ, Array.replicate_zero, List.push_toArray, List.append_toArray, List.nil_append, List.cons_append]
 have k0 : W.cell? ⟨b, 0, none⟩ = some (.slice a l.length c) := cell?_row (i := 0) hb
 have HV := Lib.hid hv
 have HBr := Lib.hid hb
 have HJ := Lib.hid hJ
 have HY := Lib.hid hY
 have HAA := Lib.hid (And.intro hAb (And.intro hAa hAlt))
 have hJ0 := Lib.hid (h0 W.heap.size W (Nat.le_refl _) (Nat.le_refl _) (Same.refl _ _))
 clear hv hJ hY h0 hb hAb hAa hAlt
 gi_wp2
 gi_loopw [3] (fun i wr => ∃ j : Nat, j ≤ l.length ∧ i = .int .i64 ((j : Int) - 1) ∧ Same A W wr ∧ J W.heap.size ((bwd l).take (l.length - j)) wr) (fun i _ => (intOf i + 1).toNat)
 case atStart => exact ⟨l.length, Nat.le_refl _, rfl, Same.refl _ _, by simpa using hJ0.out⟩
 case round =>
   obtain ⟨j, hj, rfl, hs, hJ1⟩ := hrel
   have HS := Lib.hid hs
   have HJ1 := Lib.hid hJ1
   have hsz := hs.size
   clear k0
   have k0 : wr.cell? ⟨b, 0, none⟩ = some (.slice a l.length c) := cell?_row (i := 0) ((row?_congr (hs.block b hbl HAA.out.1)).trans HBr.out)
   clear hs hJ1
   rcases Nat.eq_zero_or_pos j with h0 | h0
   · subst h0
     have HE := Lib.hid (show J W.heap.size (bwd l) wr by have h := HJ1.out; rw [Nat.sub_zero, ← bwd_len l, List.take_length] at h; exact h)
     gi_wp2
     go_end0
     exact ⟨⟨_, rfl⟩, W.heap.size, Nat.le_refl _, HE.out⟩
   · obtain ⟨m, rfl⟩ : ∃ m, j = m + 1 := ⟨j - 1, by omega⟩
     obtain ⟨ba, off, c', x, hsl, -, hx, hc⟩ := HV.out.at (i := m) (by omega)
     simp only [Value.slice.injEq] at hsl
     obtain ⟨rfl, -, rfl⟩ := hsl
     have hne : l ≠ [] := by rintro rfl; simp at hj
     have hba : ba < W.heap.size := HAA.out.2.2 ba (HAA.out.2.1 ba off rfl hne)
     have c0 : wr.cell? ⟨ba, off + m, none⟩ = some (.int .u32 (x : Int)) := (World.cell?_of_block (HS.out.block ba hba (HAA.out.2.1 ba off rfl hne))).trans (hc W (Below.refl _ _))
     have hat : atB l m = x := atB_of hx
     have hsp := bwd_split (l := l) (k := l.length - (m + 1)) (by omega)
     have htk := bwd_take_succ (l := l) (k := l.length - (m + 1)) (by omega)
     rw [show l.length - 1 - (l.length - (m + 1)) = m by omega, hat] at hsp htk
     rw [show l.length - (m + 1) + 1 = l.length - m by omega] at htk
     have HTK := Lib.hid htk
     have e1 : ((m + 1 : Nat) : Int) - 1 = (m : Int) := by omega
     obtain ⟨fn, tmps, assign, body, hy, hRd⟩ := HY.out W.heap.size _ (m, x) wr (Nat.le_refl _) hsz HJ1.out ⟨_, hsp⟩
     simp only at hy
     clear hc hx hat hsp htk
     gi_wp2
     refine ⟨rfl, hRd.mono ?_⟩
     rintro e W3 ⟨rfl, hJ3, hk3⟩
     have HJ3 := Lib.hid hJ3
     have HS3 := Lib.hid (HS.out.trans (hk3.mono fun k _ h => .inl h))
     clear hJ3 hk3 hy
     gi_wp2_with fail
     exact ⟨⟨m, by omega, rfl, HS3.out, by rw [HTK.out]; exact HJ3.out⟩, by simp [intOf]⟩
end Go.Proofs.YtgnlebnpnpjfmaaGreatDoor
