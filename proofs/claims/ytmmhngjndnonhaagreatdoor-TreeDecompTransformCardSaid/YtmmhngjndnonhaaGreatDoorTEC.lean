/- The walk of the statement TreeDecompEqualClone; trees of bags copied, empty ones too. -/
import Derived.Test.YtmmhngjndnonhaaGreatDoorTGU
import Derived.Test.YtmmhngjndnonhaaGreatDoorTRef3
import Derived.Lib.SliceRun
set_option linter.all false
namespace Go.Proofs.YtmmhngjndnonhaaGreatDoor
open Go Go.RowKit Go.Pal Go.Shelf
attribute [local go_sem] Oper.semAt_some
set_option maxHeartbeats 1000000 in
theorem cloneT_own0 (a : Addr) (c : Nat) (w : World) : Calls Tryz.prog 136 #[.slice (some a) 0 c] w fun e w' => ∃ v', e = .returned v' ∧ OwnT w.heap.size w' v' [] ∧ Below w.heap.size w w' := by
 have q22 : ∀ (w : World) (a : Option Addr) (n c n' c' : Nat), (binOp .eql 46 (.slice a n c) (.slice none n' c')).run Tryz.prog w = .ok (.bool a.isNone) w := fun w a n c n' c' => Lib.run_eql_slice_nil w _ _ a n c n' c' Tryz.underlying46
 obtain ⟨i0, hi, hz0, hz1, hz2⟩ := info_parts qinfoBag
 go_enter Tryz.func136, Tryz.ntmps136
 go_wp2_with (at_builtin; refine wpList_append_own _ rfl _ _ 46 rfl w.heap.size 126 i0 _ 17 136 Tryz.underlying46 hi hz0 hz1 hz2 (by simp [Value.cells, bagA_size]) (by decide) _ _ _ rfl (World.ownsRow_made w #[] 0 (Nat.le_refl _) (Nat.zero_le _) (by simp)) a 0 c [] rfl rfl (fun j u hj => by simp at hj) (fun u hu => by simp at hu) (by simp) (by simp) (by simp) ?_)
 intro v' w1 hown hgrow hnil
 have hb : Below w.heap.size w w1 := ((Below.refl _ w).alloc (Nat.le_refl _) _).grown hgrow (by simp) (by intro k hk; simp [Value.ownBlock] at hk; omega)
 go_wp2_with fail
 go_ret
 exact ⟨v', rfl, by simpa [OwnR, encC] using hown, hb⟩
theorem cloneT_all (T : List Bg) (v : Value) (w : World) (hv : Rd bagA 17 w.heap.size w v T) (hlen : T.length ≤ 65536) :
   Calls Tryz.prog 136 #[v] w fun e w' => ∃ v', e = .returned v' ∧ OwnT w.heap.size w' v' T ∧ Below w.heap.size w w' := by
 by_cases h : T = []
 · subst h
   obtain ⟨a, c, rfl⟩ := hv.sl
   cases a with
   | none => exact cloneT_own [] _ w hv (fun _ => .inl ⟨_, _, rfl⟩) hlen
   | some a => exact cloneT_own0 a c w
 · exact cloneT_own T v w hv (fun e => absurd e h) hlen
theorem tClone_all (T : List Bg) (v : Value) (w : World) (hv : Rd bagA 17 w.heap.size w v T) (hlen : T.length ≤ 65536) :
   Calls Tryz.prog 65 #[v] w fun e w' => ∃ v', e = .returned v' ∧ OwnT w.heap.size w' v' T ∧ Below w.heap.size w w' := by
 have HC := Lib.hid (cloneT_all T v w hv hlen)
 clear hv
 go_enter Tryz.func65, Tryz.ntmps65
 go_wp2_with (go_at_call 136; refine HC.out.mono ?_; rintro e w' ⟨v', rfl, hO, hb⟩)
 obtain ⟨q, cq, rfl⟩ := hO.sl
 go_wp2_with fail
 go_ret
 exact ⟨_, rfl, hO, hb⟩
@[go_sem ↓ high] theorem storeBG (a : Addr) (v : Value) : storeVar 126 a v = storeLater 126 a v := rfl
@[go_sem] theorem storeBG_run (w : World) (a : Addr) (v : Value) : (storeLater 126 a v).run Tryz.prog w = rowStore Tryz.prog 126 a v w := rfl
end Go.Proofs.YtmmhngjndnonhaaGreatDoor
