/- Walks of package treedecomp: slices.Delete of one bag of a tree. DERIVED: THE SHELF's .. -/
import Derived.Test.YteiibpfabgfolaaGreatDoorVTrG
import Derived.Deep.RegionLaw
import Derived.Lib.LazyBuf
import Derived.Shelf.Bits.Mul64
import Derived.Ground.Names2Prog
import Derived.Ground.SlgnProg
import Derived.Ground.SlgfProg
import Derived.Shelf.SlicesE.Clone
import Derived.Shelf.SlicesE.DeleteFunc
import Derived.Test.YteiibpfabgfolaaGreatDoorProg
import Derived.Test.YteiibpfabgfolaaGreatDoorVTre4
set_option linter.all false
namespace Go.Pal
open Go Go.RowKit
section
variable {α : Type} {P : Program} {e : TypeId} {k : Nat} {enc : α → Array Value} {B g n cap : Nat} {w : World} {l : List α}
theorem row_own (h : OwnR e k enc B w (.slice (some ⟨g, 0, none⟩) n cap) l) : ∃ f, w.rowIs g e (cap * k) f ∧ (∀ j u, (encC enc l)[j]? = some u → f j = u) ∧ l.length ≤ cap ∧ cap ≤ maxLen ∧ B ≤ g ∧ n = l.length := by
 obtain ⟨h1, h2⟩ := h
 rcases h2 with ⟨h2, _⟩ | ⟨g', cap', cur, h2, hB, hg, hn, hm, hsz, ht⟩
 · cases h2
 · simp only [Value.slice.injEq, Option.some.injEq, Addr.mk.injEq, and_true] at h2
   obtain ⟨rfl, rfl, rfl⟩ := h2
   refine ⟨fun j => cur[j]?.getD undef, ⟨cur, hg, hsz, fun i hi => by
     show cur[i]? = some (cur[i]?.getD undef)
     rw [Array.getElem?_eq_getElem (by omega)]
     rfl⟩, fun j u hu => ?_, hn, hm, hB, rfl⟩
   rw [← ht, List.getElem?_take] at hu
   split at hu
   · rw [Array.getElem?_toList] at hu
     simp [hu]
   · cases hu
theorem own_row (E : ElT P e k enc) {f : Nat → Value} (hr : w.rowIs g e (cap * k) f) (h : ∀ j u, (encC enc l)[j]? = some u → f j = u) (hl : l.length ≤ cap) (hm : cap ≤ maxLen) (hB : B ≤ g) : OwnR e k enc B w (.slice (some ⟨g, 0, none⟩) l.length cap) l := by
 obtain ⟨cur, hg, hsz, hc⟩ := hr
 refine ⟨encC_length E l, .inr ⟨g, cap, cur, rfl, hB, hg, hl, hm, hsz, ?_⟩⟩
 have hle : l.length * k ≤ cap * k := Nat.mul_le_mul_right k hl
 apply List.ext_getElem?
 intro j
 rw [List.getElem?_take, Array.getElem?_toList]
 split
 · rename_i hj
   obtain ⟨u, hu⟩ : ∃ u, (encC enc l)[j]? = some u := ⟨_, List.getElem?_eq_getElem (by rw [encC_length E]; exact hj)⟩
   rw [hu, hc j (by omega), h j u hu]
 · rw [List.getElem?_eq_none (by rw [encC_length E]; omega)]
theorem encC_drop (E : ElT P e k enc) (i : Nat) : (encC enc l).drop (i * k) = encC enc (l.drop i) := by
 induction l generalizing i with
 | nil => simp [encC]
 | cons x r ih =>
   cases i with
   | zero => simp
   | succ i =>
     rw [show encC enc (x :: r) = (enc x).toList ++ encC enc r from rfl, List.drop_append, List.drop_eq_nil_of_le (by rw [Array.length_toList, E.size, Nat.add_mul]; omega), List.nil_append, Array.length_toList, E.size, List.drop_succ_cons, show (i + 1) * k - k = i * k by rw [Nat.add_mul]; omega]
     exact ih i
theorem encC_take (E : ElT P e k enc) (i : Nat) : (encC enc l).take (i * k) = encC enc (l.take i) := by
 induction l generalizing i with
 | nil => simp [encC]
 | cons x r ih =>
   cases i with
   | zero => simp [encC]
   | succ i =>
     rw [show encC enc (x :: r) = (enc x).toList ++ encC enc r from rfl, List.take_append, List.take_of_length_le (by rw [Array.length_toList, E.size, Nat.add_mul]; omega), Array.length_toList, E.size, List.take_succ_cons, show (i + 1) * k - k = i * k by rw [Nat.add_mul]; omega, show encC enc (x :: r.take i) = (enc x).toList ++ encC enc (r.take i) from rfl]
     exact congrArg _ (ih i)
theorem run_clearR (E : ElT P e k enc) (st ty : TypeId) (hst : P.underlying st = some (.slice e)) (hz : ∀ w, (zeroValue e).run P w = .ok E.zero w) (z : α) (hzc : E.zero.cells = enc z) (g o n c : Nat) (hn : 0 < n)
   (hc : ∀ j, j < n * k → (w.cell? ⟨g, o + j, none⟩).isSome = true) (hf : ∀ j, j < n * k → w.frozen? ⟨g, o + j, none⟩ = false) :
   ∃ vs : List Value, vs.length = n * k ∧ (Builtin.clear_ #[st] ty #[.slice (some ⟨g, o, none⟩) n c]).run P w = .ok (.tuple #[]) (w.setCells g o vs) := by
 have hzs : E.zero.cells.size = k := by rw [hzc, E.size]
 have hlen : (Builtin.zeroCells E.zero.cells n).toList.length = n * k := by rw [Array.length_toList, size_zeroCells, hzs]
 refine ⟨_, hlen, ?_⟩
 have hone : ∀ v ∈ (Builtin.zeroCells E.zero.cells n).toList, v.oneCell' = true := by
   intro v hv
   rw [hzc] at hv
   unfold Builtin.zeroCells at hv
   rw [Array.mem_toList_iff, Array.mem_map] at hv
   obtain ⟨i, hi, rfl⟩ := hv
   have hs : (enc z).size = k := E.size z
   have hpos := E.pos
   have hlt : i % (enc z).size < (enc z).size := Nat.mod_lt _ (by omega)
   rw [getElem!_pos (enc z) _ hlt]
   exact E.one z _ (by simp)
 have hst' := run_storeCells_cells (P := P) g o (Builtin.zeroCells E.zero.cells n).toList 0 w (by rw [hlen]; simpa using hc) (by rw [hlen]; simpa using hf) hone
 simp only [Nat.add_zero] at hst'
 obtain ⟨m, rfl⟩ : ∃ m, n = m + 1 := ⟨n - 1, by omega⟩
 simp [Builtin.clear_, run_underlying hst, hz, hst']
end
theorem Same.setCells {A : Nat → Prop} {g : Nat} (h : ¬ A g) : ∀ (vs : List Value) (o : Nat) (w : World), Same A w (w.setCells g o vs)
 | [], _, _ => Same.refl _ _
 | v :: r, o, w => (Same.setCell A w ⟨g, o, none⟩ v h).trans (Same.setCells h r (o + 1) _)
end Go.Pal
namespace Go.Proofs.YteiibpfabgfolaaGreatDoor
open Go Go.RowKit Go.Pal
attribute [local go_sem] Oper.semAt_some
theorem zeroB0 (w : World) : (zeroValue 53).run Tryz.prog w = .ok elB.zero w := zeroBag w
set_option maxRecDepth 10000 in
set_option maxHeartbeats 4000000 in
theorem deleteT_any (T : List Bg) (B i : Nat) (hi : i < T.length) (hlen : T.length ≤ 65536) (v : Value) (w : World) (hO : OwnT B w v T) :
   Calls Tryz.prog 44 #[v, .int .i64 (i : Int), .int .i64 ((i : Int) + 1)] w fun e w' => ∃ v', e = .returned v' ∧ OwnT B w' v' (T.eraseIdx i) ∧ v'.ownBlock = v.ownBlock ∧ Same (fun j => v.ownBlock ≠ some j) w w' := by
 obtain ⟨g, cap, rfl⟩ : ∃ g cap, v = .slice (some ⟨g, 0, none⟩) T.length cap := by
   rcases hO.2 with ⟨_, h⟩ | ⟨g, cap, cur, h, _⟩
   · omega
   · exact ⟨g, cap, h⟩
 obtain ⟨f, hrow, hf, hcap, hm, hB, -⟩ := row_own hO
 obtain ⟨i0, hi0, hz0, hz1, hz2⟩ := info_parts qinfoBag
 have hm' : cap ≤ 9223372036854775807 := by simp only [maxLen] at hm; omega
 obtain ⟨news, hnews⟩ : ∃ news, news = encC bagA (T.drop (i + 1)) := ⟨_, rfl⟩
 have hnl : news.length = (T.length - (i + 1)) * 17 := by rw [hnews, encC_length elB, List.length_drop]
 have hnget : ∀ t u, news[t]? = some u → f ((i + 1) * 17 + t) = u := fun t u hu => by
   rw [hnews, ← encC_drop elB, List.getElem?_drop] at hu
   exact hf _ _ hu
 have hrD : w.drew.rowIs g 53 (cap * 17) f := hrow
 obtain ⟨A, hA, hsrc⟩ : ∃ A : Addr, (if cap = i + 1 then (some ⟨g, 0, none⟩ : Option Addr) else some ⟨g, (i + 1) * 17, none⟩) = some A ∧ Hid (∀ t u, news[t]? = some u → w.drew.cell? (A.add t) = some u) := by
   by_cases h : cap = i + 1
   · refine ⟨⟨g, 0, none⟩, by simp [h], Lib.hid fun t u hu => ?_⟩
     have h0 : news.length = 0 := by rw [hnl]; omega
     rw [List.length_eq_zero_iff.1 h0] at hu
     simp at hu
   · refine ⟨⟨g, (i + 1) * 17, none⟩, by simp [h], Lib.hid fun t u hu => ?_⟩
     have ht := (List.getElem?_eq_some_iff.1 hu).1
     have e : (⟨g, (i + 1) * 17, none⟩ : Addr).add t = ⟨g, (i + 1) * 17 + t, none⟩ := by unfold Addr.add; split <;> simp_all
     rw [e, hrD.cell (by omega), hnget t u hu]
 have s1 := Lib.hid hnl
 have s2 : Hid (∀ u ∈ news, u.oneCell' = true) := Lib.hid fun u hu => by
   rw [hnews] at hu
   obtain ⟨x, -, hx⟩ := List.mem_flatMap.1 hu
   exact bagA_one x u hx
 have s3 : Hid (∀ t, t < news.length → (w.drew.cell? ⟨g, 0 + i * 17 + t, none⟩).isSome = true ∧ w.drew.frozen? ⟨g, 0 + i * 17 + t, none⟩ = false) := Lib.hid fun t ht => by
   rw [hrD.cell (by omega)]
   exact ⟨rfl, hrD.frozen _⟩
 obtain ⟨W1, hW1⟩ : ∃ W1, W1 = w.drew.setCells g (0 + i * 17) news := ⟨_, rfl⟩
 have hr1 : W1.rowIs g 53 (cap * 17) (fun j => if 0 + i * 17 ≤ j ∧ j < 0 + i * 17 + news.length then news[j - (0 + i * 17)]?.getD default else f j) := by
   rw [hW1]
   exact rowIs_setCells news (0 + i * 17) w.drew f hrD
 obtain ⟨vs, hvs, hcl⟩ : ∃ vs : List Value, vs.length = 1 * 17 ∧ ∀ ty, (Builtin.clear_ #[23] ty #[.slice (some ⟨g, (T.length - 1) * 17, none⟩) 1 (cap - (T.length - 1))]).run Tryz.prog W1 = .ok (.tuple #[]) (W1.setCells g ((T.length - 1) * 17) vs) := by
   have h := fun ty => run_clearR (w := W1) elB 23 ty Tryz.underlying23 zeroB0 (0, 0) rfl g ((T.length - 1) * 17) 1 (cap - (T.length - 1)) (by omega) (fun j hj => by rw [hr1.cell (by omega)]; rfl) (fun j hj => hr1.frozen _)
   obtain ⟨vs, h1, h2⟩ := h 0
   refine ⟨vs, h1, fun ty => ?_⟩
   rw [← h2]
   rfl
 have hr2 := rowIs_setCells vs ((T.length - 1) * 17) W1 _ hr1
 have hOwn : OwnT B (W1.setCells g ((T.length - 1) * 17) vs) (.slice (some ⟨g, 0, none⟩) (T.eraseIdx i).length cap) (T.eraseIdx i) := by
   refine own_row elB hr2 (fun j u hu => ?_) (by rw [List.length_eraseIdx]; split <;> omega) hm hB
   have hju := (List.getElem?_eq_some_iff.1 hu).1
   rw [encC_length elB, List.length_eraseIdx, if_pos hi] at hju
   rw [List.eraseIdx_eq_take_drop_succ, encC_append, ← encC_take elB] at hu
   show (if _ then _ else _) = u
   rw [if_neg (by omega)]
   by_cases hj : j < i * 17
   · rw [if_neg (by omega)]
     rw [List.getElem?_append_left (by rw [List.length_take, encC_length elB]; omega), List.getElem?_take, if_pos hj] at hu
     exact hf j u hu
   · rw [List.getElem?_append_right (by rw [List.length_take, encC_length elB]; omega), List.length_take, encC_length elB, Nat.min_eq_left (by omega), ← hnews] at hu
     have := (List.getElem?_eq_some_iff.1 hu).1
     rw [if_pos (by omega), Nat.zero_add, hu]
     rfl
 have hW : Hid (W1 = w.drew.setCells g (0 + i * 17) news) := Lib.hid hW1
 have hS2 : Hid (Same (fun j => (Value.slice (some ⟨g, 0, none⟩) T.length cap).ownBlock ≠ some j) w (W1.setCells g ((T.length - 1) * 17) vs)) := Lib.hid (by rw [hW1]; exact ((Same.drew _ w).trans (Same.setCells (by simp [Value.ownBlock]) _ _ _)).trans (Same.setCells (by simp [Value.ownBlock]) _ _ _))
 have HOwn := Lib.hid hOwn
 have hel : (T.eraseIdx i).length = T.length - 1 := by rw [List.length_eraseIdx, if_pos hi]
 have HEL := Lib.hid hel
 have hic : i ≤ cap := by omega
 have hjc : i + 1 ≤ cap := by omega
 have hp0 : (0 : Int) ≤ (i : Int) + 1 := by omega
 have hp1 : (i : Int) + 1 ≤ (T.length : Int) := by omega
 clear hW1 hr1 hr2 hOwn hrD hrow hO hnews hnget hf hel hnl
 rw [show (i : Int) + 1 = ((i + 1 : Nat) : Int) by omega]
 go_enter Tryz.func44, Tryz.ntmps44
 go_wp2_with fail
 go_region_law (refine step_append_room rfl (.tmp 22) (.tmp 25) 23 rfl 53 i0 17 Tryz.underlying23 hi0 hz1 g 0 i cap (by simp [Act.eval, Act.put]) A (T.length - (i + 1)) (cap - (i + 1)) news (by simp [Act.eval, Act.put, hA]) s1.out hsrc.out s2.out (by omega) s3.out ?_; rw [← hW.out])
 have e2 : i + (T.length - (i + 1)) = T.length - 1 := by omega
 have e3 : T.length - (T.length - 1) = 1 := by omega
 have hne : ¬ cap = T.length - 1 := by omega
 have hlc : T.length ≤ cap := hcap
 have hlp : (0 : Int) ≤ (T.length : Int) - 1 := by omega
 have hcast : ((T.length - 1 : Nat) : Int) = (T.length : Int) - 1 := by omega
 simp only [e2]
 go_wp2_with fail
 go_ret
 exact ⟨_, rfl, by have := HOwn.out; rwa [HEL.out] at this, rfl, hS2.out⟩
end Go.Proofs.YteiibpfabgfolaaGreatDoor
namespace Go.Proofs
open Go.Shelf
def Tryz.laysCloneT_ren : Go.Shelf.Ren := ⟨fun | 41 => 96 | n => n, fun | 22 => 23 | 23 => 53 | 4 => 4 | n => n, fun | n => n⟩
theorem Tryz.laysCloneT : Go.Proofs.SlLaysE0.n41 Tryz.prog Tryz.laysCloneT_ren := {
 mixed := by kernel_rfl
 f41 := ⟨Tryz.f96.name, by decide, Tryz.func96.trans (congrArg some (by kernel_rfl))⟩
 t4 := Tryz.underlying4
 a4 := Tryz.isAgg4
 z4 := Tryz.sizeOf4
 v4 := Tryz.zeroValue4
 t22 := Tryz.underlying23
 a22 := Tryz.isAgg23
 z22 := Tryz.sizeOf23
 v22 := Tryz.zeroValue23 }
end Go.Proofs
namespace Go.Proofs.YteiibpfabgfolaaGreatDoor
open Go Go.RowKit Go.Pal Go.Shelf
end Go.Proofs.YteiibpfabgfolaaGreatDoor
namespace Go.Pal
open Go Go.RowKit
section
variable {α : Type} {P : Program} {e : TypeId} {k : Nat} {enc : α → Array Value} {B g n cap : Nat} {w : World} {l : List α}
theorem encC_at (E : ElT P e k enc) : ∀ {l : List α} {m : Nat} {u : Value}, (encC enc l)[m]? = some u → ∃ a b x, l[a]? = some x ∧ (enc x)[b]? = some u ∧ m = a * k + b
 | [], m, u, h => by simp [encC] at h
 | y :: r, m, u, h => by
   rw [show encC enc (y :: r) = (enc y).toList ++ encC enc r from rfl] at h
   have hy : (enc y).toList.length = k := by rw [Array.length_toList, E.size]
   by_cases hm : m < k
   · rw [List.getElem?_append_left (by omega)] at h
     exact ⟨0, m, y, rfl, by simpa using h, by omega⟩
   · rw [List.getElem?_append_right (by omega), hy] at h
     obtain ⟨a, b, x, h1, h2, h3⟩ := encC_at E h
     exact ⟨a + 1, b, x, by simpa using h1, h2, by rw [Nat.add_mul]; omega⟩
theorem own_patch (E : ElT P e k enc) (hO : OwnR e k enc B w (.slice (some ⟨g, 0, none⟩) n cap) l) {i : Nat} {x y : α} (hx : l[i]? = some x) (o : Nat) (vs : List Value) (hfit : o + vs.length ≤ k)
   (hy : ∀ j u, (enc y)[j]? = some u → if o ≤ j ∧ j < o + vs.length then vs[j - o]? = some u else (enc x)[j]? = some u) : OwnR e k enc B (w.setCells g (i * k + o) vs) (.slice (some ⟨g, 0, none⟩) n cap) (l.set i y) := by
 obtain ⟨f, hrow, hf, hcap, hm, hB, rfl⟩ := row_own hO
 have hr := rowIs_setCells vs (i * k + o) w f hrow
 have hi := (List.getElem?_eq_some_iff.1 hx).1
 have hl : (l.set i y).length = l.length := by simp
 rw [← hl] at hcap ⊢
 refine own_row E hr (fun j u hu => ?_) hcap hm hB
 obtain ⟨a, b, z, ha, hb, rfl⟩ := encC_at E hu
 have hbk : b < k := by have := (Array.getElem?_eq_some_iff.1 hb).1; rwa [E.size] at this
 show (if _ then _ else _) = u
 by_cases hai : a = i
 · subst hai
   rw [List.getElem?_set_self hi] at ha
   cases ha
   have := hy b u hb
   by_cases hin : o ≤ b ∧ b < o + vs.length
   · rw [if_pos hin] at this
     rw [if_pos (by omega), show a * k + b - (a * k + o) = b - o by omega, this]
     rfl
   · rw [if_neg hin] at this
     rw [if_neg (by omega)]
     exact hf _ _ (encC_get E hx this)
 · rw [List.getElem?_set_ne (fun h => hai h.symm)] at ha
   have hne : ¬ (i * k + o ≤ a * k + b ∧ a * k + b < i * k + o + vs.length) := by
     rcases Nat.lt_or_ge a i with h | h
     · have := Nat.mul_le_mul_right k (show a + 1 ≤ i from h)
       rw [Nat.add_mul] at this
       omega
     · have := Nat.mul_le_mul_right k (show i + 1 ≤ a by omega)
       rw [Nat.add_mul] at this
       omega
   rw [if_neg hne]
   exact hf _ _ (encC_get E ha hb)
end
theorem flatB_eq (T : List Bg) : flatB T = encC bagA T := by
 induction T with
 | nil => rfl
 | cons x xs ih => rw [flatB, ih]; rfl
end Go.Pal
namespace Go.Proofs.YteiibpfabgfolaaGreatDoor
open Go Go.RowKit Go.Pal Go.Shelf
theorem own_par {T : List Bg} {B g n cap : Nat} {w : World} (hO : OwnT B w (.slice (some ⟨g, 0, none⟩) n cap) T) {i : Nat} {x : Bg} (hx : T[i]? = some x) (q : Int) : OwnT B (w.setCell ⟨g, i * 17, none⟩ (.int .i64 q)) (.slice (some ⟨g, 0, none⟩) n cap) (T.set i (q, x.2)) := by
 refine own_patch elB hO hx 0 [.int .i64 q] (by simp) fun j u hu => ?_
 cases j with
 | zero => simpa [bagA_zero] using hu
 | succ j =>
   rw [if_neg (by simp)]
   rw [bagA_succ] at hu ⊢
   exact hu
theorem own_set {T : List Bg} {B g n cap : Nat} {w : World} (hO : OwnT B w (.slice (some ⟨g, 0, none⟩) n cap) T) {i : Nat} {x : Bg} (hx : T[i]? = some x) (S : Nat) : OwnT B (w.setCells g (i * 17 + 1) (words S).toList) (.slice (some ⟨g, 0, none⟩) n cap) (T.set i (x.1, S)) := by
 refine own_patch elB hO hx 1 (words S).toList (by rw [Array.length_toList, words_size]; decide) fun j u hu => ?_
 cases j with
 | zero =>
   rw [if_neg (by omega)]
   simpa [bagA_zero] using hu
 | succ j =>
   rw [bagA_succ] at hu
   have hu : (words S)[j]? = some u := hu
   have := (Array.getElem?_eq_some_iff.1 hu).1
   rw [if_pos ⟨by omega, by rw [Array.length_toList]; omega⟩]
   simpa using hu
theorem cloneT_own (T : List Bg) (v : Value) (w : World) (hv : Rd bagA 17 w.heap.size w v T) (h0 : T = [] → (∃ n c, v = .slice none n c) ∨ ∃ b off c, v = .slice (some ⟨b, off, none⟩) 0 c) (hlen : T.length ≤ 65536) :
   Calls Tryz.prog 96 #[v] w fun e w' => ∃ v', e = .returned v' ∧ OwnT w.heap.size w' v' T ∧ Below w.heap.size w w' := by
 by_cases hn : ∃ n c, v = .slice none n c
 · obtain ⟨n, c, rfl⟩ := hn
   have hT : T = [] := by
     obtain ⟨a, c', h1, h2⟩ := hv
     rcases h2 with h2 | ⟨b, off, rfl, _⟩
     · exact h2
     · cases h1
   subst hT
   refine (AnyE.slices_Clone_nil Tryz.laysCloneT n c w).mono ?_
   rintro e w' ⟨rfl, rfl⟩
   exact ⟨_, rfl, OwnR.nil _ _, Below.refl _ _⟩
 · obtain ⟨b, off, c, rfl, hc⟩ : ∃ b off c, v = .slice (some ⟨b, off, none⟩) T.length c ∧ ∀ i x, T[i]? = some x → ∀ j u, (bagA x)[j]? = some u → w.cell? ⟨b, off + i * 17 + j, none⟩ = some u := by
     obtain ⟨a, c, rfl, hr⟩ := hv
     rcases hr with h | ⟨b, off, rfl, hbB, hc⟩
     · subst h
       rcases h0 rfl with ⟨n, c', h⟩ | ⟨b, off, c', h⟩
       · exact absurd ⟨n, c', h⟩ hn
       · exact ⟨b, off, c', h, fun i x hx => by simp at hx⟩
     · exact ⟨b, off, c, rfl, hc⟩
   obtain ⟨i0, hi, hz0, hz1, hz2⟩ := info_parts qinfoBag
   refine (AnyE.slices_Clone Tryz.laysCloneT i0 (.agg (bagA (0, 0))) 17 136 hi hz0 hz1 hz2 (by simp [Value.cells, bagA_size]) (by decide) Tryz.sizeOf53 b off T.length c (flatB T) w (flatB_length T) (by unfold maxLen; omega) (by omega) ?_ ?_).mono ?_
   · intro j u hu
     obtain ⟨i, k, x, hx, hk, rfl⟩ := flatB_at hu
     have := hc i x hx k u hk
     rwa [Nat.add_assoc] at this
   · intro u hu
     obtain ⟨j, hj⟩ := List.mem_iff_getElem?.1 hu
     obtain ⟨i, k, x, hx, hk, -⟩ := flatB_at hj
     exact bagA_one x u (by simpa using Array.mem_of_getElem? hk)
   · rintro e w' ⟨v', rfl, hO, hn, hb⟩
     rw [flatB_eq] at hO
     exact ⟨v', rfl, hO, hb⟩
theorem tClone_own (T : List Bg) (v : Value) (w : World) (hv : Rd bagA 17 w.heap.size w v T) (h0 : T = [] → (∃ n c, v = .slice none n c) ∨ ∃ b off c, v = .slice (some ⟨b, off, none⟩) 0 c) (hlen : T.length ≤ 65536) :
   Calls Tryz.prog 41 #[v] w fun e w' => ∃ v', e = .returned v' ∧ OwnT w.heap.size w' v' T ∧ Below w.heap.size w w' := by
 have HC := Lib.hid (cloneT_own T v w hv h0 hlen)
 clear hv h0
 go_enter Tryz.func41, Tryz.ntmps41
 go_wp2_with (go_at_call 96; refine HC.out.mono ?_; rintro e w' ⟨v', rfl, hO, hb⟩)
 obtain ⟨q, cq, rfl⟩ := hO.sl
 go_wp2_with fail
 go_ret
 exact ⟨_, rfl, hO, hb⟩
end Go.Proofs.YteiibpfabgfolaaGreatDoor
