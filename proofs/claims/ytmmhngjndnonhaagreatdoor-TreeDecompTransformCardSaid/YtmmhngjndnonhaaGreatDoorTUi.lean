/- Walks: Reduce, Reroot, Restrict, EliminationOrder of a tree that Check or CheckGraph .. -/
import Derived.Test.YtmmhngjndnonhaaGreatDoorTLm
import Derived.Test.YtmmhngjndnonhaaGreatDoorTKW
import Derived.Test.YtmmhngjndnonhaaGreatDoorTLq
import Derived.Test.YtmmhngjndnonhaaGreatDoorTUe
import Derived.Test.YtmmhngjndnonhaaGreatDoorTJx
set_option linter.all false
namespace Go.Proofs.YtmmhngjndnonhaaGreatDoor
open Go Go.RowKit Go.Pal
attribute [local go_sem] Oper.semAt_some
theorem reduce_bad (n : Int) (hn : n ≠ 0) (v : Value) (w : World) (hv : ∃ a m c, v = .slice a m c) (hck : Calls Tryz.prog 64 #[v] w fun e w' => e = .returned (.int .i64 n) ∧ Below w.heap.size w w') :
   Calls Tryz.prog 22 #[v] w fun e w' => e = .returned (.tuple #[.slice none 0 0, .int .i64 n]) ∧ Below w.heap.size w w' := by
 have HC := Lib.hid hck
 obtain ⟨a, m, c, rfl⟩ := hv
 have h2 : (n != 0) = true := by simpa using hn
 have h3 : (n == 0) = false := by simpa using hn
 clear hck
 go_enter Tryz.func22, Tryz.ntmps22
 go_wp2_with fail
 refine HC.out.mono ?_
 rintro e w1 ⟨rfl, hb1⟩
 have HB1 := Lib.hid hb1
 clear hb1
 go_wp2_with fail
 go_ret2
 exact ⟨rfl, HB1.out⟩
theorem restrict_bad (n : Int) (hn : n ≠ 0) (v : Value) (I : Nat) (w : World) (hv : ∃ a m c, v = .slice a m c) (hck : ∀ W, Below w.heap.size w W → Calls Tryz.prog 64 #[v] W fun e w' => e = .returned (.int .i64 n) ∧ Below W.heap.size W w') :
   Calls Tryz.prog 24 #[v, .agg (words I)] w fun e w' => e = .returned (.tuple #[.slice none 0 0, .int .i64 n]) ∧ Below w.heap.size w w' := by
 have HC := Lib.hid hck
 obtain ⟨a, m, c, rfl⟩ := hv
 have h2 : (n != 0) = true := by simpa using hn
 have h3 : (n == 0) = false := by simpa using hn
 clear hck
 go_enter Tryz.func24, Tryz.ntmps24
 go_wp2_with fail
 generalize hW0 : World.alloc w _ = W0
 have hB0 : Below w.heap.size w W0 := by rw [← hW0]; exact (Below.refl _ w).alloc (Nat.le_refl _) _
 refine (HC.out W0 hB0).mono ?_
 rintro e w1 ⟨rfl, hb1⟩
 have HB1 := Lib.hid (hB0.trans (hb1.mono hB0.size))
 clear hb1 hB0 hW0
 go_wp2_with fail
 go_ret2
 exact ⟨rfl, HB1.out⟩
theorem reroot_bad (n : Int) (hn : n ≠ 0) (v : Value) (k : Int) (w : World) (hv : ∃ a m c, v = .slice a m c) (hck : Calls Tryz.prog 64 #[v] w fun e w' => e = .returned (.int .i64 n) ∧ Below w.heap.size w w') :
   Calls Tryz.prog 23 #[v, .int .i64 k] w fun e w' => e = .returned (.tuple #[.slice none 0 0, .int .i64 n]) ∧ Below w.heap.size w w' := by
 have HC := Lib.hid hck
 obtain ⟨a, m, c, rfl⟩ := hv
 have h2 : (n != 0) = true := by simpa using hn
 have h3 : (n == 0) = false := by simpa using hn
 clear hck
 go_enter Tryz.func23, Tryz.ntmps23
 go_wp2_with fail
 refine HC.out.mono ?_
 rintro e w1 ⟨rfl, hb1⟩
 have HB1 := Lib.hid hb1
 clear hb1
 go_wp2_with fail
 go_ret2
 exact ⟨rfl, HB1.out⟩
theorem reroot_out (T : List Bg) (v : Value) (k : Int) (w : World) (hv : ∃ a c, v = .slice a T.length c) (hl : T.length ≤ 65536) (hk : k < 0 ∨ (T.length : Int) ≤ k) (hck : Calls Tryz.prog 64 #[v] w fun e w' => e = .returned (.int .i64 0) ∧ Below w.heap.size w w') :
   Calls Tryz.prog 23 #[v, .int .i64 k] w fun e w' => e = .returned (.tuple #[.slice none 0 0, .int .i64 2]) ∧ Below w.heap.size w w' := by
 have HC := Lib.hid hck
 obtain ⟨a, c, rfl⟩ := hv
 clear hck
 rcases (show k < 0 ∨ 0 ≤ k by omega) with h | h
 · have h1 : decide (k < 0) = true := decide_eq_true h
   go_enter Tryz.func23, Tryz.ntmps23
   go_wp2_with fail
   refine HC.out.mono ?_
   rintro e w1 ⟨rfl, hb1⟩
   have HB1 := Lib.hid hb1
   clear hb1 hk
   go_wp2_with fail
   go_ret2
   exact ⟨rfl, HB1.out⟩
 · have h1 : decide (k < 0) = false := decide_eq_false (by omega)
   have h2 : (T.length : Int) ≤ k := by omega
   have h3 : decide ((T.length : Int) ≤ k) = true := decide_eq_true h2
   have h4 : ¬ k < 0 := by omega
   go_enter Tryz.func23, Tryz.ntmps23
   go_wp2_with fail
   refine HC.out.mono ?_
   rintro e w1 ⟨rfl, hb1⟩
   have HB1 := Lib.hid hb1
   clear hb1 hk
   go_wp2_with fail
   go_ret2
   exact ⟨rfl, HB1.out⟩
theorem elim_bad (n : Int) (hn : n ≠ 0) (v gv : Value) (w : World) (hv : (∃ a m c, v = .slice a m c) ∧ ∃ p, gv = .pointer p) (hck : Calls Tryz.prog 60 #[v, gv] w fun e w' => e = .returned (.int .i64 n) ∧ Below w.heap.size w w') :
   Calls Tryz.prog 25 #[v, gv] w fun e w' => e = .returned (.tuple #[.slice none 0 0, .int .i64 n]) ∧ Below w.heap.size w w' := by
 have HC := Lib.hid hck
 obtain ⟨⟨a, m, c, rfl⟩, p, rfl⟩ := hv
 have h2 : (n != 0) = true := by simpa using hn
 have h3 : (n == 0) = false := by simpa using hn
 clear hck
 refine calls_of_wp_marks Tryz.func25 rfl ?_
 simp only [Tryz.ntmps25, List.size_toArray, List.length_cons, List.length_nil, Nat.reduceAdd, Nat.reduceSub, Array.replicate_succ, Array.replicate_zero, List.push_toArray, List.append_toArray, List.nil_append, List.cons_append]
 go_wp2_with fail
 refine HC.out.mono ?_
 rintro e w1 ⟨rfl, hb1⟩
 have HB1 := Lib.hid hb1
 clear hb1
 go_wp2_with fail
 refine leaves_marks (B := 0) [] w1 trivial fun w' hs' => ?_
 refine ⟨.tuple #[.slice none 0 0, .int .i64 n], by simp [results, Tryz.results25, go_sem], rfl, ?_⟩
 exact HB1.out.trans (hs'.below HB1.out.size fun j hj hd => by simp at hd)
end Go.Proofs.YtmmhngjndnonhaaGreatDoor
namespace Go.Pal
open Go
theorem ids_asc {G : Gr} (hG : G.Ok) : G.ids'.Pairwise (· < ·) := by
 unfold Gr.ids'
 rw [List.pairwise_map]
 exact hG.sV.imp fun h => by simpa [ltV] using h
theorem top_of_id {G : Gr} {T : List Bg} {r : Nat} (hG : G.Ok) (h : TOk T r) (hf : G.fitT T = 0) {z : Int} (hz : z ∈ G.ids') : ∃ v i : Nat, z = (v : Int) ∧ i < T.length ∧ (topS T i).testBit v = true := by
 obtain ⟨h0, -⟩ := hG.ids_range z hz
 obtain ⟨v, rfl⟩ : ∃ v : Nat, z = (v : Int) := ⟨z.toNat, by omega⟩
 obtain ⟨x, hx, hb⟩ := (fitT_cov hG hf).1 v hz
 obtain ⟨b, hbl, rfl⟩ := List.mem_iff_getElem.1 hx
 have hbn : bagN T b = T[b].2 := bagN_of (List.getElem?_eq_getElem hbl)
 obtain ⟨i, hi, ht⟩ := top_ex h hbl (by rw [hbn]; exact hb)
 exact ⟨v, i, rfl, hi, ht⟩
theorem tops_of_id {G : Gr} {T : List Bg} {r : Nat} (hG : G.Ok) (h : TOk T r) (hf : G.fitT T = 0) : ∀ z ∈ G.ids', topsL T z.toNat ≠ [] := fun z hz => by
 obtain ⟨v, i, rfl, hi, ht⟩ := top_of_id hG h hf hz
 rw [Int.toNat_natCast, topsL_one h hi ht]
 simp
theorem order_eq {G : Gr} {T : List Bg} {r : Nat} (hG : G.Ok) (h : TOk T r) (hS : ∀ x ∈ T, IsSet x.2) (hf : G.fitT T = 0) {l : List Int} (hp : l.Perm (elemsI G.vset)) (hpw : l.Pairwise (ltK fun x => -((look (dpTo T T.length) x).getD 0))) :
   ordTo T G.ids' T.length (T.length + 1) = l := by
 obtain ⟨h1, h2⟩ := ordTo_sorted (T := T) (n := T.length) (ids_asc hG) (fun x => -((look (dpTo T T.length) x).getD 0)) (fun z hz => by
   obtain ⟨v, i, rfl, hi, ht⟩ := top_of_id hG h hf hz
   simp only [dp_look h hS hi ht, Option.getD_some, dTop_of h hi ht]) (T.length + 1) (Nat.le_refl _)
 refine srt_same h1 hpw fun z => ?_
 rw [h2, (vset_perm hG hp).mem_iff]
 constructor
 · exact fun hz => hz.1
 · intro hz
   refine ⟨hz, ?_⟩
   obtain ⟨v, i, rfl, hi, ht⟩ := top_of_id hG h hf hz
   obtain ⟨m, hs⟩ := h.all i hi
   have hd := h.rooted.deepAt hs hi
   have hm := h.rooted.few hs hi
   rw [dTop_of h hi ht]
   exact ⟨T.length - deepAt T i, by omega, by omega⟩
end Go.Pal
namespace Go.Proofs.YtmmhngjndnonhaaGreatDoor
open Go Go.RowKit Go.Pal
attribute [local go_sem] Oper.semAt_some
theorem reroot_all (T : List Bg) (r : Nat) (hT : TOk T r) (hS : ∀ x ∈ T, IsSet x.2) (v : Value) (k : Int) (w : World) (hv : Rd bagA 17 w.heap.size w v T) (hlen : T.length ≤ 1024) (hck : Calls Tryz.prog 64 #[v] w fun e w' => e = .returned (.int .i64 0) ∧ Below w.heap.size w w') :
   Calls Tryz.prog 23 #[v, .int .i64 k] w fun e w' => ∃ v' U n, e = .returned (.tuple #[v', .int .i64 n]) ∧ Rd bagA 17 w'.heap.size w' v' U ∧ (∀ x ∈ U, IsSet x.2) ∧ ((0 ≤ k ∧ k < (T.length : Int) ∧ n = 0 ∧ U = turnT T k.toNat ∧ U.length = T.length) ∨ ((k < 0 ∨ (T.length : Int) ≤ k) ∧ n = 2 ∧ U = [])) ∧ Below w.heap.size w w' := by
 by_cases hk : 0 ≤ k ∧ k < (T.length : Int)
 · obtain ⟨j, rfl⟩ : ∃ j : Nat, k = (j : Int) := ⟨k.toNat, by omega⟩
   refine (reroot_any T r hT hS v j (by omega) w hv hlen).mono ?_
   rintro e w' ⟨v', U, rfl, hO, hU, hTU, hb⟩
   refine ⟨v', U, 0, rfl, hO.rd elB, sets_same hTU.bags hS, .inl ⟨hk.1, hk.2, rfl, ?_, hTU.len⟩, hb⟩
   rw [Int.toNat_natCast, turnT_eq hU hTU]
 · have hk2 : k < 0 ∨ (T.length : Int) ≤ k := by omega
   refine (reroot_out T v k w hv.sl (by omega) hk2 hck).mono ?_
   rintro e w' ⟨rfl, hb⟩
   exact ⟨_, [], 2, rfl, ⟨none, 0, rfl, .inl rfl⟩, fun x hx => by simp at hx, .inr ⟨hk2, rfl, rfl⟩, hb⟩
theorem elim_all (T : List Bg) (r : Nat) (hTok : TOk T r) (hS : ∀ x ∈ T, IsSet x.2) (hle : T.length ≤ 900) (g bV bE : Nat) (G : Gr) (hG : G.Ok) (v : Value) (w : World) (hv : Rd bagA 17 w.heap.size w v T) (h : GOk w g bV bE G) (hT : Tab2 w)
   (hcg : Calls Tryz.prog 60 #[v, .pointer (some ⟨g, 0, none⟩)] w fun e w' => e = .returned (.int .i64 (G.fitT T : Int)) ∧ Below w.heap.size w w') :
   Calls Tryz.prog 25 #[v, .pointer (some ⟨g, 0, none⟩)] w fun e w' => ∃ vs l, e = .returned (.tuple #[vs, .int .i64 (G.fitT T : Int)]) ∧ RdL w' vs l ∧ ((G.fitT T = 0 ∧ l = ordTo T G.ids' T.length (T.length + 1)) ∨ (G.fitT T ≠ 0 ∧ l = [])) ∧ Below w.heap.size w w' := by
 by_cases hf : G.fitT T = 0
 · refine (elim_any T r hTok hS hle g bV bE G hG hf v w hv h hT).mono ?_
   rintro e w' ⟨vs, l, rfl, hl, hp, hpw, hb⟩
   exact ⟨vs, l, by rw [hf]; rfl, hl, .inl ⟨hf, (order_eq hG hTok hS hf hp hpw).symm⟩, hb⟩
 · obtain ⟨a, c, hvv⟩ := hv.sl
   refine (elim_bad (G.fitT T : Int) (by omega) v _ w ⟨⟨_, _, _, hvv⟩, _, rfl⟩ hcg).mono ?_
   rintro e w' ⟨rfl, hb⟩
   exact ⟨_, [], rfl, RdL.nil _, .inr ⟨hf, rfl⟩, hb⟩
end Go.Proofs.YtmmhngjndnonhaaGreatDoor
