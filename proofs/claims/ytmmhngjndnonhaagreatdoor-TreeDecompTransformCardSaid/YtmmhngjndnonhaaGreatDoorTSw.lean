/- Walks of package elimination: Width. Plain: an order that eliminates by depths of top .. -/
import Derived.Test.YtmmhngjndnonhaaGreatDoorTGrM
import Derived.Test.YtmmhngjndnonhaaGreatDoorTLp
import Derived.Test.YtmmhngjndnonhaaGreatDoorTSt
set_option linter.all false
namespace Go.Pal
open Go
end Go.Pal
namespace Go.Proofs.YtmmhngjndnonhaaGreatDoor
open Go Go.RowKit Go.Pal
attribute [local go_sem] Oper.semAt_some
end Go.Proofs.YtmmhngjndnonhaaGreatDoor
namespace Go.Pal
open Go
theorem TOk.rooted {T : List Bg} {r : Nat} (h : TOk T r) : Rooted T r := by
 obtain ⟨rk, M, h1⟩ := h.rk
 exact ⟨h1.lt, h1.head, fun c hc hr => by
   obtain ⟨p, h2, h3, -⟩ := h1.par c hc hr
   exact ⟨p, h2, h3⟩⟩
theorem TOk.all {T : List Bg} {r : Nat} (h : TOk T r) : ∀ x, x < T.length → ∃ m, Steps (parU T) m x r := by
 obtain ⟨rk, M, h1⟩ := h.rk
 exact fun x hx => h1.steps_root _ x (Nat.le_refl _) hx
theorem up_top {T : List Bg} {r : Nat} (h : Rooted T r) : ∀ (d b n : Nat), Steps (parU T) d b r → b < T.length → (bagN T b).testBit n = true →
   ∃ i m, i < T.length ∧ Steps (parU T) m b i ∧ (topS T i).testBit n = true ∧ ∀ j m', m' ≤ m → Steps (parU T) m' b j → (bagN T j).testBit n = true := by
 intro d
 induction d with
 | zero =>
   intro b n hs hb hn
   cases hs
   refine ⟨r, 0, hb, .zero, by rw [top_root hb h.head]; exact hn, fun j m' hm hj => ?_⟩
   obtain rfl : m' = 0 := by omega
   cases hj
   exact hn
 | succ d ih =>
   intro b n hs hb hn
   cases hs with
   | @succ _ _ p _ h1 h2 =>
   have hp := h.inn b p hb h1
   cases hpn : (bagN T p).testBit n with
   | true =>
     obtain ⟨i, m, k1, k2, k3, k4⟩ := ih p n h2 hp hpn
     refine ⟨i, m + 1, k1, .succ h1 k2, k3, fun j m' hm hj => ?_⟩
     cases hj with
     | zero => exact hn
     | @succ m'' _ p' _ h3 h4 =>
       obtain rfl : p' = p := by omega
       exact k4 j m'' (by omega) h4
   | false =>
     refine ⟨b, 0, hb, .zero, by rw [top_other hb h1 hp, hn, hpn]; rfl, fun j m' hm hj => ?_⟩
     obtain rfl : m' = 0 := by omega
     cases hj
     exact hn
section
variable {G : Gr} {T : List Bg} {r : Nat} {o : List Nat}
theorem top_ex (h : TOk T r) {b n : Nat} (hb : b < T.length) (hn : (bagN T b).testBit n = true) : ∃ i, i < T.length ∧ (topS T i).testBit n = true := by
 obtain ⟨d, hs⟩ := h.all b hb
 obtain ⟨i, m, k1, -, k3, -⟩ := up_top h.rooted d b n hs hb hn
 exact ⟨i, k1, k3⟩
end
def dpTo (T : List Bg) (k : Nat) : List (Int × Int) := (List.range k).flatMap fun i => (elems (topS T i)).map fun u : Nat => ((u : Int), (deepAt T i : Int))
theorem dpTo_succ (T : List Bg) (k : Nat) : dpTo T (k + 1) = dpTo T k ++ (elems (topS T k)).map fun u : Nat => ((u : Int), (deepAt T k : Int)) := by
 unfold dpTo
 rw [List.range_succ, List.flatMap_append]
 simp
theorem mem_dpTo {T : List Bg} (hS : ∀ x ∈ T, IsSet x.2) {k : Nat} {p : Int × Int} : p ∈ dpTo T k ↔ ∃ i u : Nat, i < k ∧ (topS T i).testBit u = true ∧ p = ((u : Int), (deepAt T i : Int)) := by
 unfold dpTo
 simp only [List.mem_flatMap, List.mem_range, List.mem_map]
 constructor
 · rintro ⟨i, hi, u, hu, rfl⟩
   exact ⟨i, u, hi, (mem_elems (isSet_topS hS i)).1 hu, rfl⟩
 · rintro ⟨i, u, hi, hu, rfl⟩
   exact ⟨i, hi, u, (mem_elems (isSet_topS hS i)).2 hu, rfl⟩
theorem dpTo_len (T : List Bg) (k : Nat) : (dpTo T k).length ≤ k * 1024 := by
 induction k with
 | zero => simp [dpTo]
 | succ k ih =>
   rw [dpTo_succ, List.length_append, List.length_map]
   have := elemsI_length (topS T k)
   unfold elemsI at this
   rw [List.length_map] at this
   omega
theorem dp_fresh {T : List Bg} {r k u : Nat} (h : TOk T r) (hS : ∀ x ∈ T, IsSet x.2) (hk : k < T.length) {pre rest : List Nat} (he : elems (topS T k) = pre ++ u :: rest) :
   ∀ p ∈ dpTo T k ++ pre.map (fun u : Nat => ((u : Int), (deepAt T k : Int))), p.1 ≠ (u : Int) := by
 have hu : (topS T k).testBit u = true := (mem_elems (isSet_topS hS k)).1 (by rw [he]; simp)
 intro p hp e
 rcases List.mem_append.1 hp with h1 | h1
 · obtain ⟨i, v, hi, hv, rfl⟩ := (mem_dpTo hS).1 h1
   have e : (v : Int) = (u : Int) := e
   obtain rfl : v = u := by omega
   have := h.top i k v (by omega) hk hv hu
   omega
 · obtain ⟨v, hv, rfl⟩ := List.mem_map.1 h1
   have e : (v : Int) = (u : Int) := e
   obtain rfl : v = u := by omega
   have hn := elems_nodup (topS T k)
   rw [he, List.nodup_append] at hn
   exact hn.2.2 v hv v (by simp) rfl
theorem dp_nodup {T : List Bg} {r : Nat} (h : TOk T r) (hS : ∀ x ∈ T, IsSet x.2) : NoDup (dpTo T T.length) := by
 have key : ∀ k, k ≤ T.length → NoDup (dpTo T k) := by
   intro k
   induction k with
   | zero => intro _; simp [dpTo, NoDup]
   | succ k ih =>
     intro hk
     rw [dpTo_succ]
     unfold NoDup
     rw [List.pairwise_append]
     refine ⟨ih (by omega), ?_, fun a ha b hb e => ?_⟩
     · rw [List.pairwise_map]
       exact (elems_nodup (topS T k)).imp fun h e => h (by have e : (_ : Int) = _ := e; omega)
     · obtain ⟨i, v, hi, hv, rfl⟩ := (mem_dpTo hS).1 ha
       obtain ⟨u, hu, rfl⟩ := List.mem_map.1 hb
       have e : (v : Int) = (u : Int) := e
       obtain rfl : v = u := by omega
       have := h.top i k v (by omega) (by omega) hv ((mem_elems (isSet_topS hS k)).1 hu)
       omega
 exact key _ (Nat.le_refl _)
theorem dp_look {T : List Bg} {r i u : Nat} (h : TOk T r) (hS : ∀ x ∈ T, IsSet x.2) (hi : i < T.length) (hu : (topS T i).testBit u = true) : look (dpTo T T.length) (u : Int) = some (deepAt T i : Int) :=
 (look_mem (dp_nodup h hS)).2 ((mem_dpTo hS).2 ⟨i, u, hi, hu, rfl⟩)
end Go.Pal
