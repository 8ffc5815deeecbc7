/- Rows of strings, strings.Join; the set of a graph's edges; FormatEdgeSet. Walk: the law's .. -/
import Derived.Test.YteiibpfabgfolaaGreatDoorVVx
import Derived.Test.YteiibpfabgfolaaGreatDoorVVb
import Derived.Test.YteiibpfabgfolaaGreatDoorVS3
import Derived.Test.YteiibpfabgfolaaGreatDoorVGrH
import Derived.Test.YteiibpfabgfolaaGreatDoorVRoR
import Derived.Test.YteiibpfabgfolaaGreatDoorVSets
set_option linter.all false
namespace Go.Pal
open Go Go.RowKit
theorem elems_len2 (S : Nat) : (elems S).length ≤ 1024 := by
 have := elemsI_length S
 simpa [elemsI] using this
theorem join_len {b : Nat} {ls : List (List UInt8)} (h : ∀ l ∈ ls, l.length ≤ b) (sep : List UInt8) : (Lib.join ls sep).length ≤ (b + sep.length) * ls.length := by
 unfold Lib.join
 induction ls with
 | nil => simp [List.intercalate]
 | cons x r ih =>
   have ih := ih fun l hl => h l (by simp [hl])
   have hx := h x (by simp)
   cases r with
   | nil =>
     simp [List.intercalate] at ih ⊢
     omega
   | cons y s =>
     have e : sep.intercalate (x :: y :: s) = x ++ sep ++ sep.intercalate (y :: s) := by simp [List.intercalate]
     rw [e]
     simp only [List.length_append, List.length_cons] at ih ⊢
     rw [Nat.mul_add]
     omega
section
variable {P : Program}
theorem wpIn_round_mix {id l0 : Nat} {Q : Exit → Act → World → Prop} {a : Act} {w : World} {l : List Oper} (S : World → Prop) (n : Nat) (plan : List (Nat × Bool)) (hm : P.follows .mixedOrders = true) (hB : Region.mixB .any l.toArray n plan = true)
   (hD : Region.noDefer l.toArray = true) (hno : ¬ LetsOut Q) (hS : S w.drew)
   (h : wpPlan P l.toArray S noQ (fun a' w' => wpList P l.toArray Q (l.drop n) a' w') plan a w.drew) : (Code.region id l.toArray true).wpIn (Fence.wide.inRound l0) 0 P Q a w := by
 simp only [Region.mixB, Bool.and_eq_true, decide_eq_true_eq] at hB
 obtain ⟨⟨⟨⟨⟨hsel, hn⟩, hs⟩, hc⟩, hpl⟩, hplan⟩ := hB
 have hn' : n < l.length := by simpa using hn
 have hdl : (l.drop n).length = l.toArray.size - n := by simp
 have inv0 : HeadInv .any l.toArray n (Array.replicate l.toArray.size false) :=
   ⟨by simp, fun j oj _ hl => (by rw [getD_replicate_false] at hl; cases hl), fun t _ ht => getD_in (by simpa using ht) (getD_replicate_false _ _)⟩
 have H := wpAnyH_plan (md := .any) (Q := noQ) (g := l.toArray.size - n) hsel hs hc hn (fun _ _ _ _ h => h) plan _ a w.drew inv0 hplan hS h
 refine wpIn_region_any hm (wpAnyIn_round_of hno (Region.noDefer_spec hD) _ _ _ _ ?_)
 have := wpAny_of_headH (Q := Q) (g := l.toArray.size - n) (fun listed a' w' hL => by
   have := wpAny_of_seq (md := .any) (Q' := Q) (l.drop n) n listed a' w' (fun j => by simp [List.getElem?_drop]) (by rw [hdl]; exact hL.1) hL.2
   rwa [hdl] at this) _ _ _ _ H
 rw [hpl, show n + (l.toArray.size - n) = l.toArray.size by omega] at this
 exact this
end
end Go.Pal
namespace Go.Proofs.YteiibpfabgfolaaGreatDoor
open Go Go.RowKit Go.Pal Go.Shelf
attribute [local go_sem] Oper.semAt_some
theorem join_own (B : Nat) (ls : List (List UInt8)) (v : Value) (w : World) (h : OwnStr B w v ls) (sep : List UInt8) (hl : ls.length ≤ 1000000) (hlen : (Lib.join ls sep).length ≤ 1000000) :
   Calls Tryz.prog 60 #[v, .string ⟨sep.toArray⟩] w fun e w' => e = .returned (.string ⟨(Lib.join ls sep).toArray⟩) ∧ Below w.heap.size w w' := by
 have hrd := h.rd elStr
 have hb : (ls.map fun l : List UInt8 => (⟨l.toArray⟩ : ByteArray)).map (·.data.toList) = ls := by
   rw [List.map_map]
   conv => rhs; rw [← List.map_id ls]
   exact List.map_congr_left fun x _ => rfl
 rcases h.2 with ⟨rfl, h2⟩ | ⟨g, cap, cur, rfl, hB, hg, hc, -⟩
 · have : ls = [] := List.length_eq_zero_iff.1 h2
   subst this
   refine (Any.strings_Join_none Tryz.laysJoin Tryz.extraJoin none 0 ⟨sep.toArray⟩ w).mono ?_
   rintro e w' ⟨rfl, rfl⟩
   exact ⟨by simp [Lib.join, List.intercalate], Below.refl _ _⟩
 · have hcs : ∀ (j : Nat) x, (ls.map fun l : List UInt8 => (⟨l.toArray⟩ : ByteArray))[j]? = some x → w.cell? ⟨g, 0 + j, none⟩ = some (.string x) := by
     intro j x hx
     rw [List.getElem?_map] at hx
     obtain ⟨l, hl, rfl⟩ := Option.map_eq_some_iff.1 hx
     have := World.ownsRow.cells (base := B) h (g := g) rfl _ _ (encC_get elStr hl (j := 0) (u := .string ⟨l.toArray⟩) rfl)
     have e : (⟨g, 0, none⟩ : Addr).add (j * 1 + 0) = ⟨g, 0 + j, none⟩ := by unfold Addr.add; split <;> simp_all
     rwa [e] at this
   have := Any.strings_Join Tryz.laysJoin Tryz.extraJoin g 0 cap (ls.map fun l : List UInt8 => (⟨l.toArray⟩ : ByteArray)) ⟨sep.toArray⟩ w hcs (Array.getElem?_eq_some_iff.1 hg).1 (by rw [List.length_map]; omega) (by rw [List.length_map]; exact hc) (by rw [hb]; exact Nat.le_trans hlen (by decide))
   rw [hb, List.length_map] at this
   exact this
end Go.Proofs.YteiibpfabgfolaaGreatDoor
namespace Go.Pal
open Go Go.RowKit
end Go.Pal
namespace Go.Proofs.YteiibpfabgfolaaGreatDoor
open Go Go.RowKit Go.Pal Go.Shelf
attribute [local go_sem] Oper.semAt_some
def Tab3 (w : World) : Prop := (TabOk w ∧ 1 < w.heap.size) ∧ Pow w
theorem Tab3.on {w w' : World} (h : Tab3 w) (hb : Below w.heap.size w w') : Tab3 w' := ⟨⟨h.1.1.below hb h.1.2, Nat.lt_of_lt_of_le h.1.2 hb.size⟩, h.2.on hb⟩
end Go.Proofs.YteiibpfabgfolaaGreatDoor
