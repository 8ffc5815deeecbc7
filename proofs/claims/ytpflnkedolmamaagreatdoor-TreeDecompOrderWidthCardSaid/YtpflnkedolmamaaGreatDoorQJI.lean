/-
  The walk of the statement TreeDecompFromOrder.
-/
import Derived.Test.YtpflnkedolmamaaGreatDoorQJG
import Derived.Test.YtpflnkedolmamaaGreatDoorQJH
import Derived.Test.YtpflnkedolmamaaGreatDoorQGU
import Derived.Test.YtpflnkedolmamaaGreatDoorQRef3
set_option linter.unusedSimpArgs false
set_option linter.unusedVariables false
namespace Go.Pal
open Go
/-- What FromOrder answers: the tree of an order of all vertices, else none. -/
def foT (G : Gr) (ns : List Int) : List Bg := if G.ordE ns = 0 then foTree (fun x => G.near (x : Int)) (ns.map Int.toNat) else []
theorem toNat_cast (o : List Nat) : (o.map fun i : Nat => (i : Int)).map Int.toNat = o := by
  rw [List.map_map]
  conv => rhs; rw [← List.map_id o]
  apply List.map_congr_left
  intro x _
  simp
theorem foTree_len (f : Nat → Nat) (o : List Nat) : (foTree f o).length ≤ o.length + 1 := by
  unfold foTree
  split
  · simp
  · rw [foTo_length]; omega
theorem foTree_set {f : Nat → Nat} (hf : ∀ u, IsSet (f u)) {o : List Nat} (hlt : ∀ x ∈ o, x < 1024) : ∀ x ∈ foTree f o, IsSet x.2 := by
  unfold foTree
  split
  · intro x hx
    simp at hx
    subst hx
    exact isSet_zero
  · intro x hx
    unfold foTo at hx
    obtain ⟨i, hi, rfl⟩ := List.mem_map.1 hx
    rw [List.mem_range] at hi
    exact isSet_ins (isSet_gameAt hf o i _) (hlt _ (List.mem_of_getElem? (getD_of hi)))
theorem foT_len {G : Gr} {ns : List Int} : (foT G ns).length ≤ ns.length + 1 := by
  unfold foT
  split
  · have := foTree_len (fun x => G.near (x : Int)) (ns.map Int.toNat)
    simpa using this
  · simp
theorem foT_set {G : Gr} (hG : G.Ok) (ns : List Int) : ∀ x ∈ foT G ns, IsSet x.2 := by
  unfold foT
  split
  · rename_i h0
    obtain ⟨o, rfl, hlt, -⟩ := hG.order ((hG.ordE_iff ns).1 h0)
    rw [toNat_cast]
    exact foTree_set (fun u => hG.isSet_near _) hlt
  · intro x hx; simp at hx
end Go.Pal
namespace Go.Proofs.YtpflnkedolmamaaGreatDoor
open Go Go.RowKit Go.Pal
attribute [local go_sem] Oper.semAt_some

theorem fo_any (G : Gr) (hG : G.Ok) (ns : List Int) (hn : ns.length ≤ 64) (g bV bE : Nat) (w : World) (v : Value) (hv : RdL w v ns) (h : GOk w g bV bE G) (hT : Tab2 w) :
    Calls Tryz.prog 18 #[.pointer (some ⟨g, 0, none⟩), v] w fun e w' => ∃ vs, e = .returned (.tuple #[vs, .int .i64 (G.ordE ns : Int)]) ∧ Rd bagA 17 w'.heap.size w' vs (foT G ns) ∧ Below w.heap.size w w' := by
  by_cases h0 : G.ordE ns = 0
  · obtain ⟨o, ho, hlt, hnd, hcl, hl, -⟩ := hG.order ((hG.ordE_iff ns).1 h0)
    have hT' : foT G ns = foTree (fun x => G.near (x : Int)) o := by rw [foT, if_pos h0, ho, toNat_cast]
    rw [hT', h0]
    rw [ho] at hv h0
    refine (fromOrder_any o g bV bE G hG w v hv h h0 hlt hnd hcl hl hT.1 hT.2).mono ?_
    rintro e w' ⟨vs, rfl, hO, hb⟩
    exact ⟨vs, rfl, hO.rd elB, hb⟩
  · have h3 := ordE_three h0
    have hT' : foT G ns = [] := by rw [foT, if_neg h0]
    rw [hT', h3]
    obtain ⟨a, c, hvv, -⟩ := id hv
    refine (fromOrder_bad 3 (by decide) (.pointer (some ⟨g, 0, none⟩)) v ⟨⟨_, rfl⟩, _, _, _, hvv⟩ w fun W hb => ?_).mono ?_
    · have := echeck_any ns v g bV bE G hG W (hv.below hb) (h.below hb) (by omega)
      rw [h3] at this
      exact this
    · rintro e w' ⟨rfl, hb⟩
      exact ⟨_, rfl, ⟨none, 0, rfl, .inl rfl⟩, hb⟩
end Go.Proofs.YtpflnkedolmamaaGreatDoor
