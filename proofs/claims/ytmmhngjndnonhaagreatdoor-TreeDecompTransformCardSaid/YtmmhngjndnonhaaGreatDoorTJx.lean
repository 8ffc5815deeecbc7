/- Walks of the reference's eliminations: a pair among pairs; the check of an order. Walks .. -/
import Derived.Test.YtmmhngjndnonhaaGreatDoorTHB
import Derived.Test.YtmmhngjndnonhaaGreatDoorTJpl
import Derived.Test.YtmmhngjndnonhaaGreatDoorTRef1
import Derived.Test.YtmmhngjndnonhaaGreatDoorTRef3
import Derived.Test.YtmmhngjndnonhaaGreatDoorTJG
import Derived.Test.YtmmhngjndnonhaaGreatDoorTGU
import Derived.Test.YtmmhngjndnonhaaGreatDoorTSH
set_option linter.all false
namespace Go.Pal
open Go
end Go.Pal
namespace Go.Proofs.YtmmhngjndnonhaaGreatDoor
open Go Go.RowKit Go.Pal
attribute [local go_sem] Oper.semAt_some
end Go.Proofs.YtmmhngjndnonhaaGreatDoor
namespace Go.Pal
open Go Go.RowKit
end Go.Pal
namespace Go.Proofs.YtmmhngjndnonhaaGreatDoor
open Go Go.RowKit Go.Pal
attribute [local go_sem] Oper.semAt_some
end Go.Proofs.YtmmhngjndnonhaaGreatDoor
namespace Go.Pal
open Go
end Go.Pal
namespace Go.Proofs.YtmmhngjndnonhaaGreatDoor
open Go Go.RowKit Go.Pal
attribute [local go_sem] Oper.semAt_some
end Go.Proofs.YtmmhngjndnonhaaGreatDoor
namespace Go.Pal
open Go
theorem vset_perm {G : Gr} (hG : G.Ok) {l : List Int} (h : l.Perm (elemsI G.vset)) : l.Perm G.ids' := by
 have hn : (elemsI G.vset).Nodup := (elemsI_sorted _).imp fun h e => by omega
 have hm : ∀ z, z ∈ elemsI G.vset ↔ z ∈ G.ids' := fun z => by
   constructor
   · intro hz
     obtain ⟨n, hm, rfl⟩ := List.mem_map.1 hz
     have hb := (mem_elems hG.isSet_vset).1 hm
     rw [hG.vset_bit] at hb
     simpa using hb
   · intro hz
     obtain ⟨h0, h1⟩ := hG.ids_range z hz
     obtain ⟨n, rfl⟩ : ∃ n : Nat, z = (n : Int) := ⟨z.toNat, by omega⟩
     rw [mem_elemsI hG.isSet_vset, hG.vset_bit]
     simpa using hz
 exact h.trans (perm_of_nodup hn (fun x hx => (hm x).1 hx) (nodup_length hG.ids_nodup fun x hx => (hm x).2 hx))
end Go.Pal
namespace Go.Proofs.YtmmhngjndnonhaaGreatDoor
open Go Go.RowKit Go.Pal
attribute [local go_sem] Oper.semAt_some
end Go.Proofs.YtmmhngjndnonhaaGreatDoor
