/-
  DERIVED. GIVEN WITH THE SEED: THE CARDS: each row of YtkoeeabeoefggaaDoorRows.lean that lists a variable, with what it lists TIED to the program's text (the seventh form; the later family's looks); each row that meets fmt, with fmt's text TOLD by the authors' own Lean function (tested against real Go, not proved from fmt's source: count such statements apart). THE CARD IS WHAT COUNTS. Prove the row's statement (the work); the ties are given (YtkoeeabeoefggaaDoorTie.lean); close each card by the builder's one call (the guide's Derived/Test/ToyasCard.lean, 'card_holds'). Laid BY PROGRAM, IN A SANDBOX (cutbox-door.mjs). By AI agents, Wed Nov 11 2026. No macro, syntax, notation, axiom, sorry.
-/
import Derived.Test.YtkoeeabeoefggaaDoorRows
import GoSem.ClaimSeven
namespace Go.Proofs.YtkoeeabeoefggaaDoor
namespace Rows

/-- THE TIED CARD OF 'palmettelaw46.TopTreeDepth'. -/
def topTreeDepthCard : Claim7 := { stood := { row := topTreeDepthRow, standIns := [], harness := (true, "070589108e6a5ad5bf9787a38b3257691c88e084208a7b7cc7c5b8619a8e3818"), looks := false }, kinds := [], alts := [], laidByText := true, laidKinds := [.data], laidTests := true, laidLooks := .later }
def TopTreeDepthCardSaid : Prop := Claim7.holds Tryd.pinned (.plain (OpenSpec.ofChange topTreeDepthSpec)) topTreeDepthCard

/-- THE SECOND FORM's CARD OF 'palmettelaw46.TopTreeDepth'. -/
def topTreeDepthUptoCard : Claim7 := { stood := { row := topTreeDepthUptoRow, standIns := [], harness := (true, "070589108e6a5ad5bf9787a38b3257691c88e084208a7b7cc7c5b8619a8e3818"), looks := false }, kinds := [], alts := [], laidByText := true, laidKinds := [.data], laidTests := true, laidLooks := .later }
def TopTreeDepthUptoCardSaid : Prop := Claim7.holds Tryd.pinned (.plain (OpenSpec.upto topTreeDepthSpec)) topTreeDepthUptoCard
end Rows
end Go.Proofs.YtkoeeabeoefggaaDoor
