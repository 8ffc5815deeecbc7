/- TreeDecompFormatParse: the tied card, out of the walk. TreeDecompFormatParse answers true .. -/
import Derived.Test.YteiibpfabgfolaaGreatDoorVRowFp
import Derived.Test.YteiibpfabgfolaaGreatDoorVWpg
set_option linter.all false
namespace Go.Proofs.YteiibpfabgfolaaGreatDoor
open Go Go.ChangeShapes Go.WideShapes Go.ChangeAt Go.RowKit Go.Pal Go.Deep
theorem fpWf : Rows.treeDecompFormatParseRow.wfByText (OpenSpec.ofChange Rows.treeDecompFormatParseSpec) = true := by kernel_rfl
theorem fpMain : Tryz.pinned.checked.prog.mainIs = some (true, "e58d971deaa8cc4491a77eae40c040f6458b3b3dfbf473b0ee6b0ded4dfe1f75".toList) := by kernel_rfl
theorem fpGoes : false = Rows.treeDecompFormatParseRow.goesBy Tryz.pinned.checked.prog := by kernel_rfl
theorem card_of (hlaw : FpLaw) : Rows.TreeDecompFormatParseCardSaid :=
 Claim7.holds_tied_plain_at .later [] _ _ _ _ (said hlaw) (fun _ h => by cases h) fpWf (fun _ h => by cases h) treeDecompFormatParse_row_tie rfl ⟨rfl, rfl⟩ fpMain rfl plain fpGoes
theorem formatParse_card : Rows.TreeDecompFormatParseCardSaid := card_of fpLaw_any
end Go.Proofs.YteiibpfabgfolaaGreatDoor
