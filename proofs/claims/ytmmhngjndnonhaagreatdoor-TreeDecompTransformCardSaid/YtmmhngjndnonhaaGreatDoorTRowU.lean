/- TreeDecompTransform: the tied card. -/
import Derived.Test.YtmmhngjndnonhaaGreatDoorTRowT
set_option linter.all false
namespace Go.Proofs.YtmmhngjndnonhaaGreatDoor
open Go Go.ChangeShapes Go.WideShapes Go.ChangeAt Go.RowKit Go.Pal Go.Deep
theorem trnWf : Rows.treeDecompTransformRow.wfByText (OpenSpec.ofChange Rows.treeDecompTransformSpec) = true := by kernel_rfl
theorem trnMain : Tryz.pinned.checked.prog.mainIs = some (true, "dc31f5d875f24e3f86959e25ae6154a069a8f06caf64461742dfea2e1b9868e9".toList) := by kernel_rfl
theorem trnGoes : false = Rows.treeDecompTransformRow.goesBy Tryz.pinned.checked.prog := by kernel_rfl
theorem transform_card : Rows.TreeDecompTransformCardSaid :=
 Claim7.holds_tied_plain_at .later [] _ _ _ _ said (fun _ h => by cases h) trnWf (fun _ h => by cases h) treeDecompTransform_row_tie rfl ⟨rfl, rfl⟩ trnMain rfl plain trnGoes
end Go.Proofs.YtmmhngjndnonhaaGreatDoor
