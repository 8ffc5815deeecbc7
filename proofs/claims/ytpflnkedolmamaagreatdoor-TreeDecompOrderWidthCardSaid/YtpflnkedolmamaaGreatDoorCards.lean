/-
  DERIVED. GIVEN WITH THE SEED: THE CARDS: each row of YtpflnkedolmamaaGreatDoorRows.lean that lists a variable, with what it lists TIED to the program's text (the seventh form; the later family's looks); each row that meets fmt, with fmt's text TOLD by the authors' own Lean function (tested against real Go, not proved from fmt's source: count such statements apart). THE CARD IS WHAT COUNTS. Prove the row's statement (the work); the ties are given (YtpflnkedolmamaaGreatDoorTie.lean); close each card by the builder's one call (the guide's Derived/Test/ToyasCard.lean, 'card_holds'). Laid BY PROGRAM, IN A SANDBOX (cutbox-door.mjs). By AI agents, Wed Nov 11 2026. No macro, syntax, notation, axiom, sorry.
-/
import Derived.Test.YtpflnkedolmamaaGreatDoorRows
import GoSem.ClaimSeven
namespace Go.Proofs.YtpflnkedolmamaaGreatDoor
namespace Rows

/-- THE TIED CARD OF 'palmettelaw26.TreeDecompEqualClone'. -/
def treeDecompEqualCloneCard : Claim7 := { stood := { row := treeDecompEqualCloneRow, standIns := [], harness := (true, "d4ca7aa7ff52037ca4e4a8974b7117f2390cba618abe4600a74aa0878519d4b2"), looks := true }, kinds := [], alts := [], laidByText := true, laidKinds := [.data], laidTests := true, laidLooks := .later }
def TreeDecompEqualCloneCardSaid : Prop := Claim7.holds Tryz.pinned (.plain (OpenSpec.ofChange treeDecompEqualCloneSpec)) treeDecompEqualCloneCard

/-- THE TIED CARD OF 'palmettelaw26.TreeDecompFromOrder'. -/
def treeDecompFromOrderCard : Claim7 := { stood := { row := treeDecompFromOrderRow, standIns := [], harness := (true, "d4ca7aa7ff52037ca4e4a8974b7117f2390cba618abe4600a74aa0878519d4b2"), looks := true }, kinds := [], alts := [], laidByText := true, laidKinds := [.data], laidTests := true, laidLooks := .later }
def TreeDecompFromOrderCardSaid : Prop := Claim7.holds Tryz.pinned (.plain (OpenSpec.ofChange treeDecompFromOrderSpec)) treeDecompFromOrderCard

/-- THE TIED CARD OF 'palmettelaw26.TreeDecompReduced'. -/
def treeDecompReducedCard : Claim7 := { stood := { row := treeDecompReducedRow, standIns := [], harness := (true, "d4ca7aa7ff52037ca4e4a8974b7117f2390cba618abe4600a74aa0878519d4b2"), looks := true }, kinds := [], alts := [], laidByText := true, laidKinds := [.data], laidTests := true, laidLooks := .later }
def TreeDecompReducedCardSaid : Prop := Claim7.holds Tryz.pinned (.plain (OpenSpec.ofChange treeDecompReducedSpec)) treeDecompReducedCard

/-- THE TIED CARD OF 'palmettelaw26.TreeDecompRerooted'. -/
def treeDecompRerootedCard : Claim7 := { stood := { row := treeDecompRerootedRow, standIns := [], harness := (true, "d4ca7aa7ff52037ca4e4a8974b7117f2390cba618abe4600a74aa0878519d4b2"), looks := true }, kinds := [], alts := [], laidByText := true, laidKinds := [.data], laidTests := true, laidLooks := .later }
def TreeDecompRerootedCardSaid : Prop := Claim7.holds Tryz.pinned (.plain (OpenSpec.ofChange treeDecompRerootedSpec)) treeDecompRerootedCard

/-- THE TIED CARD OF 'palmettelaw26.TreeDecompCheck'. -/
def treeDecompCheckCard : Claim7 := { stood := { row := treeDecompCheckRow, standIns := [], harness := (true, "d4ca7aa7ff52037ca4e4a8974b7117f2390cba618abe4600a74aa0878519d4b2"), looks := true }, kinds := [], alts := [], laidByText := true, laidKinds := [.data], laidTests := true, laidLooks := .later }
def TreeDecompCheckCardSaid : Prop := Claim7.holds Tryz.pinned (.plain (OpenSpec.ofChange treeDecompCheckSpec)) treeDecompCheckCard

/-- THE TIED CARD OF 'palmettelaw26.TreeDecompRestricted'. -/
def treeDecompRestrictedCard : Claim7 := { stood := { row := treeDecompRestrictedRow, standIns := [], harness := (true, "d4ca7aa7ff52037ca4e4a8974b7117f2390cba618abe4600a74aa0878519d4b2"), looks := true }, kinds := [], alts := [], laidByText := true, laidKinds := [.data], laidTests := true, laidLooks := .later }
def TreeDecompRestrictedCardSaid : Prop := Claim7.holds Tryz.pinned (.plain (OpenSpec.ofChange treeDecompRestrictedSpec)) treeDecompRestrictedCard

/-- THE TIED CARD OF 'palmettelaw26.TreeDecompOrderWidth'. -/
def treeDecompOrderWidthCard : Claim7 := { stood := { row := treeDecompOrderWidthRow, standIns := [], harness := (true, "d4ca7aa7ff52037ca4e4a8974b7117f2390cba618abe4600a74aa0878519d4b2"), looks := true }, kinds := [], alts := [], laidByText := true, laidKinds := [.data], laidTests := true, laidLooks := .later }
def TreeDecompOrderWidthCardSaid : Prop := Claim7.holds Tryz.pinned (.plain (OpenSpec.ofChange treeDecompOrderWidthSpec)) treeDecompOrderWidthCard

/-- THE TIED CARD OF 'palmettelaw26.TreeDecompTransform'. -/
def treeDecompTransformCard : Claim7 := { stood := { row := treeDecompTransformRow, standIns := [], harness := (true, "d4ca7aa7ff52037ca4e4a8974b7117f2390cba618abe4600a74aa0878519d4b2"), looks := true }, kinds := [], alts := [], laidByText := true, laidKinds := [.data], laidTests := true, laidLooks := .later }
def TreeDecompTransformCardSaid : Prop := Claim7.holds Tryz.pinned (.plain (OpenSpec.ofChange treeDecompTransformSpec)) treeDecompTransformCard

/-- THE TIED CARD OF 'palmettelaw26.TreeDecompFormatParse'. -/
def treeDecompFormatParseCard : Claim7 := { stood := { row := treeDecompFormatParseRow, standIns := [], harness := (true, "d4ca7aa7ff52037ca4e4a8974b7117f2390cba618abe4600a74aa0878519d4b2"), looks := true }, kinds := [], alts := [], laidByText := true, laidKinds := [.data, .data, .data, .data, .sentinel, .sentinel, .pinned], laidTests := true, laidLooks := .later }
def TreeDecompFormatParseCardSaid : Prop := Claim7.holds Tryz.pinned (.plain (OpenSpec.ofChange treeDecompFormatParseSpec)) treeDecompFormatParseCard

/-- THE SECOND FORM's CARD OF 'palmettelaw26.TreeDecompEqualClone'. -/
def treeDecompEqualCloneUptoCard : Claim7 := { stood := { row := treeDecompEqualCloneUptoRow, standIns := [], harness := (true, "d4ca7aa7ff52037ca4e4a8974b7117f2390cba618abe4600a74aa0878519d4b2"), looks := true }, kinds := [], alts := [], laidByText := true, laidKinds := [.data], laidTests := true, laidLooks := .later }
def TreeDecompEqualCloneUptoCardSaid : Prop := Claim7.holds Tryz.pinned (.plain (OpenSpec.upto treeDecompEqualCloneSpec)) treeDecompEqualCloneUptoCard

/-- THE SECOND FORM's CARD OF 'palmettelaw26.TreeDecompFromOrder'. -/
def treeDecompFromOrderUptoCard : Claim7 := { stood := { row := treeDecompFromOrderUptoRow, standIns := [], harness := (true, "d4ca7aa7ff52037ca4e4a8974b7117f2390cba618abe4600a74aa0878519d4b2"), looks := true }, kinds := [], alts := [], laidByText := true, laidKinds := [.data], laidTests := true, laidLooks := .later }
def TreeDecompFromOrderUptoCardSaid : Prop := Claim7.holds Tryz.pinned (.plain (OpenSpec.upto treeDecompFromOrderSpec)) treeDecompFromOrderUptoCard

/-- THE SECOND FORM's CARD OF 'palmettelaw26.TreeDecompReduced'. -/
def treeDecompReducedUptoCard : Claim7 := { stood := { row := treeDecompReducedUptoRow, standIns := [], harness := (true, "d4ca7aa7ff52037ca4e4a8974b7117f2390cba618abe4600a74aa0878519d4b2"), looks := true }, kinds := [], alts := [], laidByText := true, laidKinds := [.data], laidTests := true, laidLooks := .later }
def TreeDecompReducedUptoCardSaid : Prop := Claim7.holds Tryz.pinned (.plain (OpenSpec.upto treeDecompReducedSpec)) treeDecompReducedUptoCard

/-- THE SECOND FORM's CARD OF 'palmettelaw26.TreeDecompRerooted'. -/
def treeDecompRerootedUptoCard : Claim7 := { stood := { row := treeDecompRerootedUptoRow, standIns := [], harness := (true, "d4ca7aa7ff52037ca4e4a8974b7117f2390cba618abe4600a74aa0878519d4b2"), looks := true }, kinds := [], alts := [], laidByText := true, laidKinds := [.data], laidTests := true, laidLooks := .later }
def TreeDecompRerootedUptoCardSaid : Prop := Claim7.holds Tryz.pinned (.plain (OpenSpec.upto treeDecompRerootedSpec)) treeDecompRerootedUptoCard

/-- THE SECOND FORM's CARD OF 'palmettelaw26.TreeDecompCheck'. -/
def treeDecompCheckUptoCard : Claim7 := { stood := { row := treeDecompCheckUptoRow, standIns := [], harness := (true, "d4ca7aa7ff52037ca4e4a8974b7117f2390cba618abe4600a74aa0878519d4b2"), looks := true }, kinds := [], alts := [], laidByText := true, laidKinds := [.data], laidTests := true, laidLooks := .later }
def TreeDecompCheckUptoCardSaid : Prop := Claim7.holds Tryz.pinned (.plain (OpenSpec.upto treeDecompCheckSpec)) treeDecompCheckUptoCard

/-- THE SECOND FORM's CARD OF 'palmettelaw26.TreeDecompRestricted'. -/
def treeDecompRestrictedUptoCard : Claim7 := { stood := { row := treeDecompRestrictedUptoRow, standIns := [], harness := (true, "d4ca7aa7ff52037ca4e4a8974b7117f2390cba618abe4600a74aa0878519d4b2"), looks := true }, kinds := [], alts := [], laidByText := true, laidKinds := [.data], laidTests := true, laidLooks := .later }
def TreeDecompRestrictedUptoCardSaid : Prop := Claim7.holds Tryz.pinned (.plain (OpenSpec.upto treeDecompRestrictedSpec)) treeDecompRestrictedUptoCard

/-- THE SECOND FORM's CARD OF 'palmettelaw26.TreeDecompOrderWidth'. -/
def treeDecompOrderWidthUptoCard : Claim7 := { stood := { row := treeDecompOrderWidthUptoRow, standIns := [], harness := (true, "d4ca7aa7ff52037ca4e4a8974b7117f2390cba618abe4600a74aa0878519d4b2"), looks := true }, kinds := [], alts := [], laidByText := true, laidKinds := [.data], laidTests := true, laidLooks := .later }
def TreeDecompOrderWidthUptoCardSaid : Prop := Claim7.holds Tryz.pinned (.plain (OpenSpec.upto treeDecompOrderWidthSpec)) treeDecompOrderWidthUptoCard

/-- THE SECOND FORM's CARD OF 'palmettelaw26.TreeDecompTransform'. -/
def treeDecompTransformUptoCard : Claim7 := { stood := { row := treeDecompTransformUptoRow, standIns := [], harness := (true, "d4ca7aa7ff52037ca4e4a8974b7117f2390cba618abe4600a74aa0878519d4b2"), looks := true }, kinds := [], alts := [], laidByText := true, laidKinds := [.data], laidTests := true, laidLooks := .later }
def TreeDecompTransformUptoCardSaid : Prop := Claim7.holds Tryz.pinned (.plain (OpenSpec.upto treeDecompTransformSpec)) treeDecompTransformUptoCard

/-- THE SECOND FORM's CARD OF 'palmettelaw26.TreeDecompFormatParse'. -/
def treeDecompFormatParseUptoCard : Claim7 := { stood := { row := treeDecompFormatParseUptoRow, standIns := [], harness := (true, "d4ca7aa7ff52037ca4e4a8974b7117f2390cba618abe4600a74aa0878519d4b2"), looks := true }, kinds := [], alts := [], laidByText := true, laidKinds := [.data, .data, .data, .data, .sentinel, .sentinel, .pinned], laidTests := true, laidLooks := .later }
def TreeDecompFormatParseUptoCardSaid : Prop := Claim7.holds Tryz.pinned (.plain (OpenSpec.upto treeDecompFormatParseSpec)) treeDecompFormatParseUptoCard
end Rows
end Go.Proofs.YtpflnkedolmamaaGreatDoor
