/-
  NARROWER THAN 'FOR EVERY INPUT', by the rows' own cells (each row's printed sentence says how): TreeDecompEqualClone: laid · TreeDecompFromOrder: laid · TreeDecompReduced: laid · TreeDecompRerooted: laid · TreeDecompCheck: laid · TreeDecompRestricted: laid · TreeDecompOrderWidth: laid · TreeDecompTransform: laid · TreeDecompFormatParse: laid.
  DERIVED. THE GIVEN ROWS OF THIS SEAT. 9 by the template 'for every input the law returns true; each argument reads behind the call as it read before'; 0 by the template 'total and deterministic' (their statements: YtpflnkedolmamaaGreatDoorTotals.lean).
  GIVEN WITH THE SEED: the statements are not yours to turn. If you find one false, say at which input.
  Laid BY PROGRAM, IN A SANDBOX (cutbox-rows.mjs): the forced cells as the released guide's own fill.sh prints them over the translation 99f9064854f2efc0… (all of the seat's roots in one cut). By AI agents, Wed Nov 11 2026. No macro, syntax, notation, axiom, sorry.
-/
import Derived.Test.YtpflnkedolmamaaGreatDoorChecked
import GoSem.PinnedTables
import GoSem.Claim
import GoSem.ClaimJoined
import GoSem.ClaimMapViews
import Derived.JoinedTies
import Derived.KernelRfl
namespace Go.Proofs.YtpflnkedolmamaaGreatDoor
/- THE CELL 'sum', in the pinned program and in every row, IS THE sha256 OF THE DUMP (.gsa) THAT YtpflnkedolmamaaGreatDoorProg.lean LOADS. Nothing in Lean hashes anything: it is a label: what it is worth is what the hold of that sum in a sandbox is worth. -/
noncomputable def Tryz.pinned : Pinned := { name := "ytpflnkedolmamaagreatdoor", sum := "99f9064854f2efc0251f8c83cb97a81866e2b32c330ee26e5b9ef1f028761066", checked := Tryz.checked }
namespace Rows
def none {H : Type} : Left H := { results := [], args := [] }

/- WHAT THE LISTED PACKAGE-LEVEL VARIABLES READ AS WHEN THE CALL BEGINS. Each datum BY PROGRAM (the guide's laid-datum.mjs) off the statement by which the dump's own 'gosem.cut.vars' lays the variable. In a bare row this is a premise. The card (YtpflnkedolmamaaGreatDoorCards.lean) ties it to the program's text. -/
def laid_math_bits_deBruijn64tab {H : Type} : DataW H := .agg [.lit (.int .u8 0), .lit (.int .u8 1), .lit (.int .u8 56), .lit (.int .u8 2), .lit (.int .u8 57), .lit (.int .u8 49), .lit (.int .u8 28), .lit (.int .u8 3), .lit (.int .u8 61), .lit (.int .u8 58), .lit (.int .u8 42), .lit (.int .u8 50), .lit (.int .u8 38), .lit (.int .u8 29), .lit (.int .u8 17), .lit (.int .u8 4), .lit (.int .u8 62), .lit (.int .u8 47), .lit (.int .u8 59), .lit (.int .u8 36), .lit (.int .u8 45), .lit (.int .u8 43), .lit (.int .u8 51), .lit (.int .u8 22), .lit (.int .u8 53), .lit (.int .u8 39), .lit (.int .u8 33), .lit (.int .u8 30), .lit (.int .u8 24), .lit (.int .u8 18), .lit (.int .u8 12), .lit (.int .u8 5), .lit (.int .u8 63), .lit (.int .u8 55), .lit (.int .u8 48), .lit (.int .u8 27), .lit (.int .u8 60), .lit (.int .u8 41), .lit (.int .u8 37), .lit (.int .u8 16), .lit (.int .u8 46), .lit (.int .u8 35), .lit (.int .u8 44), .lit (.int .u8 21), .lit (.int .u8 52), .lit (.int .u8 32), .lit (.int .u8 23), .lit (.int .u8 11), .lit (.int .u8 54), .lit (.int .u8 26), .lit (.int .u8 40), .lit (.int .u8 15), .lit (.int .u8 34), .lit (.int .u8 20), .lit (.int .u8 31), .lit (.int .u8 10), .lit (.int .u8 25), .lit (.int .u8 14), .lit (.int .u8 19), .lit (.int .u8 9), .lit (.int .u8 13), .lit (.int .u8 8), .lit (.int .u8 7), .lit (.int .u8 6)]
def laid_math_bits_deBruijn32tab {H : Type} : DataW H := .agg [.lit (.int .u8 0), .lit (.int .u8 1), .lit (.int .u8 28), .lit (.int .u8 2), .lit (.int .u8 29), .lit (.int .u8 14), .lit (.int .u8 24), .lit (.int .u8 3), .lit (.int .u8 30), .lit (.int .u8 22), .lit (.int .u8 20), .lit (.int .u8 15), .lit (.int .u8 25), .lit (.int .u8 17), .lit (.int .u8 4), .lit (.int .u8 8), .lit (.int .u8 31), .lit (.int .u8 27), .lit (.int .u8 13), .lit (.int .u8 23), .lit (.int .u8 21), .lit (.int .u8 19), .lit (.int .u8 16), .lit (.int .u8 7), .lit (.int .u8 26), .lit (.int .u8 12), .lit (.int .u8 18), .lit (.int .u8 6), .lit (.int .u8 11), .lit (.int .u8 5), .lit (.int .u8 10), .lit (.int .u8 9)]
def laid_internal_strconv_uint64pow10 {H : Type} : DataW H := .agg [.lit (.int .u64 1), .lit (.int .u64 10), .lit (.int .u64 100), .lit (.int .u64 1000), .lit (.int .u64 10000), .lit (.int .u64 100000), .lit (.int .u64 1000000), .lit (.int .u64 10000000), .lit (.int .u64 100000000), .lit (.int .u64 1000000000), .lit (.int .u64 10000000000), .lit (.int .u64 100000000000), .lit (.int .u64 1000000000000), .lit (.int .u64 10000000000000), .lit (.int .u64 100000000000000), .lit (.int .u64 1000000000000000), .lit (.int .u64 10000000000000000), .lit (.int .u64 100000000000000000), .lit (.int .u64 1000000000000000000), .lit (.int .u64 10000000000000000000)]
def laid_unicode_utf8_acceptRanges {H : Type} : DataW H := .agg [.agg [.lit (.int .u8 128), .lit (.int .u8 191)], .agg [.lit (.int .u8 160), .lit (.int .u8 191)], .agg [.lit (.int .u8 128), .lit (.int .u8 159)], .agg [.lit (.int .u8 144), .lit (.int .u8 191)], .agg [.lit (.int .u8 128), .lit (.int .u8 143)], .agg [.lit (.int .u8 0), .lit (.int .u8 0)], .agg [.lit (.int .u8 0), .lit (.int .u8 0)], .agg [.lit (.int .u8 0), .lit (.int .u8 0)], .agg [.lit (.int .u8 0), .lit (.int .u8 0)], .agg [.lit (.int .u8 0), .lit (.int .u8 0)], .agg [.lit (.int .u8 0), .lit (.int .u8 0)], .agg [.lit (.int .u8 0), .lit (.int .u8 0)], .agg [.lit (.int .u8 0), .lit (.int .u8 0)], .agg [.lit (.int .u8 0), .lit (.int .u8 0)], .agg [.lit (.int .u8 0), .lit (.int .u8 0)], .agg [.lit (.int .u8 0), .lit (.int .u8 0)]]
def laid_strconv_ErrRange {H : Type} : DataW H := .iface "*errors.errorString" (.ptr (.agg [.lit (.string [118, 97, 108, 117, 101, 32, 111, 117, 116, 32, 111, 102, 32, 114, 97, 110, 103, 101])]))
def laid_strconv_ErrSyntax {H : Type} : DataW H := .iface "*errors.errorString" (.ptr (.agg [.lit (.string [105, 110, 118, 97, 108, 105, 100, 32, 115, 121, 110, 116, 97, 120])]))
/-- One of Go's own tables, pinned by name: the form's constant. -/
def laid_unicode_utf8_first : DataW Unit := Go.Pinned.utf8First

/-- 'palmettelaw26.TreeDecompEqualClone': WHATEVER THE INPUT: true; the input reads as it did. -/
def treeDecompEqualCloneSpec : ChangeSpec := { name := "treeDecompEqualClone", fn := fun _ => fun
  | [d1, d2, d3] => { results := [.lit (.bool true)], args := [d1, d2, d3] }
  | _ => none }
def treeDecompEqualCloneRow : OpenClaim := { program := "ytpflnkedolmamaagreatdoor", sum := "99f9064854f2efc0251f8c83cb97a81866e2b32c330ee26e5b9ef1f028761066", func := "palmette/palmettelaw26.TreeDecompEqualClone", spec := "treeDecompEqualClone", unfollowed := true, recurses := true, named := ["math/bits.deBruijn64tab"], plainKeys := false, apart := false, laid := [("math/bits.deBruijn64tab", laid_math_bits_deBruijn64tab)] }
def TreeDecompEqualCloneSaid : Prop := treeDecompEqualCloneRow.holds Tryz.pinned (OpenSpec.ofChange treeDecompEqualCloneSpec)

/-- ITS FALSE NEIGHBOUR: 'it returns false'. Refute it at one input. -/
def treeDecompEqualCloneWrong : ChangeSpec := { name := "treeDecompEqualClone", fn := fun _ => fun
  | [d1, d2, d3] => { results := [.lit (.bool false)], args := [d1, d2, d3] }
  | _ => none }
def TreeDecompEqualCloneWrongFalsely : Prop := treeDecompEqualCloneRow.holds Tryz.pinned (OpenSpec.ofChange treeDecompEqualCloneWrong)

/-- 'palmettelaw26.TreeDecompFromOrder': WHATEVER THE INPUT: true; the input reads as it did. -/
def treeDecompFromOrderSpec : ChangeSpec := { name := "treeDecompFromOrder", fn := fun _ => fun
  | [d1, d2, d3] => { results := [.lit (.bool true)], args := [d1, d2, d3] }
  | _ => none }
def treeDecompFromOrderRow : OpenClaim := { program := "ytpflnkedolmamaagreatdoor", sum := "99f9064854f2efc0251f8c83cb97a81866e2b32c330ee26e5b9ef1f028761066", func := "palmette/palmettelaw26.TreeDecompFromOrder", spec := "treeDecompFromOrder", unfollowed := true, recurses := true, named := ["math/bits.deBruijn64tab"], plainKeys := false, apart := false, laid := [("math/bits.deBruijn64tab", laid_math_bits_deBruijn64tab)] }
def TreeDecompFromOrderSaid : Prop := treeDecompFromOrderRow.holds Tryz.pinned (OpenSpec.ofChange treeDecompFromOrderSpec)

/-- ITS FALSE NEIGHBOUR: 'it returns false'. Refute it at one input. -/
def treeDecompFromOrderWrong : ChangeSpec := { name := "treeDecompFromOrder", fn := fun _ => fun
  | [d1, d2, d3] => { results := [.lit (.bool false)], args := [d1, d2, d3] }
  | _ => none }
def TreeDecompFromOrderWrongFalsely : Prop := treeDecompFromOrderRow.holds Tryz.pinned (OpenSpec.ofChange treeDecompFromOrderWrong)

/-- 'palmettelaw26.TreeDecompReduced': WHATEVER THE INPUT: true; the input reads as it did. -/
def treeDecompReducedSpec : ChangeSpec := { name := "treeDecompReduced", fn := fun _ => fun
  | [d1, d2, d3] => { results := [.lit (.bool true)], args := [d1, d2, d3] }
  | _ => none }
def treeDecompReducedRow : OpenClaim := { program := "ytpflnkedolmamaagreatdoor", sum := "99f9064854f2efc0251f8c83cb97a81866e2b32c330ee26e5b9ef1f028761066", func := "palmette/palmettelaw26.TreeDecompReduced", spec := "treeDecompReduced", unfollowed := true, recurses := true, named := ["math/bits.deBruijn64tab"], plainKeys := false, apart := false, laid := [("math/bits.deBruijn64tab", laid_math_bits_deBruijn64tab)] }
def TreeDecompReducedSaid : Prop := treeDecompReducedRow.holds Tryz.pinned (OpenSpec.ofChange treeDecompReducedSpec)

/-- ITS FALSE NEIGHBOUR: 'it returns false'. Refute it at one input. -/
def treeDecompReducedWrong : ChangeSpec := { name := "treeDecompReduced", fn := fun _ => fun
  | [d1, d2, d3] => { results := [.lit (.bool false)], args := [d1, d2, d3] }
  | _ => none }
def TreeDecompReducedWrongFalsely : Prop := treeDecompReducedRow.holds Tryz.pinned (OpenSpec.ofChange treeDecompReducedWrong)

/-- 'palmettelaw26.TreeDecompRerooted': WHATEVER THE INPUT: true; the input reads as it did. -/
def treeDecompRerootedSpec : ChangeSpec := { name := "treeDecompRerooted", fn := fun _ => fun
  | [d1, d2, d3] => { results := [.lit (.bool true)], args := [d1, d2, d3] }
  | _ => none }
def treeDecompRerootedRow : OpenClaim := { program := "ytpflnkedolmamaagreatdoor", sum := "99f9064854f2efc0251f8c83cb97a81866e2b32c330ee26e5b9ef1f028761066", func := "palmette/palmettelaw26.TreeDecompRerooted", spec := "treeDecompRerooted", unfollowed := true, recurses := true, named := ["math/bits.deBruijn64tab"], plainKeys := false, apart := false, laid := [("math/bits.deBruijn64tab", laid_math_bits_deBruijn64tab)] }
def TreeDecompRerootedSaid : Prop := treeDecompRerootedRow.holds Tryz.pinned (OpenSpec.ofChange treeDecompRerootedSpec)

/-- ITS FALSE NEIGHBOUR: 'it returns false'. Refute it at one input. -/
def treeDecompRerootedWrong : ChangeSpec := { name := "treeDecompRerooted", fn := fun _ => fun
  | [d1, d2, d3] => { results := [.lit (.bool false)], args := [d1, d2, d3] }
  | _ => none }
def TreeDecompRerootedWrongFalsely : Prop := treeDecompRerootedRow.holds Tryz.pinned (OpenSpec.ofChange treeDecompRerootedWrong)

/-- 'palmettelaw26.TreeDecompCheck': WHATEVER THE INPUT: true; the input reads as it did. -/
def treeDecompCheckSpec : ChangeSpec := { name := "treeDecompCheck", fn := fun _ => fun
  | [d1, d2, d3] => { results := [.lit (.bool true)], args := [d1, d2, d3] }
  | _ => none }
def treeDecompCheckRow : OpenClaim := { program := "ytpflnkedolmamaagreatdoor", sum := "99f9064854f2efc0251f8c83cb97a81866e2b32c330ee26e5b9ef1f028761066", func := "palmette/palmettelaw26.TreeDecompCheck", spec := "treeDecompCheck", unfollowed := true, recurses := true, named := ["math/bits.deBruijn64tab"], plainKeys := false, apart := false, laid := [("math/bits.deBruijn64tab", laid_math_bits_deBruijn64tab)] }
def TreeDecompCheckSaid : Prop := treeDecompCheckRow.holds Tryz.pinned (OpenSpec.ofChange treeDecompCheckSpec)

/-- ITS FALSE NEIGHBOUR: 'it returns false'. Refute it at one input. -/
def treeDecompCheckWrong : ChangeSpec := { name := "treeDecompCheck", fn := fun _ => fun
  | [d1, d2, d3] => { results := [.lit (.bool false)], args := [d1, d2, d3] }
  | _ => none }
def TreeDecompCheckWrongFalsely : Prop := treeDecompCheckRow.holds Tryz.pinned (OpenSpec.ofChange treeDecompCheckWrong)

/-- 'palmettelaw26.TreeDecompRestricted': WHATEVER THE INPUT: true; the input reads as it did. -/
def treeDecompRestrictedSpec : ChangeSpec := { name := "treeDecompRestricted", fn := fun _ => fun
  | [d1, d2, d3] => { results := [.lit (.bool true)], args := [d1, d2, d3] }
  | _ => none }
def treeDecompRestrictedRow : OpenClaim := { program := "ytpflnkedolmamaagreatdoor", sum := "99f9064854f2efc0251f8c83cb97a81866e2b32c330ee26e5b9ef1f028761066", func := "palmette/palmettelaw26.TreeDecompRestricted", spec := "treeDecompRestricted", unfollowed := true, recurses := true, named := ["math/bits.deBruijn64tab"], plainKeys := false, apart := false, laid := [("math/bits.deBruijn64tab", laid_math_bits_deBruijn64tab)] }
def TreeDecompRestrictedSaid : Prop := treeDecompRestrictedRow.holds Tryz.pinned (OpenSpec.ofChange treeDecompRestrictedSpec)

/-- ITS FALSE NEIGHBOUR: 'it returns false'. Refute it at one input. -/
def treeDecompRestrictedWrong : ChangeSpec := { name := "treeDecompRestricted", fn := fun _ => fun
  | [d1, d2, d3] => { results := [.lit (.bool false)], args := [d1, d2, d3] }
  | _ => none }
def TreeDecompRestrictedWrongFalsely : Prop := treeDecompRestrictedRow.holds Tryz.pinned (OpenSpec.ofChange treeDecompRestrictedWrong)

/-- 'palmettelaw26.TreeDecompOrderWidth': WHATEVER THE INPUT: true; the input reads as it did. -/
def treeDecompOrderWidthSpec : ChangeSpec := { name := "treeDecompOrderWidth", fn := fun _ => fun
  | [d1, d2] => { results := [.lit (.bool true)], args := [d1, d2] }
  | _ => none }
def treeDecompOrderWidthRow : OpenClaim := { program := "ytpflnkedolmamaagreatdoor", sum := "99f9064854f2efc0251f8c83cb97a81866e2b32c330ee26e5b9ef1f028761066", func := "palmette/palmettelaw26.TreeDecompOrderWidth", spec := "treeDecompOrderWidth", unfollowed := true, recurses := true, named := ["math/bits.deBruijn64tab"], plainKeys := false, apart := false, laid := [("math/bits.deBruijn64tab", laid_math_bits_deBruijn64tab)] }
def TreeDecompOrderWidthSaid : Prop := treeDecompOrderWidthRow.holds Tryz.pinned (OpenSpec.ofChange treeDecompOrderWidthSpec)

/-- ITS FALSE NEIGHBOUR: 'it returns false'. Refute it at one input. -/
def treeDecompOrderWidthWrong : ChangeSpec := { name := "treeDecompOrderWidth", fn := fun _ => fun
  | [d1, d2] => { results := [.lit (.bool false)], args := [d1, d2] }
  | _ => none }
def TreeDecompOrderWidthWrongFalsely : Prop := treeDecompOrderWidthRow.holds Tryz.pinned (OpenSpec.ofChange treeDecompOrderWidthWrong)

/-- 'palmettelaw26.TreeDecompTransform': WHATEVER THE INPUT: true; the input reads as it did. -/
def treeDecompTransformSpec : ChangeSpec := { name := "treeDecompTransform", fn := fun _ => fun
  | [d1, d2, d3] => { results := [.lit (.bool true)], args := [d1, d2, d3] }
  | _ => none }
def treeDecompTransformRow : OpenClaim := { program := "ytpflnkedolmamaagreatdoor", sum := "99f9064854f2efc0251f8c83cb97a81866e2b32c330ee26e5b9ef1f028761066", func := "palmette/palmettelaw26.TreeDecompTransform", spec := "treeDecompTransform", unfollowed := true, recurses := true, named := ["math/bits.deBruijn64tab"], plainKeys := false, apart := false, laid := [("math/bits.deBruijn64tab", laid_math_bits_deBruijn64tab)] }
def TreeDecompTransformSaid : Prop := treeDecompTransformRow.holds Tryz.pinned (OpenSpec.ofChange treeDecompTransformSpec)

/-- ITS FALSE NEIGHBOUR: 'it returns false'. Refute it at one input. -/
def treeDecompTransformWrong : ChangeSpec := { name := "treeDecompTransform", fn := fun _ => fun
  | [d1, d2, d3] => { results := [.lit (.bool false)], args := [d1, d2, d3] }
  | _ => none }
def TreeDecompTransformWrongFalsely : Prop := treeDecompTransformRow.holds Tryz.pinned (OpenSpec.ofChange treeDecompTransformWrong)

/-- 'palmettelaw26.TreeDecompFormatParse': WHATEVER THE INPUT: true; the input reads as it did. -/
def treeDecompFormatParseSpec : ChangeSpec := { name := "treeDecompFormatParse", fn := fun _ => fun
  | [d1, d2] => { results := [.lit (.bool true)], args := [d1, d2] }
  | _ => none }
def treeDecompFormatParseRow : OpenClaim := { program := "ytpflnkedolmamaagreatdoor", sum := "99f9064854f2efc0251f8c83cb97a81866e2b32c330ee26e5b9ef1f028761066", func := "palmette/palmettelaw26.TreeDecompFormatParse", spec := "treeDecompFormatParse", inPlace := ["internal/abi.NoEscape", "internal/bytealg.MakeNoZero", "internal/bytealg.IndexByteString", "internal/bytealg.IndexString"], unfollowed := true, recurses := true, named := ["math/bits.deBruijn64tab", "internal/strconv.uint64pow10", "math/bits.deBruijn32tab", "internal/bytealg.MaxLen", "strconv.ErrSyntax", "strconv.ErrRange", "unicode/utf8.first", "unicode/utf8.acceptRanges"], plainKeys := false, apart := false, laid := [("math/bits.deBruijn32tab", laid_math_bits_deBruijn32tab), ("math/bits.deBruijn64tab", laid_math_bits_deBruijn64tab), ("internal/strconv.uint64pow10", laid_internal_strconv_uint64pow10), ("unicode/utf8.acceptRanges", laid_unicode_utf8_acceptRanges), ("strconv.ErrRange", laid_strconv_ErrRange), ("strconv.ErrSyntax", laid_strconv_ErrSyntax), ("unicode/utf8.first", laid_unicode_utf8_first)] }
def TreeDecompFormatParseSaid : Prop := treeDecompFormatParseRow.holds Tryz.pinned (OpenSpec.ofChange treeDecompFormatParseSpec)

/-- ITS FALSE NEIGHBOUR: 'it returns false'. Refute it at one input. -/
def treeDecompFormatParseWrong : ChangeSpec := { name := "treeDecompFormatParse", fn := fun _ => fun
  | [d1, d2] => { results := [.lit (.bool false)], args := [d1, d2] }
  | _ => none }
def TreeDecompFormatParseWrongFalsely : Prop := treeDecompFormatParseRow.holds Tryz.pinned (OpenSpec.ofChange treeDecompFormatParseWrong)

/- THE SECOND FORM. 'bulk': how many values and letters a reading holds, each counted each time it is reached (what is shared counts as often as it is met; a slice's spare places count too). A statement '..UptoSaid' is the law's where the arguments, and the package variables that the reading takes, are together of bulk at most 1048576: NARROWER than '..Said'. Prove '..Said' where nothing that the law and all that it calls make is longer than what came in: it says more and counts as full. Else prove '..UptoSaid'. A law counts once. -/
mutual
def uptoBulk {H : Type} : DataW H → Nat
  | .lit (.string bytes) => bytes.length + 1
  | .lit _ => 1
  | .nil => 1
  | .ptr d => uptoBulk d + 1
  | .slice elems spare => uptoBulkAll elems + uptoBulkAll spare + 1
  | .agg parts => uptoBulkAll parts + 1
  | .iface _ d => uptoBulk d + 1
  | .map entries => uptoBulkEntries entries + 1
  | .held _ => 1
def uptoBulkAll {H : Type} : List (DataW H) → Nat
  | [] => 0
  | d :: r => uptoBulk d + uptoBulkAll r
def uptoBulkEntries {H : Type} : List (Lit × DataW H) → Nat
  | [] => 0
  | x :: r => uptoBulkEntry x + uptoBulkEntries r
def uptoBulkEntry {H : Type} : Lit × DataW H → Nat
  | (.string bytes, d) => bytes.length + uptoBulk d + 1
  | (_, d) => uptoBulk d + 1
 end
def uptoSmall : (H : Type) → List (DataW H) → Bool := fun _ ds => decide (uptoBulkAll ds ≤ 1048576)
def OpenSpec.upto (s : _root_.Go.ChangeSpec) : _root_.Go.OpenSpec := { _root_.Go.OpenSpec.ofChange s with cond := some uptoSmall }

/-- 'palmettelaw26.TreeDecompEqualClone', WHERE WHAT IT READS IS OF BULK AT MOST 1048576: true; the input reads as it did. -/
def treeDecompEqualCloneUptoRow : OpenClaim := { program := "ytpflnkedolmamaagreatdoor", sum := "99f9064854f2efc0251f8c83cb97a81866e2b32c330ee26e5b9ef1f028761066", func := "palmette/palmettelaw26.TreeDecompEqualClone", spec := "treeDecompEqualClone", unfollowed := true, recurses := true, named := ["math/bits.deBruijn64tab"], plainKeys := false, apart := false, laid := [("math/bits.deBruijn64tab", laid_math_bits_deBruijn64tab)], narrowed := true }
def TreeDecompEqualCloneUptoSaid : Prop := treeDecompEqualCloneUptoRow.holds Tryz.pinned (OpenSpec.upto treeDecompEqualCloneSpec)

/-- 'palmettelaw26.TreeDecompFromOrder', WHERE WHAT IT READS IS OF BULK AT MOST 1048576: true; the input reads as it did. -/
def treeDecompFromOrderUptoRow : OpenClaim := { program := "ytpflnkedolmamaagreatdoor", sum := "99f9064854f2efc0251f8c83cb97a81866e2b32c330ee26e5b9ef1f028761066", func := "palmette/palmettelaw26.TreeDecompFromOrder", spec := "treeDecompFromOrder", unfollowed := true, recurses := true, named := ["math/bits.deBruijn64tab"], plainKeys := false, apart := false, laid := [("math/bits.deBruijn64tab", laid_math_bits_deBruijn64tab)], narrowed := true }
def TreeDecompFromOrderUptoSaid : Prop := treeDecompFromOrderUptoRow.holds Tryz.pinned (OpenSpec.upto treeDecompFromOrderSpec)

/-- 'palmettelaw26.TreeDecompReduced', WHERE WHAT IT READS IS OF BULK AT MOST 1048576: true; the input reads as it did. -/
def treeDecompReducedUptoRow : OpenClaim := { program := "ytpflnkedolmamaagreatdoor", sum := "99f9064854f2efc0251f8c83cb97a81866e2b32c330ee26e5b9ef1f028761066", func := "palmette/palmettelaw26.TreeDecompReduced", spec := "treeDecompReduced", unfollowed := true, recurses := true, named := ["math/bits.deBruijn64tab"], plainKeys := false, apart := false, laid := [("math/bits.deBruijn64tab", laid_math_bits_deBruijn64tab)], narrowed := true }
def TreeDecompReducedUptoSaid : Prop := treeDecompReducedUptoRow.holds Tryz.pinned (OpenSpec.upto treeDecompReducedSpec)

/-- 'palmettelaw26.TreeDecompRerooted', WHERE WHAT IT READS IS OF BULK AT MOST 1048576: true; the input reads as it did. -/
def treeDecompRerootedUptoRow : OpenClaim := { program := "ytpflnkedolmamaagreatdoor", sum := "99f9064854f2efc0251f8c83cb97a81866e2b32c330ee26e5b9ef1f028761066", func := "palmette/palmettelaw26.TreeDecompRerooted", spec := "treeDecompRerooted", unfollowed := true, recurses := true, named := ["math/bits.deBruijn64tab"], plainKeys := false, apart := false, laid := [("math/bits.deBruijn64tab", laid_math_bits_deBruijn64tab)], narrowed := true }
def TreeDecompRerootedUptoSaid : Prop := treeDecompRerootedUptoRow.holds Tryz.pinned (OpenSpec.upto treeDecompRerootedSpec)

/-- 'palmettelaw26.TreeDecompCheck', WHERE WHAT IT READS IS OF BULK AT MOST 1048576: true; the input reads as it did. -/
def treeDecompCheckUptoRow : OpenClaim := { program := "ytpflnkedolmamaagreatdoor", sum := "99f9064854f2efc0251f8c83cb97a81866e2b32c330ee26e5b9ef1f028761066", func := "palmette/palmettelaw26.TreeDecompCheck", spec := "treeDecompCheck", unfollowed := true, recurses := true, named := ["math/bits.deBruijn64tab"], plainKeys := false, apart := false, laid := [("math/bits.deBruijn64tab", laid_math_bits_deBruijn64tab)], narrowed := true }
def TreeDecompCheckUptoSaid : Prop := treeDecompCheckUptoRow.holds Tryz.pinned (OpenSpec.upto treeDecompCheckSpec)

/-- 'palmettelaw26.TreeDecompRestricted', WHERE WHAT IT READS IS OF BULK AT MOST 1048576: true; the input reads as it did. -/
def treeDecompRestrictedUptoRow : OpenClaim := { program := "ytpflnkedolmamaagreatdoor", sum := "99f9064854f2efc0251f8c83cb97a81866e2b32c330ee26e5b9ef1f028761066", func := "palmette/palmettelaw26.TreeDecompRestricted", spec := "treeDecompRestricted", unfollowed := true, recurses := true, named := ["math/bits.deBruijn64tab"], plainKeys := false, apart := false, laid := [("math/bits.deBruijn64tab", laid_math_bits_deBruijn64tab)], narrowed := true }
def TreeDecompRestrictedUptoSaid : Prop := treeDecompRestrictedUptoRow.holds Tryz.pinned (OpenSpec.upto treeDecompRestrictedSpec)

/-- 'palmettelaw26.TreeDecompOrderWidth', WHERE WHAT IT READS IS OF BULK AT MOST 1048576: true; the input reads as it did. -/
def treeDecompOrderWidthUptoRow : OpenClaim := { program := "ytpflnkedolmamaagreatdoor", sum := "99f9064854f2efc0251f8c83cb97a81866e2b32c330ee26e5b9ef1f028761066", func := "palmette/palmettelaw26.TreeDecompOrderWidth", spec := "treeDecompOrderWidth", unfollowed := true, recurses := true, named := ["math/bits.deBruijn64tab"], plainKeys := false, apart := false, laid := [("math/bits.deBruijn64tab", laid_math_bits_deBruijn64tab)], narrowed := true }
def TreeDecompOrderWidthUptoSaid : Prop := treeDecompOrderWidthUptoRow.holds Tryz.pinned (OpenSpec.upto treeDecompOrderWidthSpec)

/-- 'palmettelaw26.TreeDecompTransform', WHERE WHAT IT READS IS OF BULK AT MOST 1048576: true; the input reads as it did. -/
def treeDecompTransformUptoRow : OpenClaim := { program := "ytpflnkedolmamaagreatdoor", sum := "99f9064854f2efc0251f8c83cb97a81866e2b32c330ee26e5b9ef1f028761066", func := "palmette/palmettelaw26.TreeDecompTransform", spec := "treeDecompTransform", unfollowed := true, recurses := true, named := ["math/bits.deBruijn64tab"], plainKeys := false, apart := false, laid := [("math/bits.deBruijn64tab", laid_math_bits_deBruijn64tab)], narrowed := true }
def TreeDecompTransformUptoSaid : Prop := treeDecompTransformUptoRow.holds Tryz.pinned (OpenSpec.upto treeDecompTransformSpec)

/-- 'palmettelaw26.TreeDecompFormatParse', WHERE WHAT IT READS IS OF BULK AT MOST 1048576: true; the input reads as it did. -/
def treeDecompFormatParseUptoRow : OpenClaim := { program := "ytpflnkedolmamaagreatdoor", sum := "99f9064854f2efc0251f8c83cb97a81866e2b32c330ee26e5b9ef1f028761066", func := "palmette/palmettelaw26.TreeDecompFormatParse", spec := "treeDecompFormatParse", inPlace := ["internal/abi.NoEscape", "internal/bytealg.MakeNoZero", "internal/bytealg.IndexByteString", "internal/bytealg.IndexString"], unfollowed := true, recurses := true, named := ["math/bits.deBruijn64tab", "internal/strconv.uint64pow10", "math/bits.deBruijn32tab", "internal/bytealg.MaxLen", "strconv.ErrSyntax", "strconv.ErrRange", "unicode/utf8.first", "unicode/utf8.acceptRanges"], plainKeys := false, apart := false, laid := [("math/bits.deBruijn32tab", laid_math_bits_deBruijn32tab), ("math/bits.deBruijn64tab", laid_math_bits_deBruijn64tab), ("internal/strconv.uint64pow10", laid_internal_strconv_uint64pow10), ("unicode/utf8.acceptRanges", laid_unicode_utf8_acceptRanges), ("strconv.ErrRange", laid_strconv_ErrRange), ("strconv.ErrSyntax", laid_strconv_ErrSyntax), ("unicode/utf8.first", laid_unicode_utf8_first)], narrowed := true }
def TreeDecompFormatParseUptoSaid : Prop := treeDecompFormatParseUptoRow.holds Tryz.pinned (OpenSpec.upto treeDecompFormatParseSpec)

end Rows
end Go.Proofs.YtpflnkedolmamaaGreatDoor
