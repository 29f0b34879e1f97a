/-
  NARROWER THAN 'FOR EVERY INPUT', by the rows' own cells (each row's printed sentence says how): PagePacks: laid · PageReads: laid · PageFaults: laid · PageBack: laid · PageOneForm: laid · PageBits: laid · PageOwn: laid.
  DERIVED. THE GIVEN ROWS OF THIS SEAT. 7 by the template 'for every input the law returns true; each argument reads behind the call as it read before'; 0 by the template 'total and deterministic' (their statements: YtnkdonpammdldaaDoorTotals.lean).
  GIVEN WITH THE SEED: the statements are not yours to turn. If you find one false, say at which input.
  Laid BY PROGRAM, IN A SANDBOX (cutbox-rows.mjs): the forced cells as the released guide's own fill.sh prints them over the translation 941f8879f90e3eaf… (all of the seat's roots in one cut). By AI agents, Wed Nov 11 2026. No macro, syntax, notation, axiom, sorry.
-/
import Derived.Test.YtnkdonpammdldaaDoorChecked
import GoSem.Claim
import GoSem.ClaimJoined
import GoSem.ClaimMapViews
import Derived.JoinedTies
import Derived.KernelRfl
namespace Go.Proofs.YtnkdonpammdldaaDoor
/- THE CELL 'sum', in the pinned program and in every row, IS THE sha256 OF THE DUMP (.gsa) THAT YtnkdonpammdldaaDoorProg.lean LOADS. Nothing in Lean hashes anything: it is a label: what it is worth is what the hold of that sum in a sandbox is worth. -/
noncomputable def Tryd.pinned : Pinned := { name := "ytnkdonpammdldaadoor", sum := "941f8879f90e3eaf31fc83bb71abb3091f7eb006a1ae94e04c5ca547e44af334", checked := Tryd.checked }
namespace Rows
def none {H : Type} : Left H := { results := [], args := [] }

/- WHAT THE LISTED PACKAGE-LEVEL VARIABLES READ AS WHEN THE CALL BEGINS. Each datum BY PROGRAM (the guide's laid-datum.mjs) off the statement by which the dump's own 'gosem.cut.vars' lays the variable. In a bare row this is a premise. The card (YtnkdonpammdldaaDoorCards.lean) ties it to the program's text. -/
def laid_quota_field_nibbles {H : Type} : DataW H := .agg [.lit (.int .u32 0), .lit (.int .u32 498536548), .lit (.int .u32 997073096), .lit (.int .u32 651767980), .lit (.int .u32 1994146192), .lit (.int .u32 1802195444), .lit (.int .u32 1303535960), .lit (.int .u32 1342533948), .lit (.int .u32 3988292384), .lit (.int .u32 4027552580), .lit (.int .u32 3604390888), .lit (.int .u32 3412177804), .lit (.int .u32 2607071920), .lit (.int .u32 2262029012), .lit (.int .u32 2685067896), .lit (.int .u32 3183342108)]
def laid_quota_page_headSizes {H : Type} : DataW H := .slice [.lit (.int .i64 1), .lit (.int .i64 1), .lit (.int .i64 2), .lit (.int .i64 2), .lit (.int .i64 2), .lit (.int .i64 4)] []
def laid_quota_page_counterSizes {H : Type} : DataW H := .slice [.lit (.int .i64 4), .lit (.int .i64 4), .lit (.int .i64 8), .lit (.int .i64 8), .lit (.int .i64 8)] []
def laid_quota_page_groupSizes {H : Type} : DataW H := .slice [.lit (.int .i64 4), .lit (.int .i64 8)] []
def laid_quota_quotalaw07_markCounter {H : Type} : DataW H := .agg [.lit (.int .i64 (-71)), .lit (.int .i64 (-72)), .agg [.lit (.int .i64 0), .lit (.int .i64 0)], .lit (.int .i64 73)]
def laid_quota_quotalaw07_markGroup {H : Type} : DataW H := .agg [.lit (.int .i64 (-74)), .lit (.int .i64 75)]

/-- 'quotalaw07.PagePacks': WHATEVER THE INPUT: true; the input reads as it did. -/
def pagePacksSpec : ChangeSpec := { name := "pagePacks", fn := fun _ => fun
  | [d] => { results := [.lit (.bool true)], args := [d] }
  | _ => none }
def pagePacksRow : OpenClaim := { program := "ytnkdonpammdldaadoor", sum := "941f8879f90e3eaf31fc83bb71abb3091f7eb006a1ae94e04c5ca547e44af334", func := "quota/quotalaw07.PagePacks", spec := "pagePacks", unfollowed := true, recurses := true, named := ["quota/page.headSizes", "quota/page.counterSizes", "quota/page.groupSizes", "quota/field.nibbles", "quota/quotalaw07.markCounter", "quota/quotalaw07.markGroup"], apart := false, laid := [("quota/field.nibbles", laid_quota_field_nibbles), ("quota/page.headSizes", laid_quota_page_headSizes), ("quota/page.counterSizes", laid_quota_page_counterSizes), ("quota/page.groupSizes", laid_quota_page_groupSizes), ("quota/quotalaw07.markCounter", laid_quota_quotalaw07_markCounter), ("quota/quotalaw07.markGroup", laid_quota_quotalaw07_markGroup)] }
def PagePacksSaid : Prop := pagePacksRow.holds Tryd.pinned (OpenSpec.ofChange pagePacksSpec)

/-- ITS FALSE NEIGHBOUR: 'it returns false'. Refute it at one input. -/
def pagePacksWrong : ChangeSpec := { name := "pagePacks", fn := fun _ => fun
  | [d] => { results := [.lit (.bool false)], args := [d] }
  | _ => none }
def PagePacksWrongFalsely : Prop := pagePacksRow.holds Tryd.pinned (OpenSpec.ofChange pagePacksWrong)

/-- 'quotalaw07.PageReads': WHATEVER THE INPUT: true; the input reads as it did. -/
def pageReadsSpec : ChangeSpec := { name := "pageReads", fn := fun _ => fun
  | [d1, d2] => { results := [.lit (.bool true)], args := [d1, d2] }
  | _ => none }
def pageReadsRow : OpenClaim := { program := "ytnkdonpammdldaadoor", sum := "941f8879f90e3eaf31fc83bb71abb3091f7eb006a1ae94e04c5ca547e44af334", func := "quota/quotalaw07.PageReads", spec := "pageReads", unfollowed := true, recurses := true, named := ["quota/page.headSizes", "quota/page.counterSizes", "quota/page.groupSizes", "quota/field.nibbles"], apart := false, laid := [("quota/field.nibbles", laid_quota_field_nibbles), ("quota/page.headSizes", laid_quota_page_headSizes), ("quota/page.counterSizes", laid_quota_page_counterSizes), ("quota/page.groupSizes", laid_quota_page_groupSizes)] }
def PageReadsSaid : Prop := pageReadsRow.holds Tryd.pinned (OpenSpec.ofChange pageReadsSpec)

/-- ITS FALSE NEIGHBOUR: 'it returns false'. Refute it at one input. -/
def pageReadsWrong : ChangeSpec := { name := "pageReads", fn := fun _ => fun
  | [d1, d2] => { results := [.lit (.bool false)], args := [d1, d2] }
  | _ => none }
def PageReadsWrongFalsely : Prop := pageReadsRow.holds Tryd.pinned (OpenSpec.ofChange pageReadsWrong)

/-- 'quotalaw07.PageFaults': WHATEVER THE INPUT: true; the input reads as it did. -/
def pageFaultsSpec : ChangeSpec := { name := "pageFaults", fn := fun _ => fun
  | [d1, d2] => { results := [.lit (.bool true)], args := [d1, d2] }
  | _ => none }
def pageFaultsRow : OpenClaim := { program := "ytnkdonpammdldaadoor", sum := "941f8879f90e3eaf31fc83bb71abb3091f7eb006a1ae94e04c5ca547e44af334", func := "quota/quotalaw07.PageFaults", spec := "pageFaults", unfollowed := true, recurses := true, named := ["quota/page.headSizes", "quota/page.counterSizes", "quota/page.groupSizes", "quota/field.nibbles"], apart := false, laid := [("quota/field.nibbles", laid_quota_field_nibbles), ("quota/page.headSizes", laid_quota_page_headSizes), ("quota/page.counterSizes", laid_quota_page_counterSizes), ("quota/page.groupSizes", laid_quota_page_groupSizes)] }
def PageFaultsSaid : Prop := pageFaultsRow.holds Tryd.pinned (OpenSpec.ofChange pageFaultsSpec)

/-- ITS FALSE NEIGHBOUR: 'it returns false'. Refute it at one input. -/
def pageFaultsWrong : ChangeSpec := { name := "pageFaults", fn := fun _ => fun
  | [d1, d2] => { results := [.lit (.bool false)], args := [d1, d2] }
  | _ => none }
def PageFaultsWrongFalsely : Prop := pageFaultsRow.holds Tryd.pinned (OpenSpec.ofChange pageFaultsWrong)

/-- 'quotalaw07.PageBack': WHATEVER THE INPUT: true; the input reads as it did. -/
def pageBackSpec : ChangeSpec := { name := "pageBack", fn := fun _ => fun
  | [d1, d2] => { results := [.lit (.bool true)], args := [d1, d2] }
  | _ => none }
def pageBackRow : OpenClaim := { program := "ytnkdonpammdldaadoor", sum := "941f8879f90e3eaf31fc83bb71abb3091f7eb006a1ae94e04c5ca547e44af334", func := "quota/quotalaw07.PageBack", spec := "pageBack", unfollowed := true, recurses := true, named := ["quota/page.headSizes", "quota/page.counterSizes", "quota/page.groupSizes", "quota/field.nibbles"], apart := false, laid := [("quota/field.nibbles", laid_quota_field_nibbles), ("quota/page.headSizes", laid_quota_page_headSizes), ("quota/page.counterSizes", laid_quota_page_counterSizes), ("quota/page.groupSizes", laid_quota_page_groupSizes)] }
def PageBackSaid : Prop := pageBackRow.holds Tryd.pinned (OpenSpec.ofChange pageBackSpec)

/-- ITS FALSE NEIGHBOUR: 'it returns false'. Refute it at one input. -/
def pageBackWrong : ChangeSpec := { name := "pageBack", fn := fun _ => fun
  | [d1, d2] => { results := [.lit (.bool false)], args := [d1, d2] }
  | _ => none }
def PageBackWrongFalsely : Prop := pageBackRow.holds Tryd.pinned (OpenSpec.ofChange pageBackWrong)

/-- 'quotalaw07.PageOneForm': WHATEVER THE INPUT: true; the input reads as it did. -/
def pageOneFormSpec : ChangeSpec := { name := "pageOneForm", fn := fun _ => fun
  | [d1, d2] => { results := [.lit (.bool true)], args := [d1, d2] }
  | _ => none }
def pageOneFormRow : OpenClaim := { program := "ytnkdonpammdldaadoor", sum := "941f8879f90e3eaf31fc83bb71abb3091f7eb006a1ae94e04c5ca547e44af334", func := "quota/quotalaw07.PageOneForm", spec := "pageOneForm", unfollowed := true, recurses := true, named := ["quota/page.headSizes", "quota/page.counterSizes", "quota/page.groupSizes", "quota/field.nibbles"], apart := false, laid := [("quota/field.nibbles", laid_quota_field_nibbles), ("quota/page.headSizes", laid_quota_page_headSizes), ("quota/page.counterSizes", laid_quota_page_counterSizes), ("quota/page.groupSizes", laid_quota_page_groupSizes)] }
def PageOneFormSaid : Prop := pageOneFormRow.holds Tryd.pinned (OpenSpec.ofChange pageOneFormSpec)

/-- ITS FALSE NEIGHBOUR: 'it returns false'. Refute it at one input. -/
def pageOneFormWrong : ChangeSpec := { name := "pageOneForm", fn := fun _ => fun
  | [d1, d2] => { results := [.lit (.bool false)], args := [d1, d2] }
  | _ => none }
def PageOneFormWrongFalsely : Prop := pageOneFormRow.holds Tryd.pinned (OpenSpec.ofChange pageOneFormWrong)

/-- 'quotalaw07.PageBits': WHATEVER THE INPUT: true; the input reads as it did. -/
def pageBitsSpec : ChangeSpec := { name := "pageBits", fn := fun _ => fun
  | [d1, d2, d3] => { results := [.lit (.bool true)], args := [d1, d2, d3] }
  | _ => none }
def pageBitsRow : OpenClaim := { program := "ytnkdonpammdldaadoor", sum := "941f8879f90e3eaf31fc83bb71abb3091f7eb006a1ae94e04c5ca547e44af334", func := "quota/quotalaw07.PageBits", spec := "pageBits", unfollowed := true, recurses := true, named := ["quota/page.headSizes", "quota/page.counterSizes", "quota/page.groupSizes", "quota/field.nibbles"], apart := false, laid := [("quota/field.nibbles", laid_quota_field_nibbles), ("quota/page.headSizes", laid_quota_page_headSizes), ("quota/page.counterSizes", laid_quota_page_counterSizes), ("quota/page.groupSizes", laid_quota_page_groupSizes)] }
def PageBitsSaid : Prop := pageBitsRow.holds Tryd.pinned (OpenSpec.ofChange pageBitsSpec)

/-- ITS FALSE NEIGHBOUR: 'it returns false'. Refute it at one input. -/
def pageBitsWrong : ChangeSpec := { name := "pageBits", fn := fun _ => fun
  | [d1, d2, d3] => { results := [.lit (.bool false)], args := [d1, d2, d3] }
  | _ => none }
def PageBitsWrongFalsely : Prop := pageBitsRow.holds Tryd.pinned (OpenSpec.ofChange pageBitsWrong)

/-- 'quotalaw07.PageOwn': WHATEVER THE INPUT: true; the input reads as it did. -/
def pageOwnSpec : ChangeSpec := { name := "pageOwn", fn := fun _ => fun
  | [d1, d2] => { results := [.lit (.bool true)], args := [d1, d2] }
  | _ => none }
def pageOwnRow : OpenClaim := { program := "ytnkdonpammdldaadoor", sum := "941f8879f90e3eaf31fc83bb71abb3091f7eb006a1ae94e04c5ca547e44af334", func := "quota/quotalaw07.PageOwn", spec := "pageOwn", unfollowed := true, recurses := true, named := ["quota/page.headSizes", "quota/page.counterSizes", "quota/page.groupSizes", "quota/field.nibbles"], apart := false, laid := [("quota/field.nibbles", laid_quota_field_nibbles), ("quota/page.headSizes", laid_quota_page_headSizes), ("quota/page.counterSizes", laid_quota_page_counterSizes), ("quota/page.groupSizes", laid_quota_page_groupSizes)] }
def PageOwnSaid : Prop := pageOwnRow.holds Tryd.pinned (OpenSpec.ofChange pageOwnSpec)

/-- ITS FALSE NEIGHBOUR: 'it returns false'. Refute it at one input. -/
def pageOwnWrong : ChangeSpec := { name := "pageOwn", fn := fun _ => fun
  | [d1, d2] => { results := [.lit (.bool false)], args := [d1, d2] }
  | _ => none }
def PageOwnWrongFalsely : Prop := pageOwnRow.holds Tryd.pinned (OpenSpec.ofChange pageOwnWrong)

/- THE SECOND FORM. 'bulk': how many values and letters a reading holds, each counted each time it is reached (what is shared counts as often as it is met; a slice's spare places count too). A statement '..UptoSaid' is the law's where the arguments, and the package variables that the reading takes, are together of bulk at most 1048576: NARROWER than '..Said'. Prove '..Said' where nothing that the law and all that it calls make is longer than what came in: it says more and counts as full. Else prove '..UptoSaid'. A law counts once. -/
mutual
def uptoBulk {H : Type} : DataW H → Nat
  | .lit (.string bytes) => bytes.length + 1
  | .lit _ => 1
  | .nil => 1
  | .ptr d => uptoBulk d + 1
  | .slice elems spare => uptoBulkAll elems + uptoBulkAll spare + 1
  | .agg parts => uptoBulkAll parts + 1
  | .iface _ d => uptoBulk d + 1
  | .map entries => uptoBulkEntries entries + 1
  | .held _ => 1
def uptoBulkAll {H : Type} : List (DataW H) → Nat
  | [] => 0
  | d :: r => uptoBulk d + uptoBulkAll r
def uptoBulkEntries {H : Type} : List (Lit × DataW H) → Nat
  | [] => 0
  | x :: r => uptoBulkEntry x + uptoBulkEntries r
def uptoBulkEntry {H : Type} : Lit × DataW H → Nat
  | (.string bytes, d) => bytes.length + uptoBulk d + 1
  | (_, d) => uptoBulk d + 1
 end
def uptoSmall : (H : Type) → List (DataW H) → Bool := fun _ ds => decide (uptoBulkAll ds ≤ 1048576)
def OpenSpec.upto (s : _root_.Go.ChangeSpec) : _root_.Go.OpenSpec := { _root_.Go.OpenSpec.ofChange s with cond := some uptoSmall }

/-- 'quotalaw07.PagePacks', WHERE WHAT IT READS IS OF BULK AT MOST 1048576: true; the input reads as it did. -/
def pagePacksUptoRow : OpenClaim := { program := "ytnkdonpammdldaadoor", sum := "941f8879f90e3eaf31fc83bb71abb3091f7eb006a1ae94e04c5ca547e44af334", func := "quota/quotalaw07.PagePacks", spec := "pagePacks", unfollowed := true, recurses := true, named := ["quota/page.headSizes", "quota/page.counterSizes", "quota/page.groupSizes", "quota/field.nibbles", "quota/quotalaw07.markCounter", "quota/quotalaw07.markGroup"], apart := false, laid := [("quota/field.nibbles", laid_quota_field_nibbles), ("quota/page.headSizes", laid_quota_page_headSizes), ("quota/page.counterSizes", laid_quota_page_counterSizes), ("quota/page.groupSizes", laid_quota_page_groupSizes), ("quota/quotalaw07.markCounter", laid_quota_quotalaw07_markCounter), ("quota/quotalaw07.markGroup", laid_quota_quotalaw07_markGroup)], narrowed := true }
def PagePacksUptoSaid : Prop := pagePacksUptoRow.holds Tryd.pinned (OpenSpec.upto pagePacksSpec)

/-- 'quotalaw07.PageReads', WHERE WHAT IT READS IS OF BULK AT MOST 1048576: true; the input reads as it did. -/
def pageReadsUptoRow : OpenClaim := { program := "ytnkdonpammdldaadoor", sum := "941f8879f90e3eaf31fc83bb71abb3091f7eb006a1ae94e04c5ca547e44af334", func := "quota/quotalaw07.PageReads", spec := "pageReads", unfollowed := true, recurses := true, named := ["quota/page.headSizes", "quota/page.counterSizes", "quota/page.groupSizes", "quota/field.nibbles"], apart := false, laid := [("quota/field.nibbles", laid_quota_field_nibbles), ("quota/page.headSizes", laid_quota_page_headSizes), ("quota/page.counterSizes", laid_quota_page_counterSizes), ("quota/page.groupSizes", laid_quota_page_groupSizes)], narrowed := true }
def PageReadsUptoSaid : Prop := pageReadsUptoRow.holds Tryd.pinned (OpenSpec.upto pageReadsSpec)

/-- 'quotalaw07.PageFaults', WHERE WHAT IT READS IS OF BULK AT MOST 1048576: true; the input reads as it did. -/
def pageFaultsUptoRow : OpenClaim := { program := "ytnkdonpammdldaadoor", sum := "941f8879f90e3eaf31fc83bb71abb3091f7eb006a1ae94e04c5ca547e44af334", func := "quota/quotalaw07.PageFaults", spec := "pageFaults", unfollowed := true, recurses := true, named := ["quota/page.headSizes", "quota/page.counterSizes", "quota/page.groupSizes", "quota/field.nibbles"], apart := false, laid := [("quota/field.nibbles", laid_quota_field_nibbles), ("quota/page.headSizes", laid_quota_page_headSizes), ("quota/page.counterSizes", laid_quota_page_counterSizes), ("quota/page.groupSizes", laid_quota_page_groupSizes)], narrowed := true }
def PageFaultsUptoSaid : Prop := pageFaultsUptoRow.holds Tryd.pinned (OpenSpec.upto pageFaultsSpec)

/-- 'quotalaw07.PageBack', WHERE WHAT IT READS IS OF BULK AT MOST 1048576: true; the input reads as it did. -/
def pageBackUptoRow : OpenClaim := { program := "ytnkdonpammdldaadoor", sum := "941f8879f90e3eaf31fc83bb71abb3091f7eb006a1ae94e04c5ca547e44af334", func := "quota/quotalaw07.PageBack", spec := "pageBack", unfollowed := true, recurses := true, named := ["quota/page.headSizes", "quota/page.counterSizes", "quota/page.groupSizes", "quota/field.nibbles"], apart := false, laid := [("quota/field.nibbles", laid_quota_field_nibbles), ("quota/page.headSizes", laid_quota_page_headSizes), ("quota/page.counterSizes", laid_quota_page_counterSizes), ("quota/page.groupSizes", laid_quota_page_groupSizes)], narrowed := true }
def PageBackUptoSaid : Prop := pageBackUptoRow.holds Tryd.pinned (OpenSpec.upto pageBackSpec)

/-- 'quotalaw07.PageOneForm', WHERE WHAT IT READS IS OF BULK AT MOST 1048576: true; the input reads as it did. -/
def pageOneFormUptoRow : OpenClaim := { program := "ytnkdonpammdldaadoor", sum := "941f8879f90e3eaf31fc83bb71abb3091f7eb006a1ae94e04c5ca547e44af334", func := "quota/quotalaw07.PageOneForm", spec := "pageOneForm", unfollowed := true, recurses := true, named := ["quota/page.headSizes", "quota/page.counterSizes", "quota/page.groupSizes", "quota/field.nibbles"], apart := false, laid := [("quota/field.nibbles", laid_quota_field_nibbles), ("quota/page.headSizes", laid_quota_page_headSizes), ("quota/page.counterSizes", laid_quota_page_counterSizes), ("quota/page.groupSizes", laid_quota_page_groupSizes)], narrowed := true }
def PageOneFormUptoSaid : Prop := pageOneFormUptoRow.holds Tryd.pinned (OpenSpec.upto pageOneFormSpec)

/-- 'quotalaw07.PageBits', WHERE WHAT IT READS IS OF BULK AT MOST 1048576: true; the input reads as it did. -/
def pageBitsUptoRow : OpenClaim := { program := "ytnkdonpammdldaadoor", sum := "941f8879f90e3eaf31fc83bb71abb3091f7eb006a1ae94e04c5ca547e44af334", func := "quota/quotalaw07.PageBits", spec := "pageBits", unfollowed := true, recurses := true, named := ["quota/page.headSizes", "quota/page.counterSizes", "quota/page.groupSizes", "quota/field.nibbles"], apart := false, laid := [("quota/field.nibbles", laid_quota_field_nibbles), ("quota/page.headSizes", laid_quota_page_headSizes), ("quota/page.counterSizes", laid_quota_page_counterSizes), ("quota/page.groupSizes", laid_quota_page_groupSizes)], narrowed := true }
def PageBitsUptoSaid : Prop := pageBitsUptoRow.holds Tryd.pinned (OpenSpec.upto pageBitsSpec)

/-- 'quotalaw07.PageOwn', WHERE WHAT IT READS IS OF BULK AT MOST 1048576: true; the input reads as it did. -/
def pageOwnUptoRow : OpenClaim := { program := "ytnkdonpammdldaadoor", sum := "941f8879f90e3eaf31fc83bb71abb3091f7eb006a1ae94e04c5ca547e44af334", func := "quota/quotalaw07.PageOwn", spec := "pageOwn", unfollowed := true, recurses := true, named := ["quota/page.headSizes", "quota/page.counterSizes", "quota/page.groupSizes", "quota/field.nibbles"], apart := false, laid := [("quota/field.nibbles", laid_quota_field_nibbles), ("quota/page.headSizes", laid_quota_page_headSizes), ("quota/page.counterSizes", laid_quota_page_counterSizes), ("quota/page.groupSizes", laid_quota_page_groupSizes)], narrowed := true }
def PageOwnUptoSaid : Prop := pageOwnUptoRow.holds Tryd.pinned (OpenSpec.upto pageOwnSpec)

end Rows
end Go.Proofs.YtnkdonpammdldaaDoor
