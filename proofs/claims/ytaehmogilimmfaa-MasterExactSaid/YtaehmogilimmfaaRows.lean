/-
  No cell of these rows narrows 'for every input' (looked for: loops, veiled, ifaces, maps, wideKeys, modest, calm, conditions, laid).
  DERIVED. THE GIVEN ROWS OF THIS SEAT. 5 by the template 'for every input the law returns true; each argument reads behind the call as it read before'; 0 by the template 'total and deterministic' (their statements: YtaehmogilimmfaaTotals.lean).
  GIVEN WITH THE SEED: the statements are not yours to turn. If you find one false, say at which input.
  Laid BY PROGRAM, IN A SANDBOX (cutbox-rows.mjs): the forced cells as the released guide's own fill.sh prints them over the translation 8242cea3a37f73b5… (all of the seat's roots in one cut). By AI agents, Wed Nov 11 2026. No macro, syntax, notation, axiom, sorry.
-/
import Derived.Test.YtaehmogilimmfaaChecked
import GoSem.Claim
import GoSem.ClaimJoined
import GoSem.ClaimMapViews
import Derived.JoinedTies
import Derived.KernelRfl
namespace Go.Proofs.Ytaehmogilimmfaa
/- THE CELL 'sum', in the pinned program and in every row, IS THE sha256 OF THE DUMP (.gsa) THAT YtaehmogilimmfaaProg.lean LOADS. Nothing in Lean hashes anything: it is a label: what it is worth is what the hold of that sum in a sandbox is worth. -/
noncomputable def Try.pinned : Pinned := { name := "ytaehmogilimmfaa", sum := "8242cea3a37f73b58209273de3390f275b07ccdf758e5915f404a28bfbbe3d2d", checked := Try.checked }
namespace Rows
def none {H : Type} : Left H := { results := [], args := [] }

/-- 'quotalaw04.MasterShapes': WHATEVER THE INPUT: true; the input reads as it did. -/
def masterShapesSpec : ChangeSpec := { name := "masterShapes", fn := fun _ => fun
  | [d1, d2] => { results := [.lit (.bool true)], args := [d1, d2] }
  | _ => none }
def masterShapesRow : OpenClaim := { program := "ytaehmogilimmfaa", sum := "8242cea3a37f73b58209273de3390f275b07ccdf758e5915f404a28bfbbe3d2d", func := "quota/quotalaw04.MasterShapes", spec := "masterShapes", unfollowed := true, recurses := true, apart := false }
def MasterShapesSaid : Prop := masterShapesRow.holds Try.pinned (OpenSpec.ofChange masterShapesSpec)

/-- ITS FALSE NEIGHBOUR: 'it returns false'. Refute it at one input. -/
def masterShapesWrong : ChangeSpec := { name := "masterShapes", fn := fun _ => fun
  | [d1, d2] => { results := [.lit (.bool false)], args := [d1, d2] }
  | _ => none }
def MasterShapesWrongFalsely : Prop := masterShapesRow.holds Try.pinned (OpenSpec.ofChange masterShapesWrong)

/-- 'quotalaw04.MasterLayout': WHATEVER THE INPUT: true; the input reads as it did. -/
def masterLayoutSpec : ChangeSpec := { name := "masterLayout", fn := fun _ => fun
  | [d] => { results := [.lit (.bool true)], args := [d] }
  | _ => none }
def masterLayoutRow : OpenClaim := { program := "ytaehmogilimmfaa", sum := "8242cea3a37f73b58209273de3390f275b07ccdf758e5915f404a28bfbbe3d2d", func := "quota/quotalaw04.MasterLayout", spec := "masterLayout", unfollowed := true, recurses := true, apart := false }
def MasterLayoutSaid : Prop := masterLayoutRow.holds Try.pinned (OpenSpec.ofChange masterLayoutSpec)

/-- ITS FALSE NEIGHBOUR: 'it returns false'. Refute it at one input. -/
def masterLayoutWrong : ChangeSpec := { name := "masterLayout", fn := fun _ => fun
  | [d] => { results := [.lit (.bool false)], args := [d] }
  | _ => none }
def MasterLayoutWrongFalsely : Prop := masterLayoutRow.holds Try.pinned (OpenSpec.ofChange masterLayoutWrong)

/-- 'quotalaw04.MasterApart': WHATEVER THE INPUT: true; the input reads as it did. -/
def masterApartSpec : ChangeSpec := { name := "masterApart", fn := fun _ => fun
  | [d1, d2, d3] => { results := [.lit (.bool true)], args := [d1, d2, d3] }
  | _ => none }
def masterApartRow : OpenClaim := { program := "ytaehmogilimmfaa", sum := "8242cea3a37f73b58209273de3390f275b07ccdf758e5915f404a28bfbbe3d2d", func := "quota/quotalaw04.MasterApart", spec := "masterApart", unfollowed := true, recurses := true, apart := false }
def MasterApartSaid : Prop := masterApartRow.holds Try.pinned (OpenSpec.ofChange masterApartSpec)

/-- ITS FALSE NEIGHBOUR: 'it returns false'. Refute it at one input. -/
def masterApartWrong : ChangeSpec := { name := "masterApart", fn := fun _ => fun
  | [d1, d2, d3] => { results := [.lit (.bool false)], args := [d1, d2, d3] }
  | _ => none }
def MasterApartWrongFalsely : Prop := masterApartRow.holds Try.pinned (OpenSpec.ofChange masterApartWrong)

/-- 'quotalaw04.MasterOne': WHATEVER THE INPUT: true; the input reads as it did. -/
def masterOneSpec : ChangeSpec := { name := "masterOne", fn := fun _ => fun
  | [d1, d2, d3, d4, d5, d6] => { results := [.lit (.bool true)], args := [d1, d2, d3, d4, d5, d6] }
  | _ => none }
def masterOneRow : OpenClaim := { program := "ytaehmogilimmfaa", sum := "8242cea3a37f73b58209273de3390f275b07ccdf758e5915f404a28bfbbe3d2d", func := "quota/quotalaw04.MasterOne", spec := "masterOne", unfollowed := true, recurses := true, apart := false }
def MasterOneSaid : Prop := masterOneRow.holds Try.pinned (OpenSpec.ofChange masterOneSpec)

/-- ITS FALSE NEIGHBOUR: 'it returns false'. Refute it at one input. -/
def masterOneWrong : ChangeSpec := { name := "masterOne", fn := fun _ => fun
  | [d1, d2, d3, d4, d5, d6] => { results := [.lit (.bool false)], args := [d1, d2, d3, d4, d5, d6] }
  | _ => none }
def MasterOneWrongFalsely : Prop := masterOneRow.holds Try.pinned (OpenSpec.ofChange masterOneWrong)

/-- 'quotalaw04.MasterExact': WHATEVER THE INPUT: true; the input reads as it did. -/
def masterExactSpec : ChangeSpec := { name := "masterExact", fn := fun _ => fun
  | [d1, d2] => { results := [.lit (.bool true)], args := [d1, d2] }
  | _ => none }
def masterExactRow : OpenClaim := { program := "ytaehmogilimmfaa", sum := "8242cea3a37f73b58209273de3390f275b07ccdf758e5915f404a28bfbbe3d2d", func := "quota/quotalaw04.MasterExact", spec := "masterExact", unfollowed := true, recurses := true, apart := false }
def MasterExactSaid : Prop := masterExactRow.holds Try.pinned (OpenSpec.ofChange masterExactSpec)

/-- ITS FALSE NEIGHBOUR: 'it returns false'. Refute it at one input. -/
def masterExactWrong : ChangeSpec := { name := "masterExact", fn := fun _ => fun
  | [d1, d2] => { results := [.lit (.bool false)], args := [d1, d2] }
  | _ => none }
def MasterExactWrongFalsely : Prop := masterExactRow.holds Try.pinned (OpenSpec.ofChange masterExactWrong)

/- THE SECOND FORM. 'bulk': how many values and letters a reading holds, each counted each time it is reached (what is shared counts as often as it is met; a slice's spare places count too). A statement '..UptoSaid' is the law's where the arguments, and the package variables that the reading takes, are together of bulk at most 1048576: NARROWER than '..Said'. Prove '..Said' where nothing that the law and all that it calls make is longer than what came in: it says more and counts as full. Else prove '..UptoSaid'. A law counts once. -/
mutual
def uptoBulk {H : Type} : DataW H → Nat
  | .lit (.string bytes) => bytes.length + 1
  | .lit _ => 1
  | .nil => 1
  | .ptr d => uptoBulk d + 1
  | .slice elems spare => uptoBulkAll elems + uptoBulkAll spare + 1
  | .agg parts => uptoBulkAll parts + 1
  | .iface _ d => uptoBulk d + 1
  | .map entries => uptoBulkEntries entries + 1
  | .held _ => 1
def uptoBulkAll {H : Type} : List (DataW H) → Nat
  | [] => 0
  | d :: r => uptoBulk d + uptoBulkAll r
def uptoBulkEntries {H : Type} : List (Lit × DataW H) → Nat
  | [] => 0
  | x :: r => uptoBulkEntry x + uptoBulkEntries r
def uptoBulkEntry {H : Type} : Lit × DataW H → Nat
  | (.string bytes, d) => bytes.length + uptoBulk d + 1
  | (_, d) => uptoBulk d + 1
 end
def uptoSmall : (H : Type) → List (DataW H) → Bool := fun _ ds => decide (uptoBulkAll ds ≤ 1048576)
def OpenSpec.upto (s : _root_.Go.ChangeSpec) : _root_.Go.OpenSpec := { _root_.Go.OpenSpec.ofChange s with cond := some uptoSmall }

/-- 'quotalaw04.MasterShapes', WHERE WHAT IT READS IS OF BULK AT MOST 1048576: true; the input reads as it did. -/
def masterShapesUptoRow : OpenClaim := { program := "ytaehmogilimmfaa", sum := "8242cea3a37f73b58209273de3390f275b07ccdf758e5915f404a28bfbbe3d2d", func := "quota/quotalaw04.MasterShapes", spec := "masterShapes", unfollowed := true, recurses := true, apart := false, narrowed := true }
def MasterShapesUptoSaid : Prop := masterShapesUptoRow.holds Try.pinned (OpenSpec.upto masterShapesSpec)

/-- 'quotalaw04.MasterLayout', WHERE WHAT IT READS IS OF BULK AT MOST 1048576: true; the input reads as it did. -/
def masterLayoutUptoRow : OpenClaim := { program := "ytaehmogilimmfaa", sum := "8242cea3a37f73b58209273de3390f275b07ccdf758e5915f404a28bfbbe3d2d", func := "quota/quotalaw04.MasterLayout", spec := "masterLayout", unfollowed := true, recurses := true, apart := false, narrowed := true }
def MasterLayoutUptoSaid : Prop := masterLayoutUptoRow.holds Try.pinned (OpenSpec.upto masterLayoutSpec)

/-- 'quotalaw04.MasterApart', WHERE WHAT IT READS IS OF BULK AT MOST 1048576: true; the input reads as it did. -/
def masterApartUptoRow : OpenClaim := { program := "ytaehmogilimmfaa", sum := "8242cea3a37f73b58209273de3390f275b07ccdf758e5915f404a28bfbbe3d2d", func := "quota/quotalaw04.MasterApart", spec := "masterApart", unfollowed := true, recurses := true, apart := false, narrowed := true }
def MasterApartUptoSaid : Prop := masterApartUptoRow.holds Try.pinned (OpenSpec.upto masterApartSpec)

/-- 'quotalaw04.MasterOne', WHERE WHAT IT READS IS OF BULK AT MOST 1048576: true; the input reads as it did. -/
def masterOneUptoRow : OpenClaim := { program := "ytaehmogilimmfaa", sum := "8242cea3a37f73b58209273de3390f275b07ccdf758e5915f404a28bfbbe3d2d", func := "quota/quotalaw04.MasterOne", spec := "masterOne", unfollowed := true, recurses := true, apart := false, narrowed := true }
def MasterOneUptoSaid : Prop := masterOneUptoRow.holds Try.pinned (OpenSpec.upto masterOneSpec)

/-- 'quotalaw04.MasterExact', WHERE WHAT IT READS IS OF BULK AT MOST 1048576: true; the input reads as it did. -/
def masterExactUptoRow : OpenClaim := { program := "ytaehmogilimmfaa", sum := "8242cea3a37f73b58209273de3390f275b07ccdf758e5915f404a28bfbbe3d2d", func := "quota/quotalaw04.MasterExact", spec := "masterExact", unfollowed := true, recurses := true, apart := false, narrowed := true }
def MasterExactUptoSaid : Prop := masterExactUptoRow.holds Try.pinned (OpenSpec.upto masterExactSpec)

end Rows
end Go.Proofs.Ytaehmogilimmfaa
