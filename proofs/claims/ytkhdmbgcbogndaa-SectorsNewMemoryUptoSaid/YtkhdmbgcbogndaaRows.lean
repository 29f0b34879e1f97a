/-
  No cell of these rows narrows 'for every input' (looked for: loops, veiled, ifaces, maps, wideKeys, modest, calm, conditions, laid).
  DERIVED. THE GIVEN ROWS OF THIS SEAT. 6 by the template 'for every input the law returns true; each argument reads behind the call as it read before'; 0 by the template 'total and deterministic' (their statements: YtkhdmbgcbogndaaTotals.lean).
  GIVEN WITH THE SEED: the statements are not yours to turn. If you find one false, say at which input.
  Laid BY PROGRAM, IN A SANDBOX (cutbox-rows.mjs): the forced cells as the released guide's own fill.sh prints them over the translation 72dece4c170b10c2… (all of the seat's roots in one cut). By AI agents, Wed Nov 11 2026. No macro, syntax, notation, axiom, sorry.
-/
import Derived.Test.YtkhdmbgcbogndaaChecked
import GoSem.Claim
import GoSem.ClaimJoined
import GoSem.ClaimMapViews
import Derived.JoinedTies
import Derived.KernelRfl
namespace Go.Proofs.Ytkhdmbgcbogndaa
/- THE CELL 'sum', in the pinned program and in every row, IS THE sha256 OF THE DUMP (.gsa) THAT YtkhdmbgcbogndaaProg.lean LOADS. Nothing in Lean hashes anything: it is a label: what it is worth is what the hold of that sum in a sandbox is worth. -/
noncomputable def Try.pinned : Pinned := { name := "ytkhdmbgcbogndaa", sum := "72dece4c170b10c26c5fe3c13e2ed67c0d5119ff0dd5372d06259b6fd3176e34", checked := Try.checked }
namespace Rows
def none {H : Type} : Left H := { results := [], args := [] }

/-- 'quotalaw03.SectorsNames': WHATEVER THE INPUT: true; the input reads as it did. -/
def sectorsNamesSpec : ChangeSpec := { name := "sectorsNames", fn := fun _ => fun
  | [] => { results := [.lit (.bool true)], args := [] }
  | _ => none }
def sectorsNamesRow : OpenClaim := { program := "ytkhdmbgcbogndaa", sum := "72dece4c170b10c26c5fe3c13e2ed67c0d5119ff0dd5372d06259b6fd3176e34", func := "quota/quotalaw03.SectorsNames", spec := "sectorsNames", unfollowed := true, recurses := true, apart := false }
def SectorsNamesSaid : Prop := sectorsNamesRow.holds Try.pinned (OpenSpec.ofChange sectorsNamesSpec)

/-- ITS FALSE NEIGHBOUR: 'it returns false'. Refute it at one input. -/
def sectorsNamesWrong : ChangeSpec := { name := "sectorsNames", fn := fun _ => fun
  | [] => { results := [.lit (.bool false)], args := [] }
  | _ => none }
def SectorsNamesWrongFalsely : Prop := sectorsNamesRow.holds Try.pinned (OpenSpec.ofChange sectorsNamesWrong)

/-- 'quotalaw03.SectorsSynced': WHATEVER THE INPUT: true; the input reads as it did. -/
def sectorsSyncedSpec : ChangeSpec := { name := "sectorsSynced", fn := fun _ => fun
  | [d1, d2, d3, d4] => { results := [.lit (.bool true)], args := [d1, d2, d3, d4] }
  | _ => none }
def sectorsSyncedRow : OpenClaim := { program := "ytkhdmbgcbogndaa", sum := "72dece4c170b10c26c5fe3c13e2ed67c0d5119ff0dd5372d06259b6fd3176e34", func := "quota/quotalaw03.SectorsSynced", spec := "sectorsSynced", unfollowed := true, recurses := true, apart := false }
def SectorsSyncedSaid : Prop := sectorsSyncedRow.holds Try.pinned (OpenSpec.ofChange sectorsSyncedSpec)

/-- ITS FALSE NEIGHBOUR: 'it returns false'. Refute it at one input. -/
def sectorsSyncedWrong : ChangeSpec := { name := "sectorsSynced", fn := fun _ => fun
  | [d1, d2, d3, d4] => { results := [.lit (.bool false)], args := [d1, d2, d3, d4] }
  | _ => none }
def SectorsSyncedWrongFalsely : Prop := sectorsSyncedRow.holds Try.pinned (OpenSpec.ofChange sectorsSyncedWrong)

/-- 'quotalaw03.SectorsArmed': WHATEVER THE INPUT: true; the input reads as it did. -/
def sectorsArmedSpec : ChangeSpec := { name := "sectorsArmed", fn := fun _ => fun
  | [d1, d2, d3, d4, d5] => { results := [.lit (.bool true)], args := [d1, d2, d3, d4, d5] }
  | _ => none }
def sectorsArmedRow : OpenClaim := { program := "ytkhdmbgcbogndaa", sum := "72dece4c170b10c26c5fe3c13e2ed67c0d5119ff0dd5372d06259b6fd3176e34", func := "quota/quotalaw03.SectorsArmed", spec := "sectorsArmed", unfollowed := true, recurses := true, apart := false }
def SectorsArmedSaid : Prop := sectorsArmedRow.holds Try.pinned (OpenSpec.ofChange sectorsArmedSpec)

/-- ITS FALSE NEIGHBOUR: 'it returns false'. Refute it at one input. -/
def sectorsArmedWrong : ChangeSpec := { name := "sectorsArmed", fn := fun _ => fun
  | [d1, d2, d3, d4, d5] => { results := [.lit (.bool false)], args := [d1, d2, d3, d4, d5] }
  | _ => none }
def SectorsArmedWrongFalsely : Prop := sectorsArmedRow.holds Try.pinned (OpenSpec.ofChange sectorsArmedWrong)

/-- 'quotalaw03.SectorsExact': WHATEVER THE INPUT: true; the input reads as it did. -/
def sectorsExactSpec : ChangeSpec := { name := "sectorsExact", fn := fun _ => fun
  | [d1, d2, d3] => { results := [.lit (.bool true)], args := [d1, d2, d3] }
  | _ => none }
def sectorsExactRow : OpenClaim := { program := "ytkhdmbgcbogndaa", sum := "72dece4c170b10c26c5fe3c13e2ed67c0d5119ff0dd5372d06259b6fd3176e34", func := "quota/quotalaw03.SectorsExact", spec := "sectorsExact", unfollowed := true, recurses := true, apart := false }
def SectorsExactSaid : Prop := sectorsExactRow.holds Try.pinned (OpenSpec.ofChange sectorsExactSpec)

/-- ITS FALSE NEIGHBOUR: 'it returns false'. Refute it at one input. -/
def sectorsExactWrong : ChangeSpec := { name := "sectorsExact", fn := fun _ => fun
  | [d1, d2, d3] => { results := [.lit (.bool false)], args := [d1, d2, d3] }
  | _ => none }
def SectorsExactWrongFalsely : Prop := sectorsExactRow.holds Try.pinned (OpenSpec.ofChange sectorsExactWrong)

/-- 'quotalaw03.SectorsImage': WHATEVER THE INPUT: true; the input reads as it did. -/
def sectorsImageSpec : ChangeSpec := { name := "sectorsImage", fn := fun _ => fun
  | [d1, d2, d3, d4] => { results := [.lit (.bool true)], args := [d1, d2, d3, d4] }
  | _ => none }
def sectorsImageRow : OpenClaim := { program := "ytkhdmbgcbogndaa", sum := "72dece4c170b10c26c5fe3c13e2ed67c0d5119ff0dd5372d06259b6fd3176e34", func := "quota/quotalaw03.SectorsImage", spec := "sectorsImage", unfollowed := true, recurses := true, apart := false }
def SectorsImageSaid : Prop := sectorsImageRow.holds Try.pinned (OpenSpec.ofChange sectorsImageSpec)

/-- ITS FALSE NEIGHBOUR: 'it returns false'. Refute it at one input. -/
def sectorsImageWrong : ChangeSpec := { name := "sectorsImage", fn := fun _ => fun
  | [d1, d2, d3, d4] => { results := [.lit (.bool false)], args := [d1, d2, d3, d4] }
  | _ => none }
def SectorsImageWrongFalsely : Prop := sectorsImageRow.holds Try.pinned (OpenSpec.ofChange sectorsImageWrong)

/-- 'quotalaw03.SectorsNewMemory': WHATEVER THE INPUT: true; the input reads as it did. -/
def sectorsNewMemorySpec : ChangeSpec := { name := "sectorsNewMemory", fn := fun _ => fun
  | [d1, d2, d3] => { results := [.lit (.bool true)], args := [d1, d2, d3] }
  | _ => none }
def sectorsNewMemoryRow : OpenClaim := { program := "ytkhdmbgcbogndaa", sum := "72dece4c170b10c26c5fe3c13e2ed67c0d5119ff0dd5372d06259b6fd3176e34", func := "quota/quotalaw03.SectorsNewMemory", spec := "sectorsNewMemory", unfollowed := true, recurses := true, apart := false }
def SectorsNewMemorySaid : Prop := sectorsNewMemoryRow.holds Try.pinned (OpenSpec.ofChange sectorsNewMemorySpec)

/-- ITS FALSE NEIGHBOUR: 'it returns false'. Refute it at one input. -/
def sectorsNewMemoryWrong : ChangeSpec := { name := "sectorsNewMemory", fn := fun _ => fun
  | [d1, d2, d3] => { results := [.lit (.bool false)], args := [d1, d2, d3] }
  | _ => none }
def SectorsNewMemoryWrongFalsely : Prop := sectorsNewMemoryRow.holds Try.pinned (OpenSpec.ofChange sectorsNewMemoryWrong)

/- THE SECOND FORM. 'bulk': how many values and letters a reading holds, each counted each time it is reached (what is shared counts as often as it is met; a slice's spare places count too). A statement '..UptoSaid' is the law's where the arguments, and the package variables that the reading takes, are together of bulk at most 1048576: NARROWER than '..Said'. Prove '..Said' where nothing that the law and all that it calls make is longer than what came in: it says more and counts as full. Else prove '..UptoSaid'. A law counts once. -/
mutual
def uptoBulk {H : Type} : DataW H → Nat
  | .lit (.string bytes) => bytes.length + 1
  | .lit _ => 1
  | .nil => 1
  | .ptr d => uptoBulk d + 1
  | .slice elems spare => uptoBulkAll elems + uptoBulkAll spare + 1
  | .agg parts => uptoBulkAll parts + 1
  | .iface _ d => uptoBulk d + 1
  | .map entries => uptoBulkEntries entries + 1
  | .held _ => 1
def uptoBulkAll {H : Type} : List (DataW H) → Nat
  | [] => 0
  | d :: r => uptoBulk d + uptoBulkAll r
def uptoBulkEntries {H : Type} : List (Lit × DataW H) → Nat
  | [] => 0
  | x :: r => uptoBulkEntry x + uptoBulkEntries r
def uptoBulkEntry {H : Type} : Lit × DataW H → Nat
  | (.string bytes, d) => bytes.length + uptoBulk d + 1
  | (_, d) => uptoBulk d + 1
 end
def uptoSmall : (H : Type) → List (DataW H) → Bool := fun _ ds => decide (uptoBulkAll ds ≤ 1048576)
def OpenSpec.upto (s : _root_.Go.ChangeSpec) : _root_.Go.OpenSpec := { _root_.Go.OpenSpec.ofChange s with cond := some uptoSmall }

/-- 'quotalaw03.SectorsNames', WHERE WHAT IT READS IS OF BULK AT MOST 1048576: true; the input reads as it did. -/
def sectorsNamesUptoRow : OpenClaim := { program := "ytkhdmbgcbogndaa", sum := "72dece4c170b10c26c5fe3c13e2ed67c0d5119ff0dd5372d06259b6fd3176e34", func := "quota/quotalaw03.SectorsNames", spec := "sectorsNames", unfollowed := true, recurses := true, apart := false, narrowed := true }
def SectorsNamesUptoSaid : Prop := sectorsNamesUptoRow.holds Try.pinned (OpenSpec.upto sectorsNamesSpec)

/-- 'quotalaw03.SectorsSynced', WHERE WHAT IT READS IS OF BULK AT MOST 1048576: true; the input reads as it did. -/
def sectorsSyncedUptoRow : OpenClaim := { program := "ytkhdmbgcbogndaa", sum := "72dece4c170b10c26c5fe3c13e2ed67c0d5119ff0dd5372d06259b6fd3176e34", func := "quota/quotalaw03.SectorsSynced", spec := "sectorsSynced", unfollowed := true, recurses := true, apart := false, narrowed := true }
def SectorsSyncedUptoSaid : Prop := sectorsSyncedUptoRow.holds Try.pinned (OpenSpec.upto sectorsSyncedSpec)

/-- 'quotalaw03.SectorsArmed', WHERE WHAT IT READS IS OF BULK AT MOST 1048576: true; the input reads as it did. -/
def sectorsArmedUptoRow : OpenClaim := { program := "ytkhdmbgcbogndaa", sum := "72dece4c170b10c26c5fe3c13e2ed67c0d5119ff0dd5372d06259b6fd3176e34", func := "quota/quotalaw03.SectorsArmed", spec := "sectorsArmed", unfollowed := true, recurses := true, apart := false, narrowed := true }
def SectorsArmedUptoSaid : Prop := sectorsArmedUptoRow.holds Try.pinned (OpenSpec.upto sectorsArmedSpec)

/-- 'quotalaw03.SectorsExact', WHERE WHAT IT READS IS OF BULK AT MOST 1048576: true; the input reads as it did. -/
def sectorsExactUptoRow : OpenClaim := { program := "ytkhdmbgcbogndaa", sum := "72dece4c170b10c26c5fe3c13e2ed67c0d5119ff0dd5372d06259b6fd3176e34", func := "quota/quotalaw03.SectorsExact", spec := "sectorsExact", unfollowed := true, recurses := true, apart := false, narrowed := true }
def SectorsExactUptoSaid : Prop := sectorsExactUptoRow.holds Try.pinned (OpenSpec.upto sectorsExactSpec)

/-- 'quotalaw03.SectorsImage', WHERE WHAT IT READS IS OF BULK AT MOST 1048576: true; the input reads as it did. -/
def sectorsImageUptoRow : OpenClaim := { program := "ytkhdmbgcbogndaa", sum := "72dece4c170b10c26c5fe3c13e2ed67c0d5119ff0dd5372d06259b6fd3176e34", func := "quota/quotalaw03.SectorsImage", spec := "sectorsImage", unfollowed := true, recurses := true, apart := false, narrowed := true }
def SectorsImageUptoSaid : Prop := sectorsImageUptoRow.holds Try.pinned (OpenSpec.upto sectorsImageSpec)

/-- 'quotalaw03.SectorsNewMemory', WHERE WHAT IT READS IS OF BULK AT MOST 1048576: true; the input reads as it did. -/
def sectorsNewMemoryUptoRow : OpenClaim := { program := "ytkhdmbgcbogndaa", sum := "72dece4c170b10c26c5fe3c13e2ed67c0d5119ff0dd5372d06259b6fd3176e34", func := "quota/quotalaw03.SectorsNewMemory", spec := "sectorsNewMemory", unfollowed := true, recurses := true, apart := false, narrowed := true }
def SectorsNewMemoryUptoSaid : Prop := sectorsNewMemoryUptoRow.holds Try.pinned (OpenSpec.upto sectorsNewMemorySpec)

end Rows
end Go.Proofs.Ytkhdmbgcbogndaa
