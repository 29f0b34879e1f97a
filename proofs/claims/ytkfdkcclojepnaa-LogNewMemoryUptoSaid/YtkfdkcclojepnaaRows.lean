/-
  No cell of these rows narrows 'for every input' (looked for: loops, veiled, ifaces, maps, wideKeys, modest, calm, conditions, laid).
  DERIVED. THE GIVEN ROWS OF THIS SEAT. 5 by the template 'for every input the law returns true; each argument reads behind the call as it read before'; 0 by the template 'total and deterministic' (their statements: YtkfdkcclojepnaaTotals.lean).
  GIVEN WITH THE SEED: the statements are not yours to turn. If you find one false, say at which input.
  Laid BY PROGRAM, IN A SANDBOX (cutbox-rows.mjs): the forced cells as the released guide's own fill.sh prints them over the translation b019f5b69c30146e… (all of the seat's roots in one cut). By AI agents, Wed Nov 11 2026. No macro, syntax, notation, axiom, sorry.
-/
import Derived.Test.YtkfdkcclojepnaaChecked
import GoSem.Claim
import GoSem.ClaimJoined
import GoSem.ClaimMapViews
import Derived.JoinedTies
import Derived.KernelRfl
namespace Go.Proofs.Ytkfdkcclojepnaa
/- THE CELL 'sum', in the pinned program and in every row, IS THE sha256 OF THE DUMP (.gsa) THAT YtkfdkcclojepnaaProg.lean LOADS. Nothing in Lean hashes anything: it is a label: what it is worth is what the hold of that sum in a sandbox is worth. -/
noncomputable def Try.pinned : Pinned := { name := "ytkfdkcclojepnaa", sum := "b019f5b69c30146ec16727432a54ae0d95f86a2f9ce988cc314bb4c721d8dd81", checked := Try.checked }
namespace Rows
def none {H : Type} : Left H := { results := [], args := [] }

/-- 'quotalaw06.LogNames': WHATEVER THE INPUT: true; the input reads as it did. -/
def logNamesSpec : ChangeSpec := { name := "logNames", fn := fun _ => fun
  | [] => { results := [.lit (.bool true)], args := [] }
  | _ => none }
def logNamesRow : OpenClaim := { program := "ytkfdkcclojepnaa", sum := "b019f5b69c30146ec16727432a54ae0d95f86a2f9ce988cc314bb4c721d8dd81", func := "quota/quotalaw06.LogNames", spec := "logNames", unfollowed := true, recurses := true, apart := false }
def LogNamesSaid : Prop := logNamesRow.holds Try.pinned (OpenSpec.ofChange logNamesSpec)

/-- ITS FALSE NEIGHBOUR: 'it returns false'. Refute it at one input. -/
def logNamesWrong : ChangeSpec := { name := "logNames", fn := fun _ => fun
  | [] => { results := [.lit (.bool false)], args := [] }
  | _ => none }
def LogNamesWrongFalsely : Prop := logNamesRow.holds Try.pinned (OpenSpec.ofChange logNamesWrong)

/-- 'quotalaw06.LogNewMemory': WHATEVER THE INPUT: true; the input reads as it did. -/
def logNewMemorySpec : ChangeSpec := { name := "logNewMemory", fn := fun _ => fun
  | [d] => { results := [.lit (.bool true)], args := [d] }
  | _ => none }
def logNewMemoryRow : OpenClaim := { program := "ytkfdkcclojepnaa", sum := "b019f5b69c30146ec16727432a54ae0d95f86a2f9ce988cc314bb4c721d8dd81", func := "quota/quotalaw06.LogNewMemory", spec := "logNewMemory", unfollowed := true, recurses := true, apart := false }
def LogNewMemorySaid : Prop := logNewMemoryRow.holds Try.pinned (OpenSpec.ofChange logNewMemorySpec)

/-- ITS FALSE NEIGHBOUR: 'it returns false'. Refute it at one input. -/
def logNewMemoryWrong : ChangeSpec := { name := "logNewMemory", fn := fun _ => fun
  | [d] => { results := [.lit (.bool false)], args := [d] }
  | _ => none }
def LogNewMemoryWrongFalsely : Prop := logNewMemoryRow.holds Try.pinned (OpenSpec.ofChange logNewMemoryWrong)

/-- 'quotalaw06.LogKeeps': WHATEVER THE INPUT: true; the input reads as it did. -/
def logKeepsSpec : ChangeSpec := { name := "logKeeps", fn := fun _ => fun
  | [d] => { results := [.lit (.bool true)], args := [d] }
  | _ => none }
def logKeepsRow : OpenClaim := { program := "ytkfdkcclojepnaa", sum := "b019f5b69c30146ec16727432a54ae0d95f86a2f9ce988cc314bb4c721d8dd81", func := "quota/quotalaw06.LogKeeps", spec := "logKeeps", unfollowed := true, recurses := true, apart := false }
def LogKeepsSaid : Prop := logKeepsRow.holds Try.pinned (OpenSpec.ofChange logKeepsSpec)

/-- ITS FALSE NEIGHBOUR: 'it returns false'. Refute it at one input. -/
def logKeepsWrong : ChangeSpec := { name := "logKeeps", fn := fun _ => fun
  | [d] => { results := [.lit (.bool false)], args := [d] }
  | _ => none }
def LogKeepsWrongFalsely : Prop := logKeepsRow.holds Try.pinned (OpenSpec.ofChange logKeepsWrong)

/-- 'quotalaw06.LogReads': WHATEVER THE INPUT: true; the input reads as it did. -/
def logReadsSpec : ChangeSpec := { name := "logReads", fn := fun _ => fun
  | [d] => { results := [.lit (.bool true)], args := [d] }
  | _ => none }
def logReadsRow : OpenClaim := { program := "ytkfdkcclojepnaa", sum := "b019f5b69c30146ec16727432a54ae0d95f86a2f9ce988cc314bb4c721d8dd81", func := "quota/quotalaw06.LogReads", spec := "logReads", unfollowed := true, recurses := true, apart := false }
def LogReadsSaid : Prop := logReadsRow.holds Try.pinned (OpenSpec.ofChange logReadsSpec)

/-- ITS FALSE NEIGHBOUR: 'it returns false'. Refute it at one input. -/
def logReadsWrong : ChangeSpec := { name := "logReads", fn := fun _ => fun
  | [d] => { results := [.lit (.bool false)], args := [d] }
  | _ => none }
def LogReadsWrongFalsely : Prop := logReadsRow.holds Try.pinned (OpenSpec.ofChange logReadsWrong)

/-- 'quotalaw06.LogCrash': WHATEVER THE INPUT: true; the input reads as it did. -/
def logCrashSpec : ChangeSpec := { name := "logCrash", fn := fun _ => fun
  | [d1, d2, d3] => { results := [.lit (.bool true)], args := [d1, d2, d3] }
  | _ => none }
def logCrashRow : OpenClaim := { program := "ytkfdkcclojepnaa", sum := "b019f5b69c30146ec16727432a54ae0d95f86a2f9ce988cc314bb4c721d8dd81", func := "quota/quotalaw06.LogCrash", spec := "logCrash", unfollowed := true, recurses := true, apart := false }
def LogCrashSaid : Prop := logCrashRow.holds Try.pinned (OpenSpec.ofChange logCrashSpec)

/-- ITS FALSE NEIGHBOUR: 'it returns false'. Refute it at one input. -/
def logCrashWrong : ChangeSpec := { name := "logCrash", fn := fun _ => fun
  | [d1, d2, d3] => { results := [.lit (.bool false)], args := [d1, d2, d3] }
  | _ => none }
def LogCrashWrongFalsely : Prop := logCrashRow.holds Try.pinned (OpenSpec.ofChange logCrashWrong)

/- THE SECOND FORM. 'bulk': how many values and letters a reading holds, each counted each time it is reached (what is shared counts as often as it is met; a slice's spare places count too). A statement '..UptoSaid' is the law's where the arguments, and the package variables that the reading takes, are together of bulk at most 1048576: NARROWER than '..Said'. Prove '..Said' where nothing that the law and all that it calls make is longer than what came in: it says more and counts as full. Else prove '..UptoSaid'. A law counts once. -/
mutual
def uptoBulk {H : Type} : DataW H → Nat
  | .lit (.string bytes) => bytes.length + 1
  | .lit _ => 1
  | .nil => 1
  | .ptr d => uptoBulk d + 1
  | .slice elems spare => uptoBulkAll elems + uptoBulkAll spare + 1
  | .agg parts => uptoBulkAll parts + 1
  | .iface _ d => uptoBulk d + 1
  | .map entries => uptoBulkEntries entries + 1
  | .held _ => 1
def uptoBulkAll {H : Type} : List (DataW H) → Nat
  | [] => 0
  | d :: r => uptoBulk d + uptoBulkAll r
def uptoBulkEntries {H : Type} : List (Lit × DataW H) → Nat
  | [] => 0
  | x :: r => uptoBulkEntry x + uptoBulkEntries r
def uptoBulkEntry {H : Type} : Lit × DataW H → Nat
  | (.string bytes, d) => bytes.length + uptoBulk d + 1
  | (_, d) => uptoBulk d + 1
 end
def uptoSmall : (H : Type) → List (DataW H) → Bool := fun _ ds => decide (uptoBulkAll ds ≤ 1048576)
def OpenSpec.upto (s : _root_.Go.ChangeSpec) : _root_.Go.OpenSpec := { _root_.Go.OpenSpec.ofChange s with cond := some uptoSmall }

/-- 'quotalaw06.LogNames', WHERE WHAT IT READS IS OF BULK AT MOST 1048576: true; the input reads as it did. -/
def logNamesUptoRow : OpenClaim := { program := "ytkfdkcclojepnaa", sum := "b019f5b69c30146ec16727432a54ae0d95f86a2f9ce988cc314bb4c721d8dd81", func := "quota/quotalaw06.LogNames", spec := "logNames", unfollowed := true, recurses := true, apart := false, narrowed := true }
def LogNamesUptoSaid : Prop := logNamesUptoRow.holds Try.pinned (OpenSpec.upto logNamesSpec)

/-- 'quotalaw06.LogNewMemory', WHERE WHAT IT READS IS OF BULK AT MOST 1048576: true; the input reads as it did. -/
def logNewMemoryUptoRow : OpenClaim := { program := "ytkfdkcclojepnaa", sum := "b019f5b69c30146ec16727432a54ae0d95f86a2f9ce988cc314bb4c721d8dd81", func := "quota/quotalaw06.LogNewMemory", spec := "logNewMemory", unfollowed := true, recurses := true, apart := false, narrowed := true }
def LogNewMemoryUptoSaid : Prop := logNewMemoryUptoRow.holds Try.pinned (OpenSpec.upto logNewMemorySpec)

/-- 'quotalaw06.LogKeeps', WHERE WHAT IT READS IS OF BULK AT MOST 1048576: true; the input reads as it did. -/
def logKeepsUptoRow : OpenClaim := { program := "ytkfdkcclojepnaa", sum := "b019f5b69c30146ec16727432a54ae0d95f86a2f9ce988cc314bb4c721d8dd81", func := "quota/quotalaw06.LogKeeps", spec := "logKeeps", unfollowed := true, recurses := true, apart := false, narrowed := true }
def LogKeepsUptoSaid : Prop := logKeepsUptoRow.holds Try.pinned (OpenSpec.upto logKeepsSpec)

/-- 'quotalaw06.LogReads', WHERE WHAT IT READS IS OF BULK AT MOST 1048576: true; the input reads as it did. -/
def logReadsUptoRow : OpenClaim := { program := "ytkfdkcclojepnaa", sum := "b019f5b69c30146ec16727432a54ae0d95f86a2f9ce988cc314bb4c721d8dd81", func := "quota/quotalaw06.LogReads", spec := "logReads", unfollowed := true, recurses := true, apart := false, narrowed := true }
def LogReadsUptoSaid : Prop := logReadsUptoRow.holds Try.pinned (OpenSpec.upto logReadsSpec)

/-- 'quotalaw06.LogCrash', WHERE WHAT IT READS IS OF BULK AT MOST 1048576: true; the input reads as it did. -/
def logCrashUptoRow : OpenClaim := { program := "ytkfdkcclojepnaa", sum := "b019f5b69c30146ec16727432a54ae0d95f86a2f9ce988cc314bb4c721d8dd81", func := "quota/quotalaw06.LogCrash", spec := "logCrash", unfollowed := true, recurses := true, apart := false, narrowed := true }
def LogCrashUptoSaid : Prop := logCrashUptoRow.holds Try.pinned (OpenSpec.upto logCrashSpec)

end Rows
end Go.Proofs.Ytkfdkcclojepnaa
