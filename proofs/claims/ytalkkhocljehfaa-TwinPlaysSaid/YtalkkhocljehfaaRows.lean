/-
  No cell of these rows narrows 'for every input' (looked for: loops, veiled, ifaces, maps, wideKeys, modest, calm, conditions, laid).
  DERIVED. THE GIVEN ROWS OF THIS SEAT. 4 by the template 'for every input the law returns true; each argument reads behind the call as it read before'; 0 by the template 'total and deterministic' (their statements: YtalkkhocljehfaaTotals.lean).
  GIVEN WITH THE SEED: the statements are not yours to turn. If you find one false, say at which input.
  Laid BY PROGRAM, IN A SANDBOX (cutbox-rows.mjs): the forced cells as the released guide's own fill.sh prints them over the translation 94f29a8b673f7d72… (all of the seat's roots in one cut). By AI agents, Wed Nov 11 2026. No macro, syntax, notation, axiom, sorry.
-/
import Derived.Test.YtalkkhocljehfaaChecked
import GoSem.Claim
import GoSem.ClaimJoined
import GoSem.ClaimMapViews
import Derived.JoinedTies
import Derived.KernelRfl
namespace Go.Proofs.Ytalkkhocljehfaa
/- THE CELL 'sum', in the pinned program and in every row, IS THE sha256 OF THE DUMP (.gsa) THAT YtalkkhocljehfaaProg.lean LOADS. Nothing in Lean hashes anything: it is a label: what it is worth is what the hold of that sum in a sandbox is worth. -/
noncomputable def Try.pinned : Pinned := { name := "ytalkkhocljehfaa", sum := "94f29a8b673f7d72c0259ebb3760eb817186e736e6bd103f7011ced626003199", checked := Try.checked }
namespace Rows
def none {H : Type} : Left H := { results := [], args := [] }

/-- 'quotalaw08.TwinOwn': WHATEVER THE INPUT: true; the input reads as it did. -/
def twinOwnSpec : ChangeSpec := { name := "twinOwn", fn := fun _ => fun
  | [d] => { results := [.lit (.bool true)], args := [d] }
  | _ => none }
def twinOwnRow : OpenClaim := { program := "ytalkkhocljehfaa", sum := "94f29a8b673f7d72c0259ebb3760eb817186e736e6bd103f7011ced626003199", func := "quota/quotalaw08.TwinOwn", spec := "twinOwn", unfollowed := true, recurses := true, apart := false }
def TwinOwnSaid : Prop := twinOwnRow.holds Try.pinned (OpenSpec.ofChange twinOwnSpec)

/-- ITS FALSE NEIGHBOUR: 'it returns false'. Refute it at one input. -/
def twinOwnWrong : ChangeSpec := { name := "twinOwn", fn := fun _ => fun
  | [d] => { results := [.lit (.bool false)], args := [d] }
  | _ => none }
def TwinOwnWrongFalsely : Prop := twinOwnRow.holds Try.pinned (OpenSpec.ofChange twinOwnWrong)

/-- 'quotalaw08.TwinOldOrNew': WHATEVER THE INPUT: true; the input reads as it did. -/
def twinOldOrNewSpec : ChangeSpec := { name := "twinOldOrNew", fn := fun _ => fun
  | [d1, d2, d3, d4] => { results := [.lit (.bool true)], args := [d1, d2, d3, d4] }
  | _ => none }
def twinOldOrNewRow : OpenClaim := { program := "ytalkkhocljehfaa", sum := "94f29a8b673f7d72c0259ebb3760eb817186e736e6bd103f7011ced626003199", func := "quota/quotalaw08.TwinOldOrNew", spec := "twinOldOrNew", unfollowed := true, recurses := true, apart := false }
def TwinOldOrNewSaid : Prop := twinOldOrNewRow.holds Try.pinned (OpenSpec.ofChange twinOldOrNewSpec)

/-- ITS FALSE NEIGHBOUR: 'it returns false'. Refute it at one input. -/
def twinOldOrNewWrong : ChangeSpec := { name := "twinOldOrNew", fn := fun _ => fun
  | [d1, d2, d3, d4] => { results := [.lit (.bool false)], args := [d1, d2, d3, d4] }
  | _ => none }
def TwinOldOrNewWrongFalsely : Prop := twinOldOrNewRow.holds Try.pinned (OpenSpec.ofChange twinOldOrNewWrong)

/-- 'quotalaw08.TwinOften': WHATEVER THE INPUT: true; the input reads as it did. -/
def twinOftenSpec : ChangeSpec := { name := "twinOften", fn := fun _ => fun
  | [d1, d2] => { results := [.lit (.bool true)], args := [d1, d2] }
  | _ => none }
def twinOftenRow : OpenClaim := { program := "ytalkkhocljehfaa", sum := "94f29a8b673f7d72c0259ebb3760eb817186e736e6bd103f7011ced626003199", func := "quota/quotalaw08.TwinOften", spec := "twinOften", unfollowed := true, recurses := true, apart := false }
def TwinOftenSaid : Prop := twinOftenRow.holds Try.pinned (OpenSpec.ofChange twinOftenSpec)

/-- ITS FALSE NEIGHBOUR: 'it returns false'. Refute it at one input. -/
def twinOftenWrong : ChangeSpec := { name := "twinOften", fn := fun _ => fun
  | [d1, d2] => { results := [.lit (.bool false)], args := [d1, d2] }
  | _ => none }
def TwinOftenWrongFalsely : Prop := twinOftenRow.holds Try.pinned (OpenSpec.ofChange twinOftenWrong)

/-- 'quotalaw08.TwinPlays': WHATEVER THE INPUT: true; the input reads as it did. -/
def twinPlaysSpec : ChangeSpec := { name := "twinPlays", fn := fun _ => fun
  | [d1, d2] => { results := [.lit (.bool true)], args := [d1, d2] }
  | _ => none }
def twinPlaysRow : OpenClaim := { program := "ytalkkhocljehfaa", sum := "94f29a8b673f7d72c0259ebb3760eb817186e736e6bd103f7011ced626003199", func := "quota/quotalaw08.TwinPlays", spec := "twinPlays", unfollowed := true, recurses := true, apart := false }
def TwinPlaysSaid : Prop := twinPlaysRow.holds Try.pinned (OpenSpec.ofChange twinPlaysSpec)

/-- ITS FALSE NEIGHBOUR: 'it returns false'. Refute it at one input. -/
def twinPlaysWrong : ChangeSpec := { name := "twinPlays", fn := fun _ => fun
  | [d1, d2] => { results := [.lit (.bool false)], args := [d1, d2] }
  | _ => none }
def TwinPlaysWrongFalsely : Prop := twinPlaysRow.holds Try.pinned (OpenSpec.ofChange twinPlaysWrong)

/- THE SECOND FORM. 'bulk': how many values and letters a reading holds, each counted each time it is reached (what is shared counts as often as it is met; a slice's spare places count too). A statement '..UptoSaid' is the law's where the arguments, and the package variables that the reading takes, are together of bulk at most 1048576: NARROWER than '..Said'. Prove '..Said' where nothing that the law and all that it calls make is longer than what came in: it says more and counts as full. Else prove '..UptoSaid'. A law counts once. -/
mutual
def uptoBulk {H : Type} : DataW H → Nat
  | .lit (.string bytes) => bytes.length + 1
  | .lit _ => 1
  | .nil => 1
  | .ptr d => uptoBulk d + 1
  | .slice elems spare => uptoBulkAll elems + uptoBulkAll spare + 1
  | .agg parts => uptoBulkAll parts + 1
  | .iface _ d => uptoBulk d + 1
  | .map entries => uptoBulkEntries entries + 1
  | .held _ => 1
def uptoBulkAll {H : Type} : List (DataW H) → Nat
  | [] => 0
  | d :: r => uptoBulk d + uptoBulkAll r
def uptoBulkEntries {H : Type} : List (Lit × DataW H) → Nat
  | [] => 0
  | x :: r => uptoBulkEntry x + uptoBulkEntries r
def uptoBulkEntry {H : Type} : Lit × DataW H → Nat
  | (.string bytes, d) => bytes.length + uptoBulk d + 1
  | (_, d) => uptoBulk d + 1
 end
def uptoSmall : (H : Type) → List (DataW H) → Bool := fun _ ds => decide (uptoBulkAll ds ≤ 1048576)
def OpenSpec.upto (s : _root_.Go.ChangeSpec) : _root_.Go.OpenSpec := { _root_.Go.OpenSpec.ofChange s with cond := some uptoSmall }

/-- 'quotalaw08.TwinOwn', WHERE WHAT IT READS IS OF BULK AT MOST 1048576: true; the input reads as it did. -/
def twinOwnUptoRow : OpenClaim := { program := "ytalkkhocljehfaa", sum := "94f29a8b673f7d72c0259ebb3760eb817186e736e6bd103f7011ced626003199", func := "quota/quotalaw08.TwinOwn", spec := "twinOwn", unfollowed := true, recurses := true, apart := false, narrowed := true }
def TwinOwnUptoSaid : Prop := twinOwnUptoRow.holds Try.pinned (OpenSpec.upto twinOwnSpec)

/-- 'quotalaw08.TwinOldOrNew', WHERE WHAT IT READS IS OF BULK AT MOST 1048576: true; the input reads as it did. -/
def twinOldOrNewUptoRow : OpenClaim := { program := "ytalkkhocljehfaa", sum := "94f29a8b673f7d72c0259ebb3760eb817186e736e6bd103f7011ced626003199", func := "quota/quotalaw08.TwinOldOrNew", spec := "twinOldOrNew", unfollowed := true, recurses := true, apart := false, narrowed := true }
def TwinOldOrNewUptoSaid : Prop := twinOldOrNewUptoRow.holds Try.pinned (OpenSpec.upto twinOldOrNewSpec)

/-- 'quotalaw08.TwinOften', WHERE WHAT IT READS IS OF BULK AT MOST 1048576: true; the input reads as it did. -/
def twinOftenUptoRow : OpenClaim := { program := "ytalkkhocljehfaa", sum := "94f29a8b673f7d72c0259ebb3760eb817186e736e6bd103f7011ced626003199", func := "quota/quotalaw08.TwinOften", spec := "twinOften", unfollowed := true, recurses := true, apart := false, narrowed := true }
def TwinOftenUptoSaid : Prop := twinOftenUptoRow.holds Try.pinned (OpenSpec.upto twinOftenSpec)

/-- 'quotalaw08.TwinPlays', WHERE WHAT IT READS IS OF BULK AT MOST 1048576: true; the input reads as it did. -/
def twinPlaysUptoRow : OpenClaim := { program := "ytalkkhocljehfaa", sum := "94f29a8b673f7d72c0259ebb3760eb817186e736e6bd103f7011ced626003199", func := "quota/quotalaw08.TwinPlays", spec := "twinPlays", unfollowed := true, recurses := true, apart := false, narrowed := true }
def TwinPlaysUptoSaid : Prop := twinPlaysUptoRow.holds Try.pinned (OpenSpec.upto twinPlaysSpec)

end Rows
end Go.Proofs.Ytalkkhocljehfaa
