/-
  No cell of these rows narrows 'for every input' (looked for: loops, veiled, ifaces, maps, wideKeys, modest, calm, conditions, laid).
  DERIVED. THE GIVEN ROWS OF THIS SEAT. 4 by the template 'for every input the law returns true; each argument reads behind the call as it read before'; 0 by the template 'total and deterministic' (their statements: YtjhncijdkmbopaaTotals.lean).
  GIVEN WITH THE SEED: the statements are not yours to turn. If you find one false, say at which input.
  Laid BY PROGRAM, IN A SANDBOX (cutbox-rows.mjs): the forced cells as the released guide's own fill.sh prints them over the translation 72f235f36c3f63c5… (all of the seat's roots in one cut). By AI agents, Wed Nov 11 2026. No macro, syntax, notation, axiom, sorry.
-/
import Derived.Test.YtjhncijdkmbopaaChecked
import GoSem.Claim
import GoSem.ClaimJoined
import GoSem.ClaimMapViews
import Derived.JoinedTies
import Derived.KernelRfl
namespace Go.Proofs.Ytjhncijdkmbopaa
/- THE CELL 'sum', in the pinned program and in every row, IS THE sha256 OF THE DUMP (.gsa) THAT YtjhncijdkmbopaaProg.lean LOADS. Nothing in Lean hashes anything: it is a label: what it is worth is what the hold of that sum in a sandbox is worth. -/
noncomputable def Try.pinned : Pinned := { name := "ytjhncijdkmbopaa", sum := "72f235f36c3f63c529981a3e6a12878185e21ab563cf5332539c583fc4596fa6", checked := Try.checked }
namespace Rows
def none {H : Type} : Left H := { results := [], args := [] }

/-- 'quotalaw05.RecordExact': WHATEVER THE INPUT: true; the input reads as it did. -/
def recordExactSpec : ChangeSpec := { name := "recordExact", fn := fun _ => fun
  | [d] => { results := [.lit (.bool true)], args := [d] }
  | _ => none }
def recordExactRow : OpenClaim := { program := "ytjhncijdkmbopaa", sum := "72f235f36c3f63c529981a3e6a12878185e21ab563cf5332539c583fc4596fa6", func := "quota/quotalaw05.RecordExact", spec := "recordExact", apart := false }
def RecordExactSaid : Prop := recordExactRow.holds Try.pinned (OpenSpec.ofChange recordExactSpec)

/-- ITS FALSE NEIGHBOUR: 'it returns false'. Refute it at one input. -/
def recordExactWrong : ChangeSpec := { name := "recordExact", fn := fun _ => fun
  | [d] => { results := [.lit (.bool false)], args := [d] }
  | _ => none }
def RecordExactWrongFalsely : Prop := recordExactRow.holds Try.pinned (OpenSpec.ofChange recordExactWrong)

/-- 'quotalaw05.RecordBack': WHATEVER THE INPUT: true; the input reads as it did. -/
def recordBackSpec : ChangeSpec := { name := "recordBack", fn := fun _ => fun
  | [d1, d2] => { results := [.lit (.bool true)], args := [d1, d2] }
  | _ => none }
def recordBackRow : OpenClaim := { program := "ytjhncijdkmbopaa", sum := "72f235f36c3f63c529981a3e6a12878185e21ab563cf5332539c583fc4596fa6", func := "quota/quotalaw05.RecordBack", spec := "recordBack", apart := false }
def RecordBackSaid : Prop := recordBackRow.holds Try.pinned (OpenSpec.ofChange recordBackSpec)

/-- ITS FALSE NEIGHBOUR: 'it returns false'. Refute it at one input. -/
def recordBackWrong : ChangeSpec := { name := "recordBack", fn := fun _ => fun
  | [d1, d2] => { results := [.lit (.bool false)], args := [d1, d2] }
  | _ => none }
def RecordBackWrongFalsely : Prop := recordBackRow.holds Try.pinned (OpenSpec.ofChange recordBackWrong)

/-- 'quotalaw05.RecordOneForm': WHATEVER THE INPUT: true; the input reads as it did. -/
def recordOneFormSpec : ChangeSpec := { name := "recordOneForm", fn := fun _ => fun
  | [d] => { results := [.lit (.bool true)], args := [d] }
  | _ => none }
def recordOneFormRow : OpenClaim := { program := "ytjhncijdkmbopaa", sum := "72f235f36c3f63c529981a3e6a12878185e21ab563cf5332539c583fc4596fa6", func := "quota/quotalaw05.RecordOneForm", spec := "recordOneForm", apart := false }
def RecordOneFormSaid : Prop := recordOneFormRow.holds Try.pinned (OpenSpec.ofChange recordOneFormSpec)

/-- ITS FALSE NEIGHBOUR: 'it returns false'. Refute it at one input. -/
def recordOneFormWrong : ChangeSpec := { name := "recordOneForm", fn := fun _ => fun
  | [d] => { results := [.lit (.bool false)], args := [d] }
  | _ => none }
def RecordOneFormWrongFalsely : Prop := recordOneFormRow.holds Try.pinned (OpenSpec.ofChange recordOneFormWrong)

/-- 'quotalaw05.RecordCut': WHATEVER THE INPUT: true; the input reads as it did. -/
def recordCutSpec : ChangeSpec := { name := "recordCut", fn := fun _ => fun
  | [d1, d2, d3] => { results := [.lit (.bool true)], args := [d1, d2, d3] }
  | _ => none }
def recordCutRow : OpenClaim := { program := "ytjhncijdkmbopaa", sum := "72f235f36c3f63c529981a3e6a12878185e21ab563cf5332539c583fc4596fa6", func := "quota/quotalaw05.RecordCut", spec := "recordCut", apart := false }
def RecordCutSaid : Prop := recordCutRow.holds Try.pinned (OpenSpec.ofChange recordCutSpec)

/-- ITS FALSE NEIGHBOUR: 'it returns false'. Refute it at one input. -/
def recordCutWrong : ChangeSpec := { name := "recordCut", fn := fun _ => fun
  | [d1, d2, d3] => { results := [.lit (.bool false)], args := [d1, d2, d3] }
  | _ => none }
def RecordCutWrongFalsely : Prop := recordCutRow.holds Try.pinned (OpenSpec.ofChange recordCutWrong)

/- THE SECOND FORM. 'bulk': how many values and letters a reading holds, each counted each time it is reached (what is shared counts as often as it is met; a slice's spare places count too). A statement '..UptoSaid' is the law's where the arguments, and the package variables that the reading takes, are together of bulk at most 1048576: NARROWER than '..Said'. Prove '..Said' where nothing that the law and all that it calls make is longer than what came in: it says more and counts as full. Else prove '..UptoSaid'. A law counts once. -/
mutual
def uptoBulk {H : Type} : DataW H → Nat
  | .lit (.string bytes) => bytes.length + 1
  | .lit _ => 1
  | .nil => 1
  | .ptr d => uptoBulk d + 1
  | .slice elems spare => uptoBulkAll elems + uptoBulkAll spare + 1
  | .agg parts => uptoBulkAll parts + 1
  | .iface _ d => uptoBulk d + 1
  | .map entries => uptoBulkEntries entries + 1
  | .held _ => 1
def uptoBulkAll {H : Type} : List (DataW H) → Nat
  | [] => 0
  | d :: r => uptoBulk d + uptoBulkAll r
def uptoBulkEntries {H : Type} : List (Lit × DataW H) → Nat
  | [] => 0
  | x :: r => uptoBulkEntry x + uptoBulkEntries r
def uptoBulkEntry {H : Type} : Lit × DataW H → Nat
  | (.string bytes, d) => bytes.length + uptoBulk d + 1
  | (_, d) => uptoBulk d + 1
 end
def uptoSmall : (H : Type) → List (DataW H) → Bool := fun _ ds => decide (uptoBulkAll ds ≤ 1048576)
def OpenSpec.upto (s : _root_.Go.ChangeSpec) : _root_.Go.OpenSpec := { _root_.Go.OpenSpec.ofChange s with cond := some uptoSmall }

/-- 'quotalaw05.RecordExact', WHERE WHAT IT READS IS OF BULK AT MOST 1048576: true; the input reads as it did. -/
def recordExactUptoRow : OpenClaim := { program := "ytjhncijdkmbopaa", sum := "72f235f36c3f63c529981a3e6a12878185e21ab563cf5332539c583fc4596fa6", func := "quota/quotalaw05.RecordExact", spec := "recordExact", apart := false, narrowed := true }
def RecordExactUptoSaid : Prop := recordExactUptoRow.holds Try.pinned (OpenSpec.upto recordExactSpec)

/-- 'quotalaw05.RecordBack', WHERE WHAT IT READS IS OF BULK AT MOST 1048576: true; the input reads as it did. -/
def recordBackUptoRow : OpenClaim := { program := "ytjhncijdkmbopaa", sum := "72f235f36c3f63c529981a3e6a12878185e21ab563cf5332539c583fc4596fa6", func := "quota/quotalaw05.RecordBack", spec := "recordBack", apart := false, narrowed := true }
def RecordBackUptoSaid : Prop := recordBackUptoRow.holds Try.pinned (OpenSpec.upto recordBackSpec)

/-- 'quotalaw05.RecordOneForm', WHERE WHAT IT READS IS OF BULK AT MOST 1048576: true; the input reads as it did. -/
def recordOneFormUptoRow : OpenClaim := { program := "ytjhncijdkmbopaa", sum := "72f235f36c3f63c529981a3e6a12878185e21ab563cf5332539c583fc4596fa6", func := "quota/quotalaw05.RecordOneForm", spec := "recordOneForm", apart := false, narrowed := true }
def RecordOneFormUptoSaid : Prop := recordOneFormUptoRow.holds Try.pinned (OpenSpec.upto recordOneFormSpec)

/-- 'quotalaw05.RecordCut', WHERE WHAT IT READS IS OF BULK AT MOST 1048576: true; the input reads as it did. -/
def recordCutUptoRow : OpenClaim := { program := "ytjhncijdkmbopaa", sum := "72f235f36c3f63c529981a3e6a12878185e21ab563cf5332539c583fc4596fa6", func := "quota/quotalaw05.RecordCut", spec := "recordCut", apart := false, narrowed := true }
def RecordCutUptoSaid : Prop := recordCutUptoRow.holds Try.pinned (OpenSpec.upto recordCutSpec)

end Rows
end Go.Proofs.Ytjhncijdkmbopaa
