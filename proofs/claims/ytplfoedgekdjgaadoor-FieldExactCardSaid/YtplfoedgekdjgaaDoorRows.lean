/-
  NARROWER THAN 'FOR EVERY INPUT', by the rows' own cells (each row's printed sentence says how): FieldSums: laid · FieldExact: laid · FieldBack: laid · FieldOneForm: laid · FieldCut: laid.
  DERIVED. THE GIVEN ROWS OF THIS SEAT. 5 by the template 'for every input the law returns true; each argument reads behind the call as it read before'; 0 by the template 'total and deterministic' (their statements: YtplfoedgekdjgaaDoorTotals.lean).
  GIVEN WITH THE SEED: the statements are not yours to turn. If you find one false, say at which input.
  Laid BY PROGRAM, IN A SANDBOX (cutbox-rows.mjs): the forced cells as the released guide's own fill.sh prints them over the translation 1711a7fdc3763043… (all of the seat's roots in one cut). By AI agents, Wed Nov 11 2026. No macro, syntax, notation, axiom, sorry.
-/
import Derived.Test.YtplfoedgekdjgaaDoorChecked
import GoSem.Claim
import GoSem.ClaimJoined
import GoSem.ClaimMapViews
import Derived.JoinedTies
import Derived.KernelRfl
namespace Go.Proofs.YtplfoedgekdjgaaDoor
/- THE CELL 'sum', in the pinned program and in every row, IS THE sha256 OF THE DUMP (.gsa) THAT YtplfoedgekdjgaaDoorProg.lean LOADS. Nothing in Lean hashes anything: it is a label: what it is worth is what the hold of that sum in a sandbox is worth. -/
noncomputable def Tryd.pinned : Pinned := { name := "ytplfoedgekdjgaadoor", sum := "1711a7fdc376304352d1e0674a41a439e2fa15c73e14e68b258b6fc496902eac", checked := Tryd.checked }
namespace Rows
def none {H : Type} : Left H := { results := [], args := [] }

/- WHAT THE LISTED PACKAGE-LEVEL VARIABLES READ AS WHEN THE CALL BEGINS. Each datum BY PROGRAM (the guide's laid-datum.mjs) off the statement by which the dump's own 'gosem.cut.vars' lays the variable. In a bare row this is a premise. The card (YtplfoedgekdjgaaDoorCards.lean) ties it to the program's text. -/
def laid_quota_field_nibbles {H : Type} : DataW H := .agg [.lit (.int .u32 0), .lit (.int .u32 498536548), .lit (.int .u32 997073096), .lit (.int .u32 651767980), .lit (.int .u32 1994146192), .lit (.int .u32 1802195444), .lit (.int .u32 1303535960), .lit (.int .u32 1342533948), .lit (.int .u32 3988292384), .lit (.int .u32 4027552580), .lit (.int .u32 3604390888), .lit (.int .u32 3412177804), .lit (.int .u32 2607071920), .lit (.int .u32 2262029012), .lit (.int .u32 2685067896), .lit (.int .u32 3183342108)]

/-- 'quotalaw02.FieldSums': WHATEVER THE INPUT: true; the input reads as it did. -/
def fieldSumsSpec : ChangeSpec := { name := "fieldSums", fn := fun _ => fun
  | [d1, d2, d3, d4] => { results := [.lit (.bool true)], args := [d1, d2, d3, d4] }
  | _ => none }
def fieldSumsRow : OpenClaim := { program := "ytplfoedgekdjgaadoor", sum := "1711a7fdc376304352d1e0674a41a439e2fa15c73e14e68b258b6fc496902eac", func := "quota/quotalaw02.FieldSums", spec := "fieldSums", named := ["quota/field.nibbles"], apart := false, laid := [("quota/field.nibbles", laid_quota_field_nibbles)] }
def FieldSumsSaid : Prop := fieldSumsRow.holds Tryd.pinned (OpenSpec.ofChange fieldSumsSpec)

/-- ITS FALSE NEIGHBOUR: 'it returns false'. Refute it at one input. -/
def fieldSumsWrong : ChangeSpec := { name := "fieldSums", fn := fun _ => fun
  | [d1, d2, d3, d4] => { results := [.lit (.bool false)], args := [d1, d2, d3, d4] }
  | _ => none }
def FieldSumsWrongFalsely : Prop := fieldSumsRow.holds Tryd.pinned (OpenSpec.ofChange fieldSumsWrong)

/-- 'quotalaw02.FieldExact': WHATEVER THE INPUT: true; the input reads as it did. -/
def fieldExactSpec : ChangeSpec := { name := "fieldExact", fn := fun _ => fun
  | [d] => { results := [.lit (.bool true)], args := [d] }
  | _ => none }
def fieldExactRow : OpenClaim := { program := "ytplfoedgekdjgaadoor", sum := "1711a7fdc376304352d1e0674a41a439e2fa15c73e14e68b258b6fc496902eac", func := "quota/quotalaw02.FieldExact", spec := "fieldExact", named := ["quota/field.nibbles"], apart := false, laid := [("quota/field.nibbles", laid_quota_field_nibbles)] }
def FieldExactSaid : Prop := fieldExactRow.holds Tryd.pinned (OpenSpec.ofChange fieldExactSpec)

/-- ITS FALSE NEIGHBOUR: 'it returns false'. Refute it at one input. -/
def fieldExactWrong : ChangeSpec := { name := "fieldExact", fn := fun _ => fun
  | [d] => { results := [.lit (.bool false)], args := [d] }
  | _ => none }
def FieldExactWrongFalsely : Prop := fieldExactRow.holds Tryd.pinned (OpenSpec.ofChange fieldExactWrong)

/-- 'quotalaw02.FieldBack': WHATEVER THE INPUT: true; the input reads as it did. -/
def fieldBackSpec : ChangeSpec := { name := "fieldBack", fn := fun _ => fun
  | [d1, d2] => { results := [.lit (.bool true)], args := [d1, d2] }
  | _ => none }
def fieldBackRow : OpenClaim := { program := "ytplfoedgekdjgaadoor", sum := "1711a7fdc376304352d1e0674a41a439e2fa15c73e14e68b258b6fc496902eac", func := "quota/quotalaw02.FieldBack", spec := "fieldBack", named := ["quota/field.nibbles"], apart := false, laid := [("quota/field.nibbles", laid_quota_field_nibbles)] }
def FieldBackSaid : Prop := fieldBackRow.holds Tryd.pinned (OpenSpec.ofChange fieldBackSpec)

/-- ITS FALSE NEIGHBOUR: 'it returns false'. Refute it at one input. -/
def fieldBackWrong : ChangeSpec := { name := "fieldBack", fn := fun _ => fun
  | [d1, d2] => { results := [.lit (.bool false)], args := [d1, d2] }
  | _ => none }
def FieldBackWrongFalsely : Prop := fieldBackRow.holds Tryd.pinned (OpenSpec.ofChange fieldBackWrong)

/-- 'quotalaw02.FieldOneForm': WHATEVER THE INPUT: true; the input reads as it did. -/
def fieldOneFormSpec : ChangeSpec := { name := "fieldOneForm", fn := fun _ => fun
  | [d1, d2] => { results := [.lit (.bool true)], args := [d1, d2] }
  | _ => none }
def fieldOneFormRow : OpenClaim := { program := "ytplfoedgekdjgaadoor", sum := "1711a7fdc376304352d1e0674a41a439e2fa15c73e14e68b258b6fc496902eac", func := "quota/quotalaw02.FieldOneForm", spec := "fieldOneForm", named := ["quota/field.nibbles"], apart := false, laid := [("quota/field.nibbles", laid_quota_field_nibbles)] }
def FieldOneFormSaid : Prop := fieldOneFormRow.holds Tryd.pinned (OpenSpec.ofChange fieldOneFormSpec)

/-- ITS FALSE NEIGHBOUR: 'it returns false'. Refute it at one input. -/
def fieldOneFormWrong : ChangeSpec := { name := "fieldOneForm", fn := fun _ => fun
  | [d1, d2] => { results := [.lit (.bool false)], args := [d1, d2] }
  | _ => none }
def FieldOneFormWrongFalsely : Prop := fieldOneFormRow.holds Tryd.pinned (OpenSpec.ofChange fieldOneFormWrong)

/-- 'quotalaw02.FieldCut': WHATEVER THE INPUT: true; the input reads as it did. -/
def fieldCutSpec : ChangeSpec := { name := "fieldCut", fn := fun _ => fun
  | [d1, d2, d3] => { results := [.lit (.bool true)], args := [d1, d2, d3] }
  | _ => none }
def fieldCutRow : OpenClaim := { program := "ytplfoedgekdjgaadoor", sum := "1711a7fdc376304352d1e0674a41a439e2fa15c73e14e68b258b6fc496902eac", func := "quota/quotalaw02.FieldCut", spec := "fieldCut", named := ["quota/field.nibbles"], apart := false, laid := [("quota/field.nibbles", laid_quota_field_nibbles)] }
def FieldCutSaid : Prop := fieldCutRow.holds Tryd.pinned (OpenSpec.ofChange fieldCutSpec)

/-- ITS FALSE NEIGHBOUR: 'it returns false'. Refute it at one input. -/
def fieldCutWrong : ChangeSpec := { name := "fieldCut", fn := fun _ => fun
  | [d1, d2, d3] => { results := [.lit (.bool false)], args := [d1, d2, d3] }
  | _ => none }
def FieldCutWrongFalsely : Prop := fieldCutRow.holds Tryd.pinned (OpenSpec.ofChange fieldCutWrong)

/- THE SECOND FORM. 'bulk': how many values and letters a reading holds, each counted each time it is reached (what is shared counts as often as it is met; a slice's spare places count too). A statement '..UptoSaid' is the law's where the arguments, and the package variables that the reading takes, are together of bulk at most 1048576: NARROWER than '..Said'. Prove '..Said' where nothing that the law and all that it calls make is longer than what came in: it says more and counts as full. Else prove '..UptoSaid'. A law counts once. -/
mutual
def uptoBulk {H : Type} : DataW H → Nat
  | .lit (.string bytes) => bytes.length + 1
  | .lit _ => 1
  | .nil => 1
  | .ptr d => uptoBulk d + 1
  | .slice elems spare => uptoBulkAll elems + uptoBulkAll spare + 1
  | .agg parts => uptoBulkAll parts + 1
  | .iface _ d => uptoBulk d + 1
  | .map entries => uptoBulkEntries entries + 1
  | .held _ => 1
def uptoBulkAll {H : Type} : List (DataW H) → Nat
  | [] => 0
  | d :: r => uptoBulk d + uptoBulkAll r
def uptoBulkEntries {H : Type} : List (Lit × DataW H) → Nat
  | [] => 0
  | x :: r => uptoBulkEntry x + uptoBulkEntries r
def uptoBulkEntry {H : Type} : Lit × DataW H → Nat
  | (.string bytes, d) => bytes.length + uptoBulk d + 1
  | (_, d) => uptoBulk d + 1
 end
def uptoSmall : (H : Type) → List (DataW H) → Bool := fun _ ds => decide (uptoBulkAll ds ≤ 1048576)
def OpenSpec.upto (s : _root_.Go.ChangeSpec) : _root_.Go.OpenSpec := { _root_.Go.OpenSpec.ofChange s with cond := some uptoSmall }

/-- 'quotalaw02.FieldSums', WHERE WHAT IT READS IS OF BULK AT MOST 1048576: true; the input reads as it did. -/
def fieldSumsUptoRow : OpenClaim := { program := "ytplfoedgekdjgaadoor", sum := "1711a7fdc376304352d1e0674a41a439e2fa15c73e14e68b258b6fc496902eac", func := "quota/quotalaw02.FieldSums", spec := "fieldSums", named := ["quota/field.nibbles"], apart := false, laid := [("quota/field.nibbles", laid_quota_field_nibbles)], narrowed := true }
def FieldSumsUptoSaid : Prop := fieldSumsUptoRow.holds Tryd.pinned (OpenSpec.upto fieldSumsSpec)

/-- 'quotalaw02.FieldExact', WHERE WHAT IT READS IS OF BULK AT MOST 1048576: true; the input reads as it did. -/
def fieldExactUptoRow : OpenClaim := { program := "ytplfoedgekdjgaadoor", sum := "1711a7fdc376304352d1e0674a41a439e2fa15c73e14e68b258b6fc496902eac", func := "quota/quotalaw02.FieldExact", spec := "fieldExact", named := ["quota/field.nibbles"], apart := false, laid := [("quota/field.nibbles", laid_quota_field_nibbles)], narrowed := true }
def FieldExactUptoSaid : Prop := fieldExactUptoRow.holds Tryd.pinned (OpenSpec.upto fieldExactSpec)

/-- 'quotalaw02.FieldBack', WHERE WHAT IT READS IS OF BULK AT MOST 1048576: true; the input reads as it did. -/
def fieldBackUptoRow : OpenClaim := { program := "ytplfoedgekdjgaadoor", sum := "1711a7fdc376304352d1e0674a41a439e2fa15c73e14e68b258b6fc496902eac", func := "quota/quotalaw02.FieldBack", spec := "fieldBack", named := ["quota/field.nibbles"], apart := false, laid := [("quota/field.nibbles", laid_quota_field_nibbles)], narrowed := true }
def FieldBackUptoSaid : Prop := fieldBackUptoRow.holds Tryd.pinned (OpenSpec.upto fieldBackSpec)

/-- 'quotalaw02.FieldOneForm', WHERE WHAT IT READS IS OF BULK AT MOST 1048576: true; the input reads as it did. -/
def fieldOneFormUptoRow : OpenClaim := { program := "ytplfoedgekdjgaadoor", sum := "1711a7fdc376304352d1e0674a41a439e2fa15c73e14e68b258b6fc496902eac", func := "quota/quotalaw02.FieldOneForm", spec := "fieldOneForm", named := ["quota/field.nibbles"], apart := false, laid := [("quota/field.nibbles", laid_quota_field_nibbles)], narrowed := true }
def FieldOneFormUptoSaid : Prop := fieldOneFormUptoRow.holds Tryd.pinned (OpenSpec.upto fieldOneFormSpec)

/-- 'quotalaw02.FieldCut', WHERE WHAT IT READS IS OF BULK AT MOST 1048576: true; the input reads as it did. -/
def fieldCutUptoRow : OpenClaim := { program := "ytplfoedgekdjgaadoor", sum := "1711a7fdc376304352d1e0674a41a439e2fa15c73e14e68b258b6fc496902eac", func := "quota/quotalaw02.FieldCut", spec := "fieldCut", named := ["quota/field.nibbles"], apart := false, laid := [("quota/field.nibbles", laid_quota_field_nibbles)], narrowed := true }
def FieldCutUptoSaid : Prop := fieldCutUptoRow.holds Tryd.pinned (OpenSpec.upto fieldCutSpec)

end Rows
end Go.Proofs.YtplfoedgekdjgaaDoor
