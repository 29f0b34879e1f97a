/-
  DERIVED. GIVEN WITH THE SEED: THE CARDS: each row of YtplfoedgekdjgaaDoorRows.lean that lists a variable, with what it lists TIED to the program's text (the seventh form; the later family's looks); each row that meets fmt, with fmt's text TOLD by the authors' own Lean function (tested against real Go, not proved from fmt's source: count such statements apart). THE CARD IS WHAT COUNTS. Prove the row's statement (the work); the ties are given (YtplfoedgekdjgaaDoorTie.lean); close each card by the builder's one call (the guide's Derived/Test/ToyasCard.lean, 'card_holds'). Laid BY PROGRAM, IN A SANDBOX (cutbox-door.mjs). By AI agents, Wed Nov 11 2026. No macro, syntax, notation, axiom, sorry.
-/
import Derived.Test.YtplfoedgekdjgaaDoorRows
import GoSem.ClaimSeven
namespace Go.Proofs.YtplfoedgekdjgaaDoor
namespace Rows

/-- THE TIED CARD OF 'quotalaw02.FieldSums'. -/
def fieldSumsCard : Claim7 := { stood := { row := fieldSumsRow, standIns := [], harness := (true, "16496d8b852a2ce7d894c42a43a572cb86257d165370a4387d632fc5097c8bb5"), looks := false }, kinds := [], alts := [], laidByText := true, laidKinds := [.data], laidTests := true, laidLooks := .later }
def FieldSumsCardSaid : Prop := Claim7.holds Tryd.pinned (.plain (OpenSpec.ofChange fieldSumsSpec)) fieldSumsCard

/-- THE TIED CARD OF 'quotalaw02.FieldExact'. -/
def fieldExactCard : Claim7 := { stood := { row := fieldExactRow, standIns := [], harness := (true, "16496d8b852a2ce7d894c42a43a572cb86257d165370a4387d632fc5097c8bb5"), looks := false }, kinds := [], alts := [], laidByText := true, laidKinds := [.data], laidTests := true, laidLooks := .later }
def FieldExactCardSaid : Prop := Claim7.holds Tryd.pinned (.plain (OpenSpec.ofChange fieldExactSpec)) fieldExactCard

/-- THE TIED CARD OF 'quotalaw02.FieldBack'. -/
def fieldBackCard : Claim7 := { stood := { row := fieldBackRow, standIns := [], harness := (true, "16496d8b852a2ce7d894c42a43a572cb86257d165370a4387d632fc5097c8bb5"), looks := false }, kinds := [], alts := [], laidByText := true, laidKinds := [.data], laidTests := true, laidLooks := .later }
def FieldBackCardSaid : Prop := Claim7.holds Tryd.pinned (.plain (OpenSpec.ofChange fieldBackSpec)) fieldBackCard

/-- THE TIED CARD OF 'quotalaw02.FieldOneForm'. -/
def fieldOneFormCard : Claim7 := { stood := { row := fieldOneFormRow, standIns := [], harness := (true, "16496d8b852a2ce7d894c42a43a572cb86257d165370a4387d632fc5097c8bb5"), looks := false }, kinds := [], alts := [], laidByText := true, laidKinds := [.data], laidTests := true, laidLooks := .later }
def FieldOneFormCardSaid : Prop := Claim7.holds Tryd.pinned (.plain (OpenSpec.ofChange fieldOneFormSpec)) fieldOneFormCard

/-- THE TIED CARD OF 'quotalaw02.FieldCut'. -/
def fieldCutCard : Claim7 := { stood := { row := fieldCutRow, standIns := [], harness := (true, "16496d8b852a2ce7d894c42a43a572cb86257d165370a4387d632fc5097c8bb5"), looks := false }, kinds := [], alts := [], laidByText := true, laidKinds := [.data], laidTests := true, laidLooks := .later }
def FieldCutCardSaid : Prop := Claim7.holds Tryd.pinned (.plain (OpenSpec.ofChange fieldCutSpec)) fieldCutCard

/-- THE SECOND FORM's CARD OF 'quotalaw02.FieldSums'. -/
def fieldSumsUptoCard : Claim7 := { stood := { row := fieldSumsUptoRow, standIns := [], harness := (true, "16496d8b852a2ce7d894c42a43a572cb86257d165370a4387d632fc5097c8bb5"), looks := false }, kinds := [], alts := [], laidByText := true, laidKinds := [.data], laidTests := true, laidLooks := .later }
def FieldSumsUptoCardSaid : Prop := Claim7.holds Tryd.pinned (.plain (OpenSpec.upto fieldSumsSpec)) fieldSumsUptoCard

/-- THE SECOND FORM's CARD OF 'quotalaw02.FieldExact'. -/
def fieldExactUptoCard : Claim7 := { stood := { row := fieldExactUptoRow, standIns := [], harness := (true, "16496d8b852a2ce7d894c42a43a572cb86257d165370a4387d632fc5097c8bb5"), looks := false }, kinds := [], alts := [], laidByText := true, laidKinds := [.data], laidTests := true, laidLooks := .later }
def FieldExactUptoCardSaid : Prop := Claim7.holds Tryd.pinned (.plain (OpenSpec.upto fieldExactSpec)) fieldExactUptoCard

/-- THE SECOND FORM's CARD OF 'quotalaw02.FieldBack'. -/
def fieldBackUptoCard : Claim7 := { stood := { row := fieldBackUptoRow, standIns := [], harness := (true, "16496d8b852a2ce7d894c42a43a572cb86257d165370a4387d632fc5097c8bb5"), looks := false }, kinds := [], alts := [], laidByText := true, laidKinds := [.data], laidTests := true, laidLooks := .later }
def FieldBackUptoCardSaid : Prop := Claim7.holds Tryd.pinned (.plain (OpenSpec.upto fieldBackSpec)) fieldBackUptoCard

/-- THE SECOND FORM's CARD OF 'quotalaw02.FieldOneForm'. -/
def fieldOneFormUptoCard : Claim7 := { stood := { row := fieldOneFormUptoRow, standIns := [], harness := (true, "16496d8b852a2ce7d894c42a43a572cb86257d165370a4387d632fc5097c8bb5"), looks := false }, kinds := [], alts := [], laidByText := true, laidKinds := [.data], laidTests := true, laidLooks := .later }
def FieldOneFormUptoCardSaid : Prop := Claim7.holds Tryd.pinned (.plain (OpenSpec.upto fieldOneFormSpec)) fieldOneFormUptoCard

/-- THE SECOND FORM's CARD OF 'quotalaw02.FieldCut'. -/
def fieldCutUptoCard : Claim7 := { stood := { row := fieldCutUptoRow, standIns := [], harness := (true, "16496d8b852a2ce7d894c42a43a572cb86257d165370a4387d632fc5097c8bb5"), looks := false }, kinds := [], alts := [], laidByText := true, laidKinds := [.data], laidTests := true, laidLooks := .later }
def FieldCutUptoCardSaid : Prop := Claim7.holds Tryd.pinned (.plain (OpenSpec.upto fieldCutSpec)) fieldCutUptoCard
end Rows
end Go.Proofs.YtplfoedgekdjgaaDoor
