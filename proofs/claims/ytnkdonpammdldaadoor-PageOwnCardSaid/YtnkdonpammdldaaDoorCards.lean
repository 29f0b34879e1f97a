/-
  DERIVED. GIVEN WITH THE SEED: THE CARDS: each row of YtnkdonpammdldaaDoorRows.lean that lists a variable, with what it lists TIED to the program's text (the seventh form; the later family's looks); each row that meets fmt, with fmt's text TOLD by the authors' own Lean function (tested against real Go, not proved from fmt's source: count such statements apart). THE CARD IS WHAT COUNTS. Prove the row's statement (the work); the ties are given (YtnkdonpammdldaaDoorTie.lean); close each card by the builder's one call (the guide's Derived/Test/ToyasCard.lean, 'card_holds'). Laid BY PROGRAM, IN A SANDBOX (cutbox-door.mjs). By AI agents, Wed Nov 11 2026. No macro, syntax, notation, axiom, sorry.
-/
import Derived.Test.YtnkdonpammdldaaDoorRows
import GoSem.ClaimSeven
namespace Go.Proofs.YtnkdonpammdldaaDoor
namespace Rows

/-- THE TIED CARD OF 'quotalaw07.PagePacks'. -/
def pagePacksCard : Claim7 := { stood := { row := pagePacksRow, standIns := [], harness := (true, "9c1858127aa5c8734b710b380352f97e83e799c5db83313a949efc4c45c5b409"), looks := false }, kinds := [], alts := [], laidByText := true, laidKinds := [.data, .widerDeep, .widerDeep, .widerDeep, .data, .data], laidTests := true, laidLooks := .later }
def PagePacksCardSaid : Prop := Claim7.holds Tryd.pinned (.plain (OpenSpec.ofChange pagePacksSpec)) pagePacksCard

/-- THE TIED CARD OF 'quotalaw07.PageReads'. -/
def pageReadsCard : Claim7 := { stood := { row := pageReadsRow, standIns := [], harness := (true, "9c1858127aa5c8734b710b380352f97e83e799c5db83313a949efc4c45c5b409"), looks := false }, kinds := [], alts := [], laidByText := true, laidKinds := [.data, .widerDeep, .widerDeep, .widerDeep], laidTests := true, laidLooks := .later }
def PageReadsCardSaid : Prop := Claim7.holds Tryd.pinned (.plain (OpenSpec.ofChange pageReadsSpec)) pageReadsCard

/-- THE TIED CARD OF 'quotalaw07.PageFaults'. -/
def pageFaultsCard : Claim7 := { stood := { row := pageFaultsRow, standIns := [], harness := (true, "9c1858127aa5c8734b710b380352f97e83e799c5db83313a949efc4c45c5b409"), looks := false }, kinds := [], alts := [], laidByText := true, laidKinds := [.data, .widerDeep, .widerDeep, .widerDeep], laidTests := true, laidLooks := .later }
def PageFaultsCardSaid : Prop := Claim7.holds Tryd.pinned (.plain (OpenSpec.ofChange pageFaultsSpec)) pageFaultsCard

/-- THE TIED CARD OF 'quotalaw07.PageBack'. -/
def pageBackCard : Claim7 := { stood := { row := pageBackRow, standIns := [], harness := (true, "9c1858127aa5c8734b710b380352f97e83e799c5db83313a949efc4c45c5b409"), looks := false }, kinds := [], alts := [], laidByText := true, laidKinds := [.data, .widerDeep, .widerDeep, .widerDeep], laidTests := true, laidLooks := .later }
def PageBackCardSaid : Prop := Claim7.holds Tryd.pinned (.plain (OpenSpec.ofChange pageBackSpec)) pageBackCard

/-- THE TIED CARD OF 'quotalaw07.PageOneForm'. -/
def pageOneFormCard : Claim7 := { stood := { row := pageOneFormRow, standIns := [], harness := (true, "9c1858127aa5c8734b710b380352f97e83e799c5db83313a949efc4c45c5b409"), looks := false }, kinds := [], alts := [], laidByText := true, laidKinds := [.data, .widerDeep, .widerDeep, .widerDeep], laidTests := true, laidLooks := .later }
def PageOneFormCardSaid : Prop := Claim7.holds Tryd.pinned (.plain (OpenSpec.ofChange pageOneFormSpec)) pageOneFormCard

/-- THE TIED CARD OF 'quotalaw07.PageBits'. -/
def pageBitsCard : Claim7 := { stood := { row := pageBitsRow, standIns := [], harness := (true, "9c1858127aa5c8734b710b380352f97e83e799c5db83313a949efc4c45c5b409"), looks := false }, kinds := [], alts := [], laidByText := true, laidKinds := [.data, .widerDeep, .widerDeep, .widerDeep], laidTests := true, laidLooks := .later }
def PageBitsCardSaid : Prop := Claim7.holds Tryd.pinned (.plain (OpenSpec.ofChange pageBitsSpec)) pageBitsCard

/-- THE TIED CARD OF 'quotalaw07.PageOwn'. -/
def pageOwnCard : Claim7 := { stood := { row := pageOwnRow, standIns := [], harness := (true, "9c1858127aa5c8734b710b380352f97e83e799c5db83313a949efc4c45c5b409"), looks := false }, kinds := [], alts := [], laidByText := true, laidKinds := [.data, .widerDeep, .widerDeep, .widerDeep], laidTests := true, laidLooks := .later }
def PageOwnCardSaid : Prop := Claim7.holds Tryd.pinned (.plain (OpenSpec.ofChange pageOwnSpec)) pageOwnCard

/-- THE SECOND FORM's CARD OF 'quotalaw07.PagePacks'. -/
def pagePacksUptoCard : Claim7 := { stood := { row := pagePacksUptoRow, standIns := [], harness := (true, "9c1858127aa5c8734b710b380352f97e83e799c5db83313a949efc4c45c5b409"), looks := false }, kinds := [], alts := [], laidByText := true, laidKinds := [.data, .widerDeep, .widerDeep, .widerDeep, .data, .data], laidTests := true, laidLooks := .later }
def PagePacksUptoCardSaid : Prop := Claim7.holds Tryd.pinned (.plain (OpenSpec.upto pagePacksSpec)) pagePacksUptoCard

/-- THE SECOND FORM's CARD OF 'quotalaw07.PageReads'. -/
def pageReadsUptoCard : Claim7 := { stood := { row := pageReadsUptoRow, standIns := [], harness := (true, "9c1858127aa5c8734b710b380352f97e83e799c5db83313a949efc4c45c5b409"), looks := false }, kinds := [], alts := [], laidByText := true, laidKinds := [.data, .widerDeep, .widerDeep, .widerDeep], laidTests := true, laidLooks := .later }
def PageReadsUptoCardSaid : Prop := Claim7.holds Tryd.pinned (.plain (OpenSpec.upto pageReadsSpec)) pageReadsUptoCard

/-- THE SECOND FORM's CARD OF 'quotalaw07.PageFaults'. -/
def pageFaultsUptoCard : Claim7 := { stood := { row := pageFaultsUptoRow, standIns := [], harness := (true, "9c1858127aa5c8734b710b380352f97e83e799c5db83313a949efc4c45c5b409"), looks := false }, kinds := [], alts := [], laidByText := true, laidKinds := [.data, .widerDeep, .widerDeep, .widerDeep], laidTests := true, laidLooks := .later }
def PageFaultsUptoCardSaid : Prop := Claim7.holds Tryd.pinned (.plain (OpenSpec.upto pageFaultsSpec)) pageFaultsUptoCard

/-- THE SECOND FORM's CARD OF 'quotalaw07.PageBack'. -/
def pageBackUptoCard : Claim7 := { stood := { row := pageBackUptoRow, standIns := [], harness := (true, "9c1858127aa5c8734b710b380352f97e83e799c5db83313a949efc4c45c5b409"), looks := false }, kinds := [], alts := [], laidByText := true, laidKinds := [.data, .widerDeep, .widerDeep, .widerDeep], laidTests := true, laidLooks := .later }
def PageBackUptoCardSaid : Prop := Claim7.holds Tryd.pinned (.plain (OpenSpec.upto pageBackSpec)) pageBackUptoCard

/-- THE SECOND FORM's CARD OF 'quotalaw07.PageOneForm'. -/
def pageOneFormUptoCard : Claim7 := { stood := { row := pageOneFormUptoRow, standIns := [], harness := (true, "9c1858127aa5c8734b710b380352f97e83e799c5db83313a949efc4c45c5b409"), looks := false }, kinds := [], alts := [], laidByText := true, laidKinds := [.data, .widerDeep, .widerDeep, .widerDeep], laidTests := true, laidLooks := .later }
def PageOneFormUptoCardSaid : Prop := Claim7.holds Tryd.pinned (.plain (OpenSpec.upto pageOneFormSpec)) pageOneFormUptoCard

/-- THE SECOND FORM's CARD OF 'quotalaw07.PageBits'. -/
def pageBitsUptoCard : Claim7 := { stood := { row := pageBitsUptoRow, standIns := [], harness := (true, "9c1858127aa5c8734b710b380352f97e83e799c5db83313a949efc4c45c5b409"), looks := false }, kinds := [], alts := [], laidByText := true, laidKinds := [.data, .widerDeep, .widerDeep, .widerDeep], laidTests := true, laidLooks := .later }
def PageBitsUptoCardSaid : Prop := Claim7.holds Tryd.pinned (.plain (OpenSpec.upto pageBitsSpec)) pageBitsUptoCard

/-- THE SECOND FORM's CARD OF 'quotalaw07.PageOwn'. -/
def pageOwnUptoCard : Claim7 := { stood := { row := pageOwnUptoRow, standIns := [], harness := (true, "9c1858127aa5c8734b710b380352f97e83e799c5db83313a949efc4c45c5b409"), looks := false }, kinds := [], alts := [], laidByText := true, laidKinds := [.data, .widerDeep, .widerDeep, .widerDeep], laidTests := true, laidLooks := .later }
def PageOwnUptoCardSaid : Prop := Claim7.holds Tryd.pinned (.plain (OpenSpec.upto pageOwnSpec)) pageOwnUptoCard
end Rows
end Go.Proofs.YtnkdonpammdldaaDoor
