/- Closed facts of the example page. Conditions: none. -/
import Derived.Test.YtnkdonpammdldaaDoorGs
set_option linter.unusedVariables false
set_option linter.unusedSimpArgs false
namespace Go.Proofs.YtnkdonpammdldaaDoor
open Go Go.RowKit

@[irreducible] def exB : List UInt8 := encB 2 258 [] [⟨7, -1⟩]
theorem ex_ref : refP 2 258 [] [⟨7, -1⟩] = 0 := by decide +kernel
set_option maxRecDepth 100000 in
theorem ex_all : (exB.take 12 == [113, 2, 2, 0, 1, 0, 0, 0, 2, 1, 0, 0]) = true ∧ ((exB.drop 16).take 12 == [7, 0, 0, 0, 255, 255, 255, 255, 255, 255, 255, 255]) = true ∧ decF exB 2 = 0 ∧ dLsn exB = 258 ∧ (decGs exB).length = 1 := by decide +kernel
end Go.Proofs.YtnkdonpammdldaaDoor
