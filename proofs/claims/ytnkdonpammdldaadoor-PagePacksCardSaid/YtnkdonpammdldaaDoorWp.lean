/- The statement PagePacks, its walk at arguments as they come in. Conditions: the tables and marks stand. -/
import Derived.Test.YtnkdonpammdldaaDoorGw
import Derived.Test.YtnkdonpammdldaaDoorLx
set_option linter.unusedVariables false
namespace Go.Proofs.YtnkdonpammdldaaDoor
open Go Go.RowKit

theorem pagePacks_walk {W : World} (hnib : Nib W) (hz : Szs W) (hmk : Mks W) {v0 : Value} (h0 : ArgW Tryd.prog W T_quotalaw07_P v0) :
    GoC Tryd.prog F_law07_PagePacks #[v0] W fun e W' => e = .returned (.bool true) ∧ Kp no W W' := by
  obtain ⟨p, cs, gs, rfl, hp⟩ := p_open h0
  exact pagePacks_c hnib hz hmk hp.i hp.cw hp.gw fun w' k => ⟨rfl, k⟩
end Go.Proofs.YtnkdonpammdldaaDoor
