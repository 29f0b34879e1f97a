/- The statement FieldCut, its walk at arguments as they come in. Conditions: the checksum's table stands. -/
import Derived.Test.YtplfoedgekdjgaaDoorPc
set_option linter.unusedVariables false
set_option linter.unusedSimpArgs false
namespace Go.Proofs.YtplfoedgekdjgaaDoor
open Go Go.RowKit

theorem fieldCut_walk {W : World} (hnib : Nib W) {v0 v1 v2 : Value} (h0 : Arg Tryd.prog W T_quotalaw02_Num v0) (h1 : Arg Tryd.prog W T_uint64 v1) (h2 : Arg Tryd.prog W T_uint8 v2) :
    GoC Tryd.prog F_law02_FieldCut #[v0, v1, v2] W fun e W' => e = .returned (.bool true) ∧ Kp no W W' := by
  obtain ⟨cs, rfl, hc⟩ := h0.struct (s := 3) (by kernel_rfl)
  obtain ⟨x, hx, hcs⟩ := num_open hc
  obtain rfl : cs = #[.bool x.sg, .int .u64 (x.n : Int), .int .i64 x.i] := by cases cs; simpa [NumL.cs] using hcs
  obtain ⟨n1, rfl, hw1⟩ := h1.int (k := .u64) (by kernel_rfl)
  obtain ⟨ahead, rfl, ha⟩ := u64_wf hw1
  obtain ⟨n2, rfl, hw2⟩ := h2.int (k := .u8) (by kernel_rfl)
  obtain ⟨more, rfl⟩ := u8_wf hw2
  exact fieldCut_c hnib hx ha fun w' k => ⟨rfl, k⟩
end Go.Proofs.YtplfoedgekdjgaaDoor
