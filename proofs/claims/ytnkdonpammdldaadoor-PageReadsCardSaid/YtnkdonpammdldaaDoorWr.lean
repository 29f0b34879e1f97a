/- The statement PageReads, its walk at arguments as they come in. Conditions: the tables stand. -/
import Derived.Test.YtnkdonpammdldaaDoorGv
import Derived.Test.YtnkdonpammdldaaDoorLw
set_option linter.unusedVariables false
set_option linter.unusedSimpArgs false
namespace Go.Proofs.YtnkdonpammdldaaDoor
open Go Go.RowKit

theorem pageReads_walk {W : World} (hnib : Nib W) (hz : Szs W) {v0 v1 : Value} (h0 : ArgW Tryd.prog W T_s_uint8 v0) (h1 : ArgW Tryd.prog W T_int v1) :
    GoC Tryd.prog F_law07_PageReads #[v0, v1] W fun e W' => e = .returned (.bool true) ∧ Kp no W W' := by
  obtain ⟨a1, l1, c1, rfl, k1⟩ := h0.arg.slice (e := T_uint8) (by kernel_rfl)
  have hlen := h0.clw.len (e := T_uint8) (by kernel_rfl)
  obtain ⟨num, rfl, _⟩ := h1.arg.int (k := .i64) (by kernel_rfl)
  obtain ⟨hl1, _, hn1, B, hB, hr1⟩ := k1.bytes (e := T_uint8) (by kernel_rfl) (by kernel_rfl) (by kernel_rfl)
  have hby : Tryd.prog.bytesOf T_uint8 = 1 := by kernel_rfl
  rw [hby, Nat.mul_one] at hlen
  have hreach : reachBytes = 140737488351232 := by decide
  refine S_law07_PageReads ?_
  unfold W_law07_PageReads
  refine first_c hnib hz fun w1 k01 => ⟨_, rfl, cond_t rfl ?_⟩
  exact reads_c (hnib.kp0 k01) (hz.kp0 k01) (hr1.kp0 k01) hB (fun h => (hn1 h).1) (by omega) fun w' k' => ⟨_, rfl, rfl, k01.trans0 k'⟩
end Go.Proofs.YtnkdonpammdldaaDoor
