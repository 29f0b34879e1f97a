/- The statement FieldSums, its walk at arguments as they come in. Conditions: the checksum's table stands. -/
import Derived.Test.YtplfoedgekdjgaaDoorPa
namespace Go.Proofs.YtplfoedgekdjgaaDoor
open Go Go.RowKit

theorem u32_arg {n : Int} (h : (Lit.int .u32 n).wf = true) : ∃ m : Nat, n = (m : Int) ∧ m < 4294967296 := by
  have hb : 0 ≤ n ∧ n < 4294967296 := by
    simp only [Lit.wf, IntKind.min, IntKind.max, IntKind.signed, IntKind.bits, Bool.false_eq_true, if_false, Bool.and_eq_true, decide_eq_true_eq] at h
    omega
  exact ⟨n.toNat, by omega, by omega⟩

theorem fieldSums_walk {W : World} (hnib : Nib W) {v0 v1 v2 v3 : Value} (h0 : Arg Tryd.prog W T_s_uint8 v0) (h1 : Arg Tryd.prog W T_s_uint8 v1) (h2 : Arg Tryd.prog W T_int v2) (h3 : Arg Tryd.prog W T_uint32 v3) :
    GoC Tryd.prog F_law02_FieldSums #[v0, v1, v2, v3] W fun e W' => e = .returned (.bool true) ∧ Kp no W W' := by
  obtain ⟨a1, l1, c1, rfl, k1⟩ := h0.slice (e := T_uint8) (by kernel_rfl)
  obtain ⟨a2, l2, c2, rfl, k2⟩ := h1.slice (e := T_uint8) (by kernel_rfl)
  obtain ⟨bit, rfl, _⟩ := h2.int (k := .i64) (by kernel_rfl)
  obtain ⟨m0, rfl, hw⟩ := h3.int (k := .u32) (by kernel_rfl)
  obtain ⟨m, rfl, hm⟩ := u32_arg hw
  obtain ⟨hl1, _, hn1, A, hA, hr1⟩ := k1.bytes (e := T_uint8) (by kernel_rfl) (by kernel_rfl) (by kernel_rfl)
  obtain ⟨hl2, _, hn2, B, hB, hr2⟩ := k2.bytes (e := T_uint8) (by kernel_rfl) (by kernel_rfl) (by kernel_rfl)
  exact fieldSums_c hnib hr1 hA hl1 (fun h => (hn1 h).1) hr2 hB hl2 (fun h => (hn2 h).1) hm fun w' k => ⟨rfl, k⟩
end Go.Proofs.YtplfoedgekdjgaaDoor
