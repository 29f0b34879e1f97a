/- Arguments that are structs: their fields. Conditions: none. -/
import Derived.Test.YtalkkhocljehfaaTo
import Derived.ChangeArms
set_option linter.unusedVariables false
set_option linter.unusedSimpArgs false
namespace Go.Proofs.Ytalkkhocljehfaa
open Go Go.RowKit Go.ChangeShapes Go.WideShapes

def fieldAt (P : Program) (t : TypeId) (i : Nat) : Option (TypeId × Nat × Nat) :=
  match P.underlying t with
  | some (.struct fs) => (fs[i]?).map fun f => (f.type, f.offset, P.cellsOf f.type)
  | _ => none

section
variable {P : Program} {W : World}
theorem Cl.field {t : TypeId} {cs : List Value} (h : Cl P W t cs) (i : Nat) {e : TypeId} {o s : Nat} (hf : fieldAt P t i = some (e, o, s)) : Cl P W e ((cs.drop o).take s) := by
  unfold fieldAt at hf
  split at hf
  · rename_i fs ht
    obtain ⟨H, enc, fuel, x, hx⟩ := h
    obtain ⟨xs, n, _, _, _, hlen, hall⟩ := DataW.trod_struct ht hx
    rw [Option.map_eq_some_iff] at hf
    obtain ⟨f, hfi, he⟩ := hf
    cases he
    have h1 := hall i f hfi
    have hi : i < xs.length := by rw [hlen]; exact (Array.getElem?_eq_some_iff.1 hfi).1
    rw [List.getElem?_eq_getElem hi] at h1
    exact ⟨H, enc, n, _, h1⟩
  · cases hf

def structCells (P : Program) (t : TypeId) : Option Nat :=
  match P.underlying t with
  | some (.struct _) => some (P.cellsOf t)
  | _ => none
theorem Cl.slen {t : TypeId} {cs : List Value} (h : Cl P W t cs) {s : Nat} (hs : structCells P t = some s) : cs.length = s := by
  unfold structCells at hs
  split at hs
  · rename_i fs ht
    obtain ⟨H, enc, fuel, x, hx⟩ := h
    obtain ⟨xs, n, _, _, hl, _⟩ := DataW.trod_struct ht hx
    cases hs
    exact hl
  · cases hs
theorem Arg.struct {t : TypeId} {v : Value} {s : Nat} (hs : structCells P t = some s) (h : Arg P W t v) : ∃ cs : Array Value, v = .agg cs ∧ Cl P W t cs.toList := by
  unfold structCells at hs
  split at hs
  · rename_i fs ht
    obtain ⟨cs, hv, _, hc⟩ := h.agg ht
    exact ⟨cs, hv, hc⟩
  · cases hs
end

theorem u64_wf {n : Int} (h : (Lit.int .u64 n).wf = true) : ∃ m : Nat, n = (m : Int) ∧ m < 18446744073709551616 := by
  have hb : 0 ≤ n ∧ n < 18446744073709551616 := by
    simp only [Lit.wf, IntKind.min, IntKind.max, IntKind.signed, IntKind.bits, Bool.false_eq_true, if_false, Bool.and_eq_true, decide_eq_true_eq] at h
    omega
  exact ⟨n.toNat, by omega, by omega⟩
theorem u32_wf {n : Int} (h : (Lit.int .u32 n).wf = true) : ∃ m : Nat, n = (m : Int) ∧ m < 4294967296 := by
  have hb : 0 ≤ n ∧ n < 4294967296 := by
    simp only [Lit.wf, IntKind.min, IntKind.max, IntKind.signed, IntKind.bits, Bool.false_eq_true, if_false, Bool.and_eq_true, decide_eq_true_eq] at h
    omega
  exact ⟨n.toNat, by omega, by omega⟩
theorem u8_wf {n : Int} (h : (Lit.int .u8 n).wf = true) : ∃ m : UInt8, n = (m.toNat : Int) := by
  have hb : 0 ≤ n ∧ n < 256 := by
    simp only [Lit.wf, IntKind.min, IntKind.max, IntKind.signed, IntKind.bits, Bool.false_eq_true, if_false, Bool.and_eq_true, decide_eq_true_eq] at h
    omega
  refine ⟨UInt8.ofNat n.toNat, ?_⟩
  simp only [UInt8.toNat_ofNat']
  omega
theorem i64_wf {n : Int} (h : (Lit.int .i64 n).wf = true) : -9223372036854775808 ≤ n ∧ n ≤ 9223372036854775807 := by
  simp only [Lit.wf, IntKind.min, IntKind.max, IntKind.signed, IntKind.bits, if_true, Bool.and_eq_true, decide_eq_true_eq] at h
  omega

end Go.Proofs.Ytalkkhocljehfaa
