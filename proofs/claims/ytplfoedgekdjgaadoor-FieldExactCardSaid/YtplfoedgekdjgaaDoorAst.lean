/- Arguments that are structs: their fields; the statements' own Num. Conditions: none. -/
import Derived.Test.YtplfoedgekdjgaaDoorArg
import Derived.ChangeArms
set_option linter.unusedVariables false
set_option linter.unusedSimpArgs false
namespace Go.Proofs.YtplfoedgekdjgaaDoor
open Go Go.RowKit Go.ChangeShapes Go.WideShapes

def fieldAt (P : Program) (t : TypeId) (i : Nat) : Option (TypeId × Nat × Nat) :=
  match P.underlying t with
  | some (.struct fs) => (fs[i]?).map fun f => (f.type, f.offset, P.cellsOf f.type)
  | _ => none

section
variable {P : Program} {W : World}
theorem Cl.field {t : TypeId} {cs : List Value} (h : Cl P W t cs) (i : Nat) {e : TypeId} {o s : Nat} (hf : fieldAt P t i = some (e, o, s)) : Cl P W e ((cs.drop o).take s) := by
  unfold fieldAt at hf
  split at hf
  · rename_i fs ht
    obtain ⟨H, enc, fuel, x, hx⟩ := h
    obtain ⟨xs, n, _, _, _, hlen, hall⟩ := DataW.trod_struct ht hx
    rw [Option.map_eq_some_iff] at hf
    obtain ⟨f, hfi, he⟩ := hf
    cases he
    have h1 := hall i f hfi
    have hi : i < xs.length := by rw [hlen]; exact (Array.getElem?_eq_some_iff.1 hfi).1
    rw [List.getElem?_eq_getElem hi] at h1
    exact ⟨H, enc, n, _, h1⟩
  · cases hf

def structCells (P : Program) (t : TypeId) : Option Nat :=
  match P.underlying t with
  | some (.struct _) => some (P.cellsOf t)
  | _ => none
theorem Cl.slen {t : TypeId} {cs : List Value} (h : Cl P W t cs) {s : Nat} (hs : structCells P t = some s) : cs.length = s := by
  unfold structCells at hs
  split at hs
  · rename_i fs ht
    obtain ⟨H, enc, fuel, x, hx⟩ := h
    obtain ⟨xs, n, _, _, hl, _⟩ := DataW.trod_struct ht hx
    cases hs
    exact hl
  · cases hs
theorem Arg.struct {t : TypeId} {v : Value} {s : Nat} (hs : structCells P t = some s) (h : Arg P W t v) : ∃ cs : Array Value, v = .agg cs ∧ Cl P W t cs.toList := by
  unfold structCells at hs
  split at hs
  · rename_i fs ht
    obtain ⟨cs, hv, _, hc⟩ := h.agg ht
    exact ⟨cs, hv, hc⟩
  · cases hs
end

theorem u64_wf {n : Int} (h : (Lit.int .u64 n).wf = true) : ∃ m : Nat, n = (m : Int) ∧ m < 18446744073709551616 := by
  have hb : 0 ≤ n ∧ n < 18446744073709551616 := by
    simp only [Lit.wf, IntKind.min, IntKind.max, IntKind.signed, IntKind.bits, Bool.false_eq_true, if_false, Bool.and_eq_true, decide_eq_true_eq] at h
    omega
  exact ⟨n.toNat, by omega, by omega⟩
theorem u32_wf {n : Int} (h : (Lit.int .u32 n).wf = true) : ∃ m : Nat, n = (m : Int) ∧ m < 4294967296 := by
  have hb : 0 ≤ n ∧ n < 4294967296 := by
    simp only [Lit.wf, IntKind.min, IntKind.max, IntKind.signed, IntKind.bits, Bool.false_eq_true, if_false, Bool.and_eq_true, decide_eq_true_eq] at h
    omega
  exact ⟨n.toNat, by omega, by omega⟩
theorem u8_wf {n : Int} (h : (Lit.int .u8 n).wf = true) : ∃ m : UInt8, n = (m.toNat : Int) := by
  have hb : 0 ≤ n ∧ n < 256 := by
    simp only [Lit.wf, IntKind.min, IntKind.max, IntKind.signed, IntKind.bits, Bool.false_eq_true, if_false, Bool.and_eq_true, decide_eq_true_eq] at h
    omega
  refine ⟨UInt8.ofNat n.toNat, ?_⟩
  simp only [UInt8.toNat_ofNat']
  omega
theorem i64_wf {n : Int} (h : (Lit.int .i64 n).wf = true) : -9223372036854775808 ≤ n ∧ n ≤ 9223372036854775807 := by
  simp only [Lit.wf, IntKind.min, IntKind.max, IntKind.signed, IntKind.bits, if_true, Bool.and_eq_true, decide_eq_true_eq] at h
  omega

/-- A number of the statements: with a sign, or without. -/
structure NumL where
  sg : Bool
  n : Nat
  i : Int
def NumL.ok (x : NumL) : Prop := x.n < 18446744073709551616 ∧ -9223372036854775808 ≤ x.i ∧ x.i ≤ 9223372036854775807
def NumL.cs (x : NumL) : List Value := [.bool x.sg, .int .u64 (x.n : Int), .int .i64 x.i]

theorem num_open {W : World} {cs : List Value} (h : Cl Tryd.prog W T_quotalaw02_Num cs) : ∃ x : NumL, x.ok ∧ cs = x.cs := by
  have hl := h.slen (s := 3) (by kernel_rfl)
  have f0 := h.field 0 (e := T_bool) (o := 0) (s := 1) (by kernel_rfl)
  have f1 := h.field 1 (e := T_uint64) (o := 1) (s := 1) (by kernel_rfl)
  have f2 := h.field 2 (e := T_int64) (o := 2) (s := 1) (by kernel_rfl)
  match cs, hl with
  | [x, y, z], _ =>
    simp only [List.drop_zero, List.drop_succ_cons, List.take_succ_cons, List.take_zero] at f0 f1 f2
    obtain ⟨b, h0⟩ := f0.bool (by kernel_rfl)
    obtain ⟨n, h1, w1⟩ := f1.int (k := .u64) (by kernel_rfl)
    obtain ⟨i, h2, w2⟩ := f2.int (k := .i64) (by kernel_rfl)
    obtain ⟨m, rfl, hm⟩ := u64_wf w1
    have := i64_wf w2
    cases h0; cases h1; cases h2
    exact ⟨⟨b, m, i⟩, ⟨hm, this.1, this.2⟩, rfl⟩
end Go.Proofs.YtplfoedgekdjgaaDoor
