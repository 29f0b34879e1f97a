/- The statement FieldOneForm, its walk at arguments as they come in. Conditions: the checksum's table stands. -/
import Derived.Test.YtplfoedgekdjgaaDoorPd
namespace Go.Proofs.YtplfoedgekdjgaaDoor
open Go Go.RowKit Go.ChangeShapes Go.WideShapes

/-- A slice of truth values. -/
theorem Cl.bools {P : Program} {W : World} {t e : TypeId} {a : Option Addr} {l c : Nat} (ht : P.underlying t = some (.slice e)) (he : P.underlying e = some .bool) (hs : P.cellsOf e = 1) (h : Cl P W t [.slice a l c]) :
    ∃ bs : List Bool, bs.length = l ∧ Rd W a (bs.map Value.bool) := by
  obtain ⟨hl, hm, h0, css, h1, h2⟩ := h.cells ht hs (by omega)
  have each : ∀ i, i < l → ∃ x : Bool, css i = [.bool x] := fun i hi => (h1 i hi).2.bool he
  obtain ⟨f, hf⟩ := Deep.choose_lt (α := Bool) (p := fun i x => css i = [.bool x]) each
  refine ⟨(List.range l).map f, by simp, fun i v hv => ?_⟩
  have hi : i < l := by
    have := (List.getElem?_eq_some_iff.1 hv).1
    simpa using this
  have hv' : v = .bool (f i) := by
    simp only [List.map_map, List.getElem?_map, List.getElem?_range hi, Option.map_some, Function.comp] at hv
    cases hv; rfl
  subst hv'
  obtain ⟨b, o, ha, hc⟩ := h2 i hi 0 (.bool (f i)) (by rw [hf i hi]; rfl)
  exact ⟨b, o, ha, by rw [Nat.mul_one, Nat.add_zero] at hc; exact hc⟩

theorem fieldOneForm_walk {W : World} (hnib : Nib W) {v0 v1 : Value} (h0 : Arg Tryd.prog W T_s_uint8 v0) (h1 : Arg Tryd.prog W T_s_bool v1) :
    GoC Tryd.prog F_law02_FieldOneForm #[v0, v1] W fun e W' => e = .returned (.bool true) ∧ Kp no W W' := by
  obtain ⟨a1, l1, c1, rfl, k1⟩ := h0.slice (e := T_uint8) (by kernel_rfl)
  obtain ⟨a2, l2, c2, rfl, k2⟩ := h1.slice (e := T_bool) (by kernel_rfl)
  obtain ⟨hl1, _, hn1, A, hA, hr1⟩ := k1.bytes (e := T_uint8) (by kernel_rfl) (by kernel_rfl) (by kernel_rfl)
  obtain ⟨S, hS, hr2⟩ := k2.bools (e := T_bool) (by kernel_rfl) (by kernel_rfl) (by kernel_rfl)
  exact fieldOneForm_c hnib hr1 hA hl1 (fun h => (hn1 h).1) hr2 hS fun w' k => ⟨rfl, k⟩
end Go.Proofs.YtplfoedgekdjgaaDoor
