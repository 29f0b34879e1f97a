/- The statement FieldBack, its walk at arguments as they come in. Conditions: the checksum's table stands. -/
import Derived.Test.YtplfoedgekdjgaaDoorPe
set_option linter.unusedVariables false
namespace Go.Proofs.YtplfoedgekdjgaaDoor
open Go Go.RowKit Go.ChangeShapes Go.WideShapes

instance : Inhabited NumL := ⟨⟨false, 0, 0⟩⟩
theorem nums_open {W : World} {a : Option Addr} {l c : Nat} (h : Cl Tryd.prog W T_s_quotalaw02_Num [.slice a l c]) : l ≤ c ∧ ∃ L : List NumL, L.length = l ∧ (∀ x ∈ L, x.ok) ∧ Nums W a L := by
  obtain ⟨hl, hm, h0, css, h1, h2⟩ := h.cells (e := T_quotalaw02_Num) (s := 3) (by kernel_rfl) (by kernel_rfl) (by omega)
  have each : ∀ i, i < l → ∃ x : NumL, x.ok ∧ css i = x.cs := fun i hi => num_open (h1 i hi).2
  obtain ⟨f, hf⟩ := Deep.choose_lt (α := NumL) (p := fun i x => x.ok ∧ css i = x.cs) each
  refine ⟨hl, (List.range l).map f, by simp, fun x hx => ?_, fun i hi => ?_⟩
  · simp only [List.mem_map, List.mem_range] at hx
    obtain ⟨i, hi, rfl⟩ := hx
    exact (hf i hi).1
  · have hil : i < l := by simpa using hi
    simp only [List.getElem_map, List.getElem_range]
    have hc := (hf i hil).2
    obtain ⟨b, o, ha, c0⟩ := h2 i hil 0 _ (by rw [hc]; rfl)
    obtain ⟨b1, o1, ha1, c1⟩ := h2 i hil 1 _ (by rw [hc]; rfl)
    obtain ⟨b2, o2, ha2, c2⟩ := h2 i hil 2 _ (by rw [hc]; rfl)
    rw [ha] at ha1 ha2
    cases ha1
    cases ha2
    exact ⟨b, o, ha, c0, c1, c2⟩

theorem fieldBack_walk {W : World} (hnib : Nib W) {v0 v1 : Value} (h0 : Arg Tryd.prog W T_s_quotalaw02_Num v0) (h1 : Arg Tryd.prog W T_int v1) :
    GoC Tryd.prog F_law02_FieldBack #[v0, v1] W fun e W' => e = .returned (.bool true) ∧ Kp no W W' := by
  obtain ⟨a1, l1, c1, rfl, k1⟩ := h0.slice (e := T_quotalaw02_Num) (by kernel_rfl)
  obtain ⟨at0, rfl, _⟩ := h1.int (k := .i64) (by kernel_rfl)
  obtain ⟨hl, L, hLl, hok, hL⟩ := nums_open k1
  exact fieldBack_c hnib hL hLl hl hok fun w' k => ⟨rfl, k⟩
end Go.Proofs.YtplfoedgekdjgaaDoor
