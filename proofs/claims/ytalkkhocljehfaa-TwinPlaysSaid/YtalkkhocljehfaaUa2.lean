/- Elements of a list that is handed in, each within its own reach. Conditions: none. -/
import Derived.Test.YtalkkhocljehfaaTq
set_option linter.unusedVariables false
set_option linter.unusedSimpArgs false
namespace Go.Proofs.Ytalkkhocljehfaa
open Go Go.RowKit Go.ChangeShapes Go.WideShapes

theorem weights_all {H : Type} {P : Program} {e : TypeId} : ∀ {ds : List (DataW H)} {d : DataW H}, d ∈ ds → ∀ n ∈ d.weights P e, n ∈ DataW.weightsAll P e ds
  | d0 :: r, d, hd, n, hn => by
    rw [DataW.weightsAll, List.mem_append]
    rcases List.mem_cons.1 hd with rfl | hd
    · exact .inl hn
    · exact .inr (weights_all hd n hn)
/-- Elements of a list, each within the form's own reach. -/
theorem ClW.cells {P : Program} {W : World} {t e : TypeId} {a : Option Addr} {l c : Nat} {s : Nat} (ht : P.underlying t = some (.slice e)) (hs : P.cellsOf e = s) (hs0 : 0 < s) (h : ClW P W t [.slice a l c]) :
    ∃ css : Nat → List Value, (∀ i, i < l → ClW P W e (css i)) ∧ ∀ i, i < l → ∀ (q : Nat) v, (css i)[q]? = some v → ∃ b o, a = some ⟨b, o, none⟩ ∧ W.cell? ⟨b, o + i * s + q, none⟩ = some v := by
  obtain ⟨H, enc, fuel, x, hf, hw⟩ := h
  rcases Deep.open_slice ht hf with ⟨h, _⟩ | ⟨ad, len, cap, m, n, D, Pl, h, _, hl, hm, hmm, hx, hall⟩
  · cases h
    exact ⟨fun _ => [], fun i hi => by omega, fun i hi => by omega⟩
  · cases h
    have each : ∀ i, i < l → ∃ cs : List Value, cs.length = s ∧ (∀ j v, cs[j]? = some v → W.cell? ((ad.add (i * s)).add j) = some v) ∧ ClW P W e cs := fun i hi => by
      obtain ⟨cs, g1, g2⟩ := hall i (by simp only [if_true] at hmm; omega)
      obtain ⟨g3, g4⟩ := cells_row g1
      rw [hs] at g3 g4
      refine ⟨cs, g3, g4, H, enc, n, _, g2, fun k hk => hw k ?_⟩
      subst hx
      simp only [DataW.weights, ht]
      refine List.mem_cons_of_mem _ (List.mem_append.2 (.inl (weights_all (d := D i) ?_ k hk)))
      exact List.mem_map.2 ⟨i, List.mem_range.2 hi, rfl⟩
    obtain ⟨css, hcss⟩ := Deep.choose_lt (α := List Value) (p := fun i cs => cs.length = s ∧ (∀ j v, cs[j]? = some v → W.cell? ((ad.add (i * s)).add j) = some v) ∧ ClW P W e cs) each
    refine ⟨css, fun i hi => (hcss i hi).2.2, fun i hi j v hv => ?_⟩
    have hsp : ad.spot = none := by
      have h0 := hcss 0 (by omega)
      have hlt : 0 < (css 0).length := by omega
      have hc := h0.2.1 0 _ (List.getElem?_eq_getElem hlt)
      rw [Nat.zero_mul] at hc
      have ea : (ad.add 0).add 0 = ad := by simp [Addr.add]
      rw [ea] at hc
      unfold World.cell? at hc
      split at hc
      · cases hs : ad.spot with
        | none => rfl
        | some s => rw [hs] at hc; cases hc
      · cases hc
    obtain ⟨b, o, sp⟩ := ad
    simp only at hsp
    subst hsp
    refine ⟨b, o, rfl, ?_⟩
    have := (hcss i hi).2.1 j v hv
    rwa [add_at, add_at] at this
end Go.Proofs.Ytalkkhocljehfaa
