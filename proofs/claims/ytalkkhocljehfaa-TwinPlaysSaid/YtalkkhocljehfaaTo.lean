/- Arguments as they come in: what their reading as data says of memory. Conditions: none. -/
import Derived.Test.YtalkkhocljehfaaTa
import Derived.ProofKit
import Derived.OpenShut
import Derived.Deep.Slices
import Derived.Lib.SmallJoins
namespace Go.Proofs.Ytalkkhocljehfaa
open Go Go.RowKit Go.ChangeShapes Go.WideShapes

/-- An argument that can be read as data of type t. -/
def Arg (P : Program) (W : World) (t : TypeId) (v : Value) : Prop :=
  ∃ (H : Type) (enc : TypeId × Value → H) (base : Nat) (d : DataW H) (ps : List MemPlace), Value.okWide P W .any base t v ∧ DataW.Trod enc P W 0 (fun _ => true) true t v d ps

/-- Cells that can be read as data of type t. -/
def Cl (P : Program) (W : World) (t : TypeId) (cs : List Value) : Prop :=
  ∃ (H : Type) (enc : TypeId × Value → H) (n : Nat) (x : DataW H × List MemPlace), DataW.trod enc P W 0 (fun _ => true) true n t cs = some x

theorem Arg.cl {P : Program} {W : World} {t : TypeId} {v : Value} (h : Arg P W t v) : Cl P W t v.cells.toList := by
  obtain ⟨H, enc, base, d, ps, _, fuel, hf⟩ := h
  exact ⟨H, enc, fuel, _, hf⟩

section
variable {P : Program} {W : World}

theorem Cl.int {t : TypeId} {k : IntKind} {cs : List Value} (ht : P.underlying t = some (.int k)) (h : Cl P W t cs) : ∃ n : Int, cs = [.int k n] ∧ (Lit.int k n).wf = true := by
  obtain ⟨H, enc, fuel, x, hf⟩ := h
  obtain ⟨n, hc, _, hw⟩ := DataW.trod_int ht hf
  exact ⟨n, hc, hw⟩
theorem Cl.bool {t : TypeId} {cs : List Value} (ht : P.underlying t = some .bool) (h : Cl P W t cs) : ∃ b : Bool, cs = [.bool b] := by
  obtain ⟨H, enc, fuel, x, hf⟩ := h
  obtain ⟨b, hc, _⟩ := DataW.trod_bool ht hf
  exact ⟨b, hc⟩

theorem Arg.int {t : TypeId} {k : IntKind} {v : Value} (ht : P.underlying t = some (.int k)) (h : Arg P W t v) : ∃ n : Int, v = .int k n ∧ (Lit.int k n).wf = true := by
  obtain ⟨H, enc, base, d, ps, hok, hd⟩ := h
  obtain ⟨n, hv, _, _, hw⟩ := open_int ht hok hd
  exact ⟨n, hv, hw⟩
theorem Arg.bool {t : TypeId} {v : Value} (ht : P.underlying t = some .bool) (h : Arg P W t v) : ∃ b : Bool, v = .bool b := by
  obtain ⟨H, enc, base, d, ps, hok, hd⟩ := h
  obtain ⟨b, hv, _⟩ := open_bool ht hok hd
  exact ⟨b, hv⟩
theorem Arg.slice {t e : TypeId} {v : Value} (ht : P.underlying t = some (.slice e)) (h : Arg P W t v) : ∃ (a : Option Addr) (l c : Nat), v = .slice a l c ∧ Cl P W t [.slice a l c] := by
  have hc := h.cl
  obtain ⟨H, enc, base, d, ps, hok, hd⟩ := h
  obtain ⟨a, l, c, rfl⟩ := okWide_slice ht hok
  exact ⟨a, l, c, rfl, hc⟩
/-- A struct by value. -/
theorem Arg.agg {t : TypeId} {fs : Array Field} {v : Value} (ht : P.underlying t = some (.struct fs)) (h : Arg P W t v) : ∃ cs : Array Value, v = .agg cs ∧ cs.size = P.cellsOf t ∧ Cl P W t cs.toList := by
  have hc := h.cl
  obtain ⟨H, enc, base, d, ps, hok, hd⟩ := h
  obtain ⟨cs, rfl, hsz⟩ := okWide_struct ht hok
  exact ⟨cs, rfl, hsz, hc⟩

theorem cells_row {a : Addr} {n : Nat} {cs : List Value} (h : W.cells? 0 a n = some cs) : cs.length = n ∧ ∀ i v, cs[i]? = some v → W.cell? (a.add i) = some v := by
  obtain ⟨_, hl, hc⟩ := World.cells?_some h
  refine ⟨hl, fun i v hv => ?_⟩
  have hi : i < cs.length := (List.getElem?_eq_some_iff.1 hv).1
  have := hc i (by omega)
  rw [this]
  exact hv

/-- A slice: nil, or each of its elements' cells are there and can be read. -/
theorem Cl.slice {t e : TypeId} {a : Option Addr} {l c : Nat} (ht : P.underlying t = some (.slice e)) (h : Cl P W t [.slice a l c]) :
    (a = none ∧ l = 0 ∧ c = 0) ∨ ∃ ad, a = some ad ∧ l ≤ c ∧ c ≤ 9223372036854775807 ∧ ∀ i, i < l → ∃ cs, cs.length = P.cellsOf e ∧ (∀ j v, cs[j]? = some v → W.cell? ((ad.add (i * P.cellsOf e)).add j) = some v) ∧ Cl P W e cs := by
  obtain ⟨H, enc, fuel, x, hf⟩ := h
  rcases Deep.open_slice ht hf with ⟨h, _⟩ | ⟨ad, len, cap, m, n, D, Pl, h, _, hl, hm, hmm, _, hx⟩
  · cases h; exact .inl ⟨rfl, rfl, rfl⟩
  · cases h
    refine .inr ⟨ad, rfl, hl, by unfold maxLen at hm; omega, fun i hi => ?_⟩
    obtain ⟨cs, h1, h2⟩ := hx i (by simp only [if_true] at hmm; omega)
    obtain ⟨h3, h4⟩ := cells_row h1
    exact ⟨cs, h3, h4, H, enc, n, _, h2⟩

theorem add_spot {a : Addr} {n : Nat} {v : Value} (h : W.cell? (a.add n) = some v) (hn : n = 0 ∨ True) : n ≠ 0 ∨ a.spot = none := by
  by_cases h0 : n = 0
  · subst h0
    right
    unfold Addr.add at h
    rw [if_pos rfl] at h
    unfold World.cell? at h
    split at h
    · cases hs : a.spot with
      | none => rfl
      | some s => rw [hs] at h; cases h
    · cases h
  · exact .inl h0

/-- A slice whose elements have s cells each: the cells of its elements, one behind the other, and each element's reading. -/
theorem Cl.cells {t e : TypeId} {a : Option Addr} {l c : Nat} {s : Nat} (ht : P.underlying t = some (.slice e)) (hs : P.cellsOf e = s) (hs0 : 0 < s) (h : Cl P W t [.slice a l c]) :
    l ≤ c ∧ c ≤ 9223372036854775807 ∧ (a = none → l = 0 ∧ c = 0) ∧ ∃ css : Nat → List Value, (∀ i, i < l → (css i).length = s ∧ Cl P W e (css i)) ∧
      ∀ i, i < l → ∀ j v, (css i)[j]? = some v → ∃ b o, a = some ⟨b, o, none⟩ ∧ W.cell? ⟨b, o + i * s + j, none⟩ = some v := by
  rcases h.slice ht with ⟨rfl, rfl, rfl⟩ | ⟨ad, rfl, hl, hm, hx⟩
  · exact ⟨Nat.le_refl _, by omega, fun _ => ⟨rfl, rfl⟩, fun _ => [], fun i hi => by omega, fun i hi => by omega⟩
  · rw [hs] at hx
    obtain ⟨css, hcss⟩ := Deep.choose_lt (α := List Value) (p := fun i cs => cs.length = s ∧ (∀ j v, cs[j]? = some v → W.cell? ((ad.add (i * s)).add j) = some v) ∧ Cl P W e cs) hx
    refine ⟨hl, hm, fun h => (by cases h), css, fun i hi => ⟨(hcss i hi).1, (hcss i hi).2.2⟩, fun i hi j v hv => ?_⟩
    have hsp : ad.spot = none := by
      have h0 := hcss 0 (by omega)
      have hlt : 0 < (css 0).length := by omega
      have hc := h0.2.1 0 _ (List.getElem?_eq_getElem hlt)
      rw [Nat.zero_mul] at hc
      have ea : (ad.add 0).add 0 = ad := by simp [Addr.add]
      rw [ea] at hc
      unfold World.cell? at hc
      split at hc
      · cases hs : ad.spot with
        | none => rfl
        | some s => rw [hs] at hc; cases hc
      · cases hc
    obtain ⟨b, o, sp⟩ := ad
    simp only at hsp
    subst hsp
    refine ⟨b, o, rfl, ?_⟩
    have := (hcss i hi).2.1 j v hv
    rwa [add_at, add_at] at this

/-- A slice of bytes. -/
theorem Cl.bytes {t e : TypeId} {a : Option Addr} {l c : Nat} (ht : P.underlying t = some (.slice e)) (he : P.underlying e = some (.int .u8)) (hs : P.cellsOf e = 1) (h : Cl P W t [.slice a l c]) :
    l ≤ c ∧ c ≤ 9223372036854775807 ∧ (a = none → l = 0 ∧ c = 0) ∧ ∃ bs : List UInt8, bs.length = l ∧ Rd W a (bvs bs) := by
  obtain ⟨hl, hm, h0, css, h1, h2⟩ := h.cells ht hs (by omega)
  refine ⟨hl, hm, h0, ?_⟩
  have each : ∀ i, i < l → ∃ x : UInt8, css i = [bv x] := by
    intro i hi
    obtain ⟨n, hc, hw⟩ := (h1 i hi).2.int he
    have hb : 0 ≤ n ∧ n < 256 := by
      simp only [Lit.wf, IntKind.min, IntKind.max, IntKind.signed, IntKind.bits, Bool.false_eq_true, if_false, Bool.and_eq_true, decide_eq_true_eq] at hw
      omega
    obtain ⟨m, rfl⟩ := Int.eq_ofNat_of_zero_le hb.1
    exact ⟨UInt8.ofNat m, by rw [hc, bv_of (by omega)]⟩
  obtain ⟨f, hf⟩ := Deep.choose_lt (α := UInt8) (p := fun i x => css i = [bv x]) each
  refine ⟨(List.range l).map f, by simp, fun i v hv => ?_⟩
  have hi : i < l := by
    have := (List.getElem?_eq_some_iff.1 hv).1
    simpa [bvs] using this
  have hv' : v = bv (f i) := by
    simp only [bvs, List.map_map, List.getElem?_map, List.getElem?_range hi, Option.map_some, Function.comp] at hv
    cases hv; rfl
  subst hv'
  obtain ⟨b, o, ha, hc⟩ := h2 i hi 0 (bv (f i)) (by rw [hf i hi]; rfl)
  exact ⟨b, o, ha, by rw [Nat.mul_one, Nat.add_zero] at hc; exact hc⟩
end
end Go.Proofs.Ytalkkhocljehfaa
