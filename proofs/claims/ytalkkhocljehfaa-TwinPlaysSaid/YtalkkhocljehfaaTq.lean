/- General: what a row's listed variables hold; how long an argument's lists may be. Conditions: none. -/
import Derived.Test.YtalkkhocljehfaaTp
import Derived.SizedLaws
import Derived.Lib.LaidTab
set_option linter.unusedVariables false
set_option linter.unusedSimpArgs false
namespace Go.Proofs.Ytalkkhocljehfaa
open Go Go.RowKit Go.ChangeShapes Go.WideShapes

/-- An argument that can be read as data, each of its lists within the form's own reach. -/
def ArgW (P : Program) (W : World) (t : TypeId) (v : Value) : Prop :=
  ∃ (H : Type) (enc : TypeId × Value → H) (base : Nat) (d : DataW H) (ps : List MemPlace), Value.okWide P W .any base t v ∧ DataW.Trod enc P W 0 (fun _ => true) true t v d ps ∧ ∀ n ∈ d.weights P t, n ≤ reachBytes
def ClW (P : Program) (W : World) (t : TypeId) (cs : List Value) : Prop :=
  ∃ (H : Type) (enc : TypeId × Value → H) (n : Nat) (x : DataW H × List MemPlace), DataW.trod enc P W 0 (fun _ => true) true n t cs = some x ∧ ∀ m ∈ x.1.weights P t, m ≤ reachBytes
section
variable {P : Program} {W : World}
theorem ArgW.arg {t : TypeId} {v : Value} (h : ArgW P W t v) : Arg P W t v := by
  obtain ⟨H, enc, base, d, ps, h1, h2, _⟩ := h
  exact ⟨H, enc, base, d, ps, h1, h2⟩
theorem ArgW.clw {t : TypeId} {v : Value} (h : ArgW P W t v) : ClW P W t v.cells.toList := by
  obtain ⟨H, enc, base, d, ps, _, ⟨fuel, hf⟩, hw⟩ := h
  exact ⟨H, enc, fuel, _, hf, hw⟩
theorem ClW.cl {t : TypeId} {cs : List Value} (h : ClW P W t cs) : Cl P W t cs := by
  obtain ⟨H, enc, n, x, hx, _⟩ := h
  exact ⟨H, enc, n, x, hx⟩
theorem ClW.len {t e : TypeId} {a : Option Addr} {l c : Nat} (ht : P.underlying t = some (.slice e)) (h : ClW P W t [.slice a l c]) : l * P.bytesOf e ≤ reachBytes := by
  obtain ⟨H, enc, fuel, x, hf, hw⟩ := h
  rcases Deep.open_slice ht hf with ⟨h, _⟩ | ⟨ad, len, cap, m, n, D, Pl, h, _, hl, hm, hmm, hx, _⟩
  · cases h; rw [Nat.zero_mul]; exact Nat.zero_le _
  · cases h
    subst hx
    refine Nat.le_trans ?_ (hw ((((List.range l).map D).length + ((List.range (m - l)).map fun j => D (l + j)).length) * P.bytesOf e) ?_)
    · exact Nat.mul_le_mul_right _ (by simp)
    · simp [DataW.weights, ht]
theorem ClW.field {t : TypeId} {cs : List Value} (h : ClW P W t cs) (i : Nat) {e : TypeId} {o s : Nat} (hf : fieldAt P t i = some (e, o, s)) : ClW P W e ((cs.drop o).take s) := by
  unfold fieldAt at hf
  split at hf
  · rename_i fs ht
    obtain ⟨H, enc, fuel, x, hx, hw⟩ := h
    obtain ⟨xs, n, _, hxe, _, hlen, hall⟩ := DataW.trod_struct ht hx
    rw [Option.map_eq_some_iff] at hf
    obtain ⟨f, hfi, he⟩ := hf
    cases he
    have h1 := hall i f hfi
    have hi : i < xs.length := by rw [hlen]; exact (Array.getElem?_eq_some_iff.1 hfi).1
    rw [List.getElem?_eq_getElem hi] at h1
    refine ⟨H, enc, n, _, h1, fun m hm => hw m ?_⟩
    subst hxe
    simp only [DataW.weights, ht]
    refine DataW.weights_mem_each (j := i) (t := f.type) (d := (xs[i]).1) ?_ ?_ m hm
    · rw [List.getElem?_map, Array.getElem?_toList, hfi]; rfl
    · rw [List.getElem?_map, List.getElem?_eq_getElem hi]; rfl
  · cases hf
end

theorem laid_mem {P : Program} {W : World} : ∀ {laid : List (String × DataW Unit)} {ps : List MemPlace}, DataW.LaidVars P W laid ps → ∀ {n : String} {d : DataW Unit}, (n, d) ∈ laid →
    ∃ (g : Nat) (t : TypeId) (cs : Array Value) (fuel : Nat) (p : List MemPlace), P.globalNamed n = some g ∧ (P.globals[g]?).map (·.type) = some t ∧ W.var? P n = some cs ∧ DataW.trod (fun _ => ()) P W 0 (fun _ => true) false fuel t cs.toList = some (d, p)
  | [], _, _, _, _, hm => by cases hm
  | (n0, d0) :: r, ps, h, n, d, hm => by
    obtain ⟨g, t, cs, fuel, p, q, h1, h2, h3, h4, h5, _⟩ := h
    rcases List.mem_cons.1 hm with he | hm
    · cases he
      exact ⟨g, t, cs, fuel, p, h1, h2, h3, h4⟩
    · exact laid_mem h5 hm

/-- A listed variable, opened. -/
theorem laid_open {P : Program} {W : World} {laid : List (String × DataW Unit)} {n : String} {d : DataW Unit} {g : Nat} {t : TypeId} (h : laidMet P laid W) (hm : (n, d) ∈ laid) (hg : P.globalNamed n = some g) (ht : (P.globals[g]?).map (·.type) = some t) :
    ∃ (cs : Array Value) (fuel : Nat) (p : List MemPlace), (∀ off : Nat, W.cell? ⟨g, off, none⟩ = cs[off]?) ∧ DataW.trod (fun _ => ()) P W 0 (fun _ => true) false fuel t cs.toList = some (d, p) := by
  obtain ⟨ps, hl, _⟩ := h
  obtain ⟨g', t', cs, fuel, p, h1, h2, h3, h4⟩ := laid_mem hl hm
  obtain rfl := Option.some.inj (hg.symm.trans h1)
  obtain rfl := Option.some.inj (ht.symm.trans h2)
  exact ⟨cs, fuel, p, fun off => World.var?_cell hg h3 off, h4⟩

theorem laid_tab {P : Program} {W : World} {laid : List (String × DataW Unit)} {n : String} {g : Nat} {t e : TypeId} {k : IntKind} {zs : List Int} (h : laidMet P laid W) (hm : (n, Lib.tabData k zs) ∈ laid) (hg : P.globalNamed n = some g) (hty : (P.globals[g]?).map (·.type) = some t)
    (ht : P.underlying t = some (.array zs.length e)) (he : P.underlying e = some (.int k)) (hce : P.cellsOf e = 1) (hct : P.cellsOf t = zs.length) : ∀ i, i < zs.length → W.cell? ⟨g, i, none⟩ = some (.int k (zs.getD i 0)) := by
  obtain ⟨cs, fuel, p, hc, hd⟩ := laid_open h hm hg hty
  have hcs := Lib.cells_of_tab ht he hce hct hd
  intro i hi
  rw [hc i, ← Array.getElem?_toList, hcs, List.getElem?_map, List.getElem?_eq_getElem hi]
  simp [List.getD, hi]

/-- A listed slice of integers. -/
theorem laid_ints {P : Program} {W : World} {laid : List (String × DataW Unit)} {n : String} {g : Nat} {t e : TypeId} {zs : List Int} (h : laidMet P laid W) (hm : (n, DataW.slice (zs.map fun z => .lit (.int .i64 z)) []) ∈ laid) (hg : P.globalNamed n = some g) (hty : (P.globals[g]?).map (·.type) = some t)
    (ht : P.underlying t = some (.slice e)) (he : P.underlying e = some (.int .i64)) (hce : P.cellsOf e = 1) :
    ∃ a c, W.cell? ⟨g, 0, none⟩ = some (.slice a zs.length c) ∧ Rd W a (zs.map fun z => Value.int .i64 z) := by
  obtain ⟨cs, fuel, p, hc, hd⟩ := laid_open h hm hg hty
  rcases Deep.open_slice1 ht hce hd with ⟨_, hx⟩ | ⟨ad, len, cap, m, q, V, D, Pl, hcs, _, hl, hmax, hmm, hx, hall⟩
  · cases hx
  · have hx1 : (List.range len).map D = zs.map fun z => (DataW.lit (.int .i64 z) : DataW Unit) := by
      have := congrArg Prod.fst hx
      simp only [DataW.slice.injEq] at this
      exact this.1.symm
    have hlen : len = zs.length := by have := congrArg List.length hx1; simpa using this
    subst hlen
    have h0 := hc 0
    rw [← Array.getElem?_toList, hcs] at h0
    refine ⟨some ad, cap, h0, fun i v hv => ?_⟩
    have hi : i < zs.length := by have := (List.getElem?_eq_some_iff.1 hv).1; simpa using this
    obtain ⟨hcell, htr⟩ := hall i (by rw [hmm]; simp only [if_true]; omega)
    obtain ⟨z, hz1, hz2, _⟩ := DataW.trod_int he htr
    have hDi : D i = .lit (.int .i64 zs[i]) := by
      have := congrArg (fun l => l[i]?) hx1
      simpa [hi] using this
    have : z = zs[i] := by
      have := congrArg Prod.fst hz2
      rw [hDi] at this
      simpa using this.symm
    subst this
    have hVi : V i = .int .i64 zs[i] := by simpa using hz1
    have hvv : v = .int .i64 zs[i] := by
      rw [List.getElem?_map, List.getElem?_eq_getElem hi] at hv
      simpa using hv.symm
    rw [hvv]
    have hsp : ad.spot = none := by
      obtain ⟨hc0, _⟩ := hall 0 (by rw [hmm]; simp only [if_true]; omega)
      have ea : ad.add 0 = ad := by simp [Addr.add]
      rw [ea] at hc0
      unfold World.cell? at hc0
      split at hc0
      · cases hs : ad.spot with
        | none => rfl
        | some s => rw [hs] at hc0; cases hc0
      · cases hc0
    obtain ⟨b, o, sp⟩ := ad
    simp only at hsp
    subst hsp
    refine ⟨b, o, rfl, ?_⟩
    rw [add_at, hVi] at hcell
    exact hcell

/-- A field of a listed struct. -/
theorem laid_field {P : Program} {W : World} {t : TypeId} {cs : List Value} {fuel : Nat} {d : DataW Unit} {p : List MemPlace} (h : DataW.trod (fun _ => ()) P W 0 (fun _ => true) false fuel t cs = some (d, p)) (i : Nat) {e : TypeId} {o s : Nat} (hf : fieldAt P t i = some (e, o, s)) :
    ∃ parts fuel' d' p', d = .agg parts ∧ parts[i]? = some d' ∧ DataW.trod (fun _ => ()) P W 0 (fun _ => true) false fuel' e ((cs.drop o).take s) = some (d', p') := by
  unfold fieldAt at hf
  split at hf
  · rename_i fs ht
    obtain ⟨xs, n, _, hxe, _, hlen, hall⟩ := DataW.trod_struct ht h
    rw [Option.map_eq_some_iff] at hf
    obtain ⟨f, hfi, he⟩ := hf
    cases he
    have h1 := hall i f hfi
    have hi : i < xs.length := by rw [hlen]; exact (Array.getElem?_eq_some_iff.1 hfi).1
    rw [List.getElem?_eq_getElem hi] at h1
    have hd : d = .agg (xs.map (·.1)) := congrArg Prod.fst hxe
    exact ⟨_, n, (xs[i]).1, (xs[i]).2, hd, by rw [List.getElem?_map, List.getElem?_eq_getElem hi]; rfl, h1⟩
  · cases hf
/-- An integer field of a listed struct: the cell at its place. -/
theorem laid_int {P : Program} {W : World} {t : TypeId} {cs : List Value} {fuel : Nat} {d : DataW Unit} {p : List MemPlace} (h : DataW.trod (fun _ => ()) P W 0 (fun _ => true) false fuel t cs = some (d, p)) (i : Nat) {e : TypeId} {o : Nat} {k : IntKind} (hf : fieldAt P t i = some (e, o, 1)) (he : P.underlying e = some (.int k))
    {parts : List (DataW Unit)} (hd : d = .agg parts) {z : Int} (hz : parts[i]? = some (.lit (.int k z))) : cs[o]? = some (.int k z) := by
  obtain ⟨parts', fuel', d', p', h1, h2, h3⟩ := laid_field h i hf
  rw [hd] at h1
  cases h1
  rw [hz] at h2
  cases h2
  obtain ⟨z', hz1, hz2, _⟩ := DataW.trod_int he h3
  have : z' = z := by
    have := congrArg Prod.fst hz2
    simpa using this.symm
  subst this
  have := congrArg (fun l => l[0]?) hz1
  simpa [List.getElem?_take, List.getElem?_drop] using this
end Go.Proofs.Ytalkkhocljehfaa
