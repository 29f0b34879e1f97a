/- Several texts in one: To, Tp, Tq. Conditions: lengths below 2^47. -/
import Derived.Test.YtjhncijdkmbopaaTa
import Derived.ProofKit
import Derived.OpenShut
import Derived.Deep.Slices
import Derived.Lib.SmallJoins
import Derived.ChangeArms
import Derived.SizedLaws
import Derived.Lib.LaidTab
/-! Arguments as they come in: what their reading as data says of memory. Conditions: none. -/
namespace Go.Proofs.Ytjhncijdkmbopaa
open Go Go.RowKit Go.ChangeShapes Go.WideShapes

/-- An argument that can be read as data of type t. -/
def Arg (P : Program) (W : World) (t : TypeId) (v : Value) : Prop :=
  ∃ (H : Type) (enc : TypeId × Value → H) (base : Nat) (d : DataW H) (ps : List MemPlace), Value.okWide P W .any base t v ∧ DataW.Trod enc P W 0 (fun _ => true) true t v d ps

/-- Cells that can be read as data of type t. -/
def Cl (P : Program) (W : World) (t : TypeId) (cs : List Value) : Prop :=
  ∃ (H : Type) (enc : TypeId × Value → H) (n : Nat) (x : DataW H × List MemPlace), DataW.trod enc P W 0 (fun _ => true) true n t cs = some x

theorem Arg.cl {P : Program} {W : World} {t : TypeId} {v : Value} (h : Arg P W t v) : Cl P W t v.cells.toList := by
  obtain ⟨H, enc, base, d, ps, _, fuel, hf⟩ := h
  exact ⟨H, enc, fuel, _, hf⟩

section
variable {P : Program} {W : World}

theorem Cl.int {t : TypeId} {k : IntKind} {cs : List Value} (ht : P.underlying t = some (.int k)) (h : Cl P W t cs) : ∃ n : Int, cs = [.int k n] ∧ (Lit.int k n).wf = true := by
  obtain ⟨H, enc, fuel, x, hf⟩ := h
  obtain ⟨n, hc, _, hw⟩ := DataW.trod_int ht hf
  exact ⟨n, hc, hw⟩
theorem Cl.bool {t : TypeId} {cs : List Value} (ht : P.underlying t = some .bool) (h : Cl P W t cs) : ∃ b : Bool, cs = [.bool b] := by
  obtain ⟨H, enc, fuel, x, hf⟩ := h
  obtain ⟨b, hc, _⟩ := DataW.trod_bool ht hf
  exact ⟨b, hc⟩

theorem Arg.int {t : TypeId} {k : IntKind} {v : Value} (ht : P.underlying t = some (.int k)) (h : Arg P W t v) : ∃ n : Int, v = .int k n ∧ (Lit.int k n).wf = true := by
  obtain ⟨H, enc, base, d, ps, hok, hd⟩ := h
  obtain ⟨n, hv, _, _, hw⟩ := open_int ht hok hd
  exact ⟨n, hv, hw⟩
theorem Arg.bool {t : TypeId} {v : Value} (ht : P.underlying t = some .bool) (h : Arg P W t v) : ∃ b : Bool, v = .bool b := by
  obtain ⟨H, enc, base, d, ps, hok, hd⟩ := h
  obtain ⟨b, hv, _⟩ := open_bool ht hok hd
  exact ⟨b, hv⟩
theorem Arg.slice {t e : TypeId} {v : Value} (ht : P.underlying t = some (.slice e)) (h : Arg P W t v) : ∃ (a : Option Addr) (l c : Nat), v = .slice a l c ∧ Cl P W t [.slice a l c] := by
  have hc := h.cl
  obtain ⟨H, enc, base, d, ps, hok, hd⟩ := h
  obtain ⟨a, l, c, rfl⟩ := okWide_slice ht hok
  exact ⟨a, l, c, rfl, hc⟩
/-- A struct by value. -/
theorem Arg.agg {t : TypeId} {fs : Array Field} {v : Value} (ht : P.underlying t = some (.struct fs)) (h : Arg P W t v) : ∃ cs : Array Value, v = .agg cs ∧ cs.size = P.cellsOf t ∧ Cl P W t cs.toList := by
  have hc := h.cl
  obtain ⟨H, enc, base, d, ps, hok, hd⟩ := h
  obtain ⟨cs, rfl, hsz⟩ := okWide_struct ht hok
  exact ⟨cs, rfl, hsz, hc⟩

theorem cells_row {a : Addr} {n : Nat} {cs : List Value} (h : W.cells? 0 a n = some cs) : cs.length = n ∧ ∀ i v, cs[i]? = some v → W.cell? (a.add i) = some v := by
  obtain ⟨_, hl, hc⟩ := World.cells?_some h
  refine ⟨hl, fun i v hv => ?_⟩
  have hi : i < cs.length := (List.getElem?_eq_some_iff.1 hv).1
  have := hc i (by omega)
  rw [this]
  exact hv

/-- A slice: nil, or each of its elements' cells are there and can be read. -/
theorem Cl.slice {t e : TypeId} {a : Option Addr} {l c : Nat} (ht : P.underlying t = some (.slice e)) (h : Cl P W t [.slice a l c]) :
    (a = none ∧ l = 0 ∧ c = 0) ∨ ∃ ad, a = some ad ∧ l ≤ c ∧ c ≤ 9223372036854775807 ∧ ∀ i, i < l → ∃ cs, cs.length = P.cellsOf e ∧ (∀ j v, cs[j]? = some v → W.cell? ((ad.add (i * P.cellsOf e)).add j) = some v) ∧ Cl P W e cs := by
  obtain ⟨H, enc, fuel, x, hf⟩ := h
  rcases Deep.open_slice ht hf with ⟨h, _⟩ | ⟨ad, len, cap, m, n, D, Pl, h, _, hl, hm, hmm, _, hx⟩
  · cases h; exact .inl ⟨rfl, rfl, rfl⟩
  · cases h
    refine .inr ⟨ad, rfl, hl, by unfold maxLen at hm; omega, fun i hi => ?_⟩
    obtain ⟨cs, h1, h2⟩ := hx i (by simp only [if_true] at hmm; omega)
    obtain ⟨h3, h4⟩ := cells_row h1
    exact ⟨cs, h3, h4, H, enc, n, _, h2⟩

theorem add_spot {a : Addr} {n : Nat} {v : Value} (h : W.cell? (a.add n) = some v) (hn : n = 0 ∨ True) : n ≠ 0 ∨ a.spot = none := by
  by_cases h0 : n = 0
  · subst h0
    right
    unfold Addr.add at h
    rw [if_pos rfl] at h
    unfold World.cell? at h
    split at h
    · cases hs : a.spot with
      | none => rfl
      | some s => rw [hs] at h; cases h
    · cases h
  · exact .inl h0

/-- A slice whose elements have s cells each: the cells of its elements, one behind the other, and each element's reading. -/
theorem Cl.cells {t e : TypeId} {a : Option Addr} {l c : Nat} {s : Nat} (ht : P.underlying t = some (.slice e)) (hs : P.cellsOf e = s) (hs0 : 0 < s) (h : Cl P W t [.slice a l c]) :
    l ≤ c ∧ c ≤ 9223372036854775807 ∧ (a = none → l = 0 ∧ c = 0) ∧ ∃ css : Nat → List Value, (∀ i, i < l → (css i).length = s ∧ Cl P W e (css i)) ∧
      ∀ i, i < l → ∀ j v, (css i)[j]? = some v → ∃ b o, a = some ⟨b, o, none⟩ ∧ W.cell? ⟨b, o + i * s + j, none⟩ = some v := by
  rcases h.slice ht with ⟨rfl, rfl, rfl⟩ | ⟨ad, rfl, hl, hm, hx⟩
  · exact ⟨Nat.le_refl _, by omega, fun _ => ⟨rfl, rfl⟩, fun _ => [], fun i hi => by omega, fun i hi => by omega⟩
  · rw [hs] at hx
    obtain ⟨css, hcss⟩ := Deep.choose_lt (α := List Value) (p := fun i cs => cs.length = s ∧ (∀ j v, cs[j]? = some v → W.cell? ((ad.add (i * s)).add j) = some v) ∧ Cl P W e cs) hx
    refine ⟨hl, hm, fun h => (by cases h), css, fun i hi => ⟨(hcss i hi).1, (hcss i hi).2.2⟩, fun i hi j v hv => ?_⟩
    have hsp : ad.spot = none := by
      have h0 := hcss 0 (by omega)
      have hlt : 0 < (css 0).length := by omega
      have hc := h0.2.1 0 _ (List.getElem?_eq_getElem hlt)
      rw [Nat.zero_mul] at hc
      have ea : (ad.add 0).add 0 = ad := by simp [Addr.add]
      rw [ea] at hc
      unfold World.cell? at hc
      split at hc
      · cases hs : ad.spot with
        | none => rfl
        | some s => rw [hs] at hc; cases hc
      · cases hc
    obtain ⟨b, o, sp⟩ := ad
    simp only at hsp
    subst hsp
    refine ⟨b, o, rfl, ?_⟩
    have := (hcss i hi).2.1 j v hv
    rwa [add_at, add_at] at this

/-- A slice of bytes. -/
theorem Cl.bytes {t e : TypeId} {a : Option Addr} {l c : Nat} (ht : P.underlying t = some (.slice e)) (he : P.underlying e = some (.int .u8)) (hs : P.cellsOf e = 1) (h : Cl P W t [.slice a l c]) :
    l ≤ c ∧ c ≤ 9223372036854775807 ∧ (a = none → l = 0 ∧ c = 0) ∧ ∃ bs : List UInt8, bs.length = l ∧ Rd W a (bvs bs) := by
  obtain ⟨hl, hm, h0, css, h1, h2⟩ := h.cells ht hs (by omega)
  refine ⟨hl, hm, h0, ?_⟩
  have each : ∀ i, i < l → ∃ x : UInt8, css i = [bv x] := by
    intro i hi
    obtain ⟨n, hc, hw⟩ := (h1 i hi).2.int he
    have hb : 0 ≤ n ∧ n < 256 := by
      simp only [Lit.wf, IntKind.min, IntKind.max, IntKind.signed, IntKind.bits, Bool.false_eq_true, if_false, Bool.and_eq_true, decide_eq_true_eq] at hw
      omega
    obtain ⟨m, rfl⟩ := Int.eq_ofNat_of_zero_le hb.1
    exact ⟨UInt8.ofNat m, by rw [hc, bv_of (by omega)]⟩
  obtain ⟨f, hf⟩ := Deep.choose_lt (α := UInt8) (p := fun i x => css i = [bv x]) each
  refine ⟨(List.range l).map f, by simp, fun i v hv => ?_⟩
  have hi : i < l := by
    have := (List.getElem?_eq_some_iff.1 hv).1
    simpa [bvs] using this
  have hv' : v = bv (f i) := by
    simp only [bvs, List.map_map, List.getElem?_map, List.getElem?_range hi, Option.map_some, Function.comp] at hv
    cases hv; rfl
  subst hv'
  obtain ⟨b, o, ha, hc⟩ := h2 i hi 0 (bv (f i)) (by rw [hf i hi]; rfl)
  exact ⟨b, o, ha, by rw [Nat.mul_one, Nat.add_zero] at hc; exact hc⟩
end
end Go.Proofs.Ytjhncijdkmbopaa
/-! Arguments that are structs: their fields. Conditions: none. -/
set_option linter.unusedVariables false
set_option linter.unusedSimpArgs false
namespace Go.Proofs.Ytjhncijdkmbopaa
open Go Go.RowKit Go.ChangeShapes Go.WideShapes

def fieldAt (P : Program) (t : TypeId) (i : Nat) : Option (TypeId × Nat × Nat) :=
  match P.underlying t with
  | some (.struct fs) => (fs[i]?).map fun f => (f.type, f.offset, P.cellsOf f.type)
  | _ => none

section
variable {P : Program} {W : World}
theorem Cl.field {t : TypeId} {cs : List Value} (h : Cl P W t cs) (i : Nat) {e : TypeId} {o s : Nat} (hf : fieldAt P t i = some (e, o, s)) : Cl P W e ((cs.drop o).take s) := by
  unfold fieldAt at hf
  split at hf
  · rename_i fs ht
    obtain ⟨H, enc, fuel, x, hx⟩ := h
    obtain ⟨xs, n, _, _, _, hlen, hall⟩ := DataW.trod_struct ht hx
    rw [Option.map_eq_some_iff] at hf
    obtain ⟨f, hfi, he⟩ := hf
    cases he
    have h1 := hall i f hfi
    have hi : i < xs.length := by rw [hlen]; exact (Array.getElem?_eq_some_iff.1 hfi).1
    rw [List.getElem?_eq_getElem hi] at h1
    exact ⟨H, enc, n, _, h1⟩
  · cases hf

def structCells (P : Program) (t : TypeId) : Option Nat :=
  match P.underlying t with
  | some (.struct _) => some (P.cellsOf t)
  | _ => none
theorem Cl.slen {t : TypeId} {cs : List Value} (h : Cl P W t cs) {s : Nat} (hs : structCells P t = some s) : cs.length = s := by
  unfold structCells at hs
  split at hs
  · rename_i fs ht
    obtain ⟨H, enc, fuel, x, hx⟩ := h
    obtain ⟨xs, n, _, _, hl, _⟩ := DataW.trod_struct ht hx
    cases hs
    exact hl
  · cases hs
theorem Arg.struct {t : TypeId} {v : Value} {s : Nat} (hs : structCells P t = some s) (h : Arg P W t v) : ∃ cs : Array Value, v = .agg cs ∧ Cl P W t cs.toList := by
  unfold structCells at hs
  split at hs
  · rename_i fs ht
    obtain ⟨cs, hv, _, hc⟩ := h.agg ht
    exact ⟨cs, hv, hc⟩
  · cases hs
end

theorem u64_wf {n : Int} (h : (Lit.int .u64 n).wf = true) : ∃ m : Nat, n = (m : Int) ∧ m < 18446744073709551616 := by
  have hb : 0 ≤ n ∧ n < 18446744073709551616 := by
    simp only [Lit.wf, IntKind.min, IntKind.max, IntKind.signed, IntKind.bits, Bool.false_eq_true, if_false, Bool.and_eq_true, decide_eq_true_eq] at h
    omega
  exact ⟨n.toNat, by omega, by omega⟩
theorem u32_wf {n : Int} (h : (Lit.int .u32 n).wf = true) : ∃ m : Nat, n = (m : Int) ∧ m < 4294967296 := by
  have hb : 0 ≤ n ∧ n < 4294967296 := by
    simp only [Lit.wf, IntKind.min, IntKind.max, IntKind.signed, IntKind.bits, Bool.false_eq_true, if_false, Bool.and_eq_true, decide_eq_true_eq] at h
    omega
  exact ⟨n.toNat, by omega, by omega⟩
theorem u8_wf {n : Int} (h : (Lit.int .u8 n).wf = true) : ∃ m : UInt8, n = (m.toNat : Int) := by
  have hb : 0 ≤ n ∧ n < 256 := by
    simp only [Lit.wf, IntKind.min, IntKind.max, IntKind.signed, IntKind.bits, Bool.false_eq_true, if_false, Bool.and_eq_true, decide_eq_true_eq] at h
    omega
  refine ⟨UInt8.ofNat n.toNat, ?_⟩
  simp only [UInt8.toNat_ofNat']
  omega
theorem i64_wf {n : Int} (h : (Lit.int .i64 n).wf = true) : -9223372036854775808 ≤ n ∧ n ≤ 9223372036854775807 := by
  simp only [Lit.wf, IntKind.min, IntKind.max, IntKind.signed, IntKind.bits, if_true, Bool.and_eq_true, decide_eq_true_eq] at h
  omega

end Go.Proofs.Ytjhncijdkmbopaa
/-! General: what a row's listed variables hold; how long an argument's lists may be. Conditions: none. -/
set_option linter.unusedVariables false
set_option linter.unusedSimpArgs false
namespace Go.Proofs.Ytjhncijdkmbopaa
open Go Go.RowKit Go.ChangeShapes Go.WideShapes

/-- An argument that can be read as data, each of its lists within the form's own reach. -/
def ArgW (P : Program) (W : World) (t : TypeId) (v : Value) : Prop :=
  ∃ (H : Type) (enc : TypeId × Value → H) (base : Nat) (d : DataW H) (ps : List MemPlace), Value.okWide P W .any base t v ∧ DataW.Trod enc P W 0 (fun _ => true) true t v d ps ∧ ∀ n ∈ d.weights P t, n ≤ reachBytes
def ClW (P : Program) (W : World) (t : TypeId) (cs : List Value) : Prop :=
  ∃ (H : Type) (enc : TypeId × Value → H) (n : Nat) (x : DataW H × List MemPlace), DataW.trod enc P W 0 (fun _ => true) true n t cs = some x ∧ ∀ m ∈ x.1.weights P t, m ≤ reachBytes
section
variable {P : Program} {W : World}
theorem ArgW.arg {t : TypeId} {v : Value} (h : ArgW P W t v) : Arg P W t v := by
  obtain ⟨H, enc, base, d, ps, h1, h2, _⟩ := h
  exact ⟨H, enc, base, d, ps, h1, h2⟩
theorem ArgW.clw {t : TypeId} {v : Value} (h : ArgW P W t v) : ClW P W t v.cells.toList := by
  obtain ⟨H, enc, base, d, ps, _, ⟨fuel, hf⟩, hw⟩ := h
  exact ⟨H, enc, fuel, _, hf, hw⟩
theorem ClW.cl {t : TypeId} {cs : List Value} (h : ClW P W t cs) : Cl P W t cs := by
  obtain ⟨H, enc, n, x, hx, _⟩ := h
  exact ⟨H, enc, n, x, hx⟩
theorem ClW.len {t e : TypeId} {a : Option Addr} {l c : Nat} (ht : P.underlying t = some (.slice e)) (h : ClW P W t [.slice a l c]) : l * P.bytesOf e ≤ reachBytes := by
  obtain ⟨H, enc, fuel, x, hf, hw⟩ := h
  rcases Deep.open_slice ht hf with ⟨h, _⟩ | ⟨ad, len, cap, m, n, D, Pl, h, _, hl, hm, hmm, hx, _⟩
  · cases h; rw [Nat.zero_mul]; exact Nat.zero_le _
  · cases h
    subst hx
    refine Nat.le_trans ?_ (hw ((((List.range l).map D).length + ((List.range (m - l)).map fun j => D (l + j)).length) * P.bytesOf e) ?_)
    · exact Nat.mul_le_mul_right _ (by simp)
    · simp [DataW.weights, ht]
theorem ClW.field {t : TypeId} {cs : List Value} (h : ClW P W t cs) (i : Nat) {e : TypeId} {o s : Nat} (hf : fieldAt P t i = some (e, o, s)) : ClW P W e ((cs.drop o).take s) := by
  unfold fieldAt at hf
  split at hf
  · rename_i fs ht
    obtain ⟨H, enc, fuel, x, hx, hw⟩ := h
    obtain ⟨xs, n, _, hxe, _, hlen, hall⟩ := DataW.trod_struct ht hx
    rw [Option.map_eq_some_iff] at hf
    obtain ⟨f, hfi, he⟩ := hf
    cases he
    have h1 := hall i f hfi
    have hi : i < xs.length := by rw [hlen]; exact (Array.getElem?_eq_some_iff.1 hfi).1
    rw [List.getElem?_eq_getElem hi] at h1
    refine ⟨H, enc, n, _, h1, fun m hm => hw m ?_⟩
    subst hxe
    simp only [DataW.weights, ht]
    refine DataW.weights_mem_each (j := i) (t := f.type) (d := (xs[i]).1) ?_ ?_ m hm
    · rw [List.getElem?_map, Array.getElem?_toList, hfi]; rfl
    · rw [List.getElem?_map, List.getElem?_eq_getElem hi]; rfl
  · cases hf
end

theorem laid_mem {P : Program} {W : World} : ∀ {laid : List (String × DataW Unit)} {ps : List MemPlace}, DataW.LaidVars P W laid ps → ∀ {n : String} {d : DataW Unit}, (n, d) ∈ laid →
    ∃ (g : Nat) (t : TypeId) (cs : Array Value) (fuel : Nat) (p : List MemPlace), P.globalNamed n = some g ∧ (P.globals[g]?).map (·.type) = some t ∧ W.var? P n = some cs ∧ DataW.trod (fun _ => ()) P W 0 (fun _ => true) false fuel t cs.toList = some (d, p)
  | [], _, _, _, _, hm => by cases hm
  | (n0, d0) :: r, ps, h, n, d, hm => by
    obtain ⟨g, t, cs, fuel, p, q, h1, h2, h3, h4, h5, _⟩ := h
    rcases List.mem_cons.1 hm with he | hm
    · cases he
      exact ⟨g, t, cs, fuel, p, h1, h2, h3, h4⟩
    · exact laid_mem h5 hm

/-- A listed variable, opened. -/
theorem laid_open {P : Program} {W : World} {laid : List (String × DataW Unit)} {n : String} {d : DataW Unit} {g : Nat} {t : TypeId} (h : laidMet P laid W) (hm : (n, d) ∈ laid) (hg : P.globalNamed n = some g) (ht : (P.globals[g]?).map (·.type) = some t) :
    ∃ (cs : Array Value) (fuel : Nat) (p : List MemPlace), (∀ off : Nat, W.cell? ⟨g, off, none⟩ = cs[off]?) ∧ DataW.trod (fun _ => ()) P W 0 (fun _ => true) false fuel t cs.toList = some (d, p) := by
  obtain ⟨ps, hl, _⟩ := h
  obtain ⟨g', t', cs, fuel, p, h1, h2, h3, h4⟩ := laid_mem hl hm
  obtain rfl := Option.some.inj (hg.symm.trans h1)
  obtain rfl := Option.some.inj (ht.symm.trans h2)
  exact ⟨cs, fuel, p, fun off => World.var?_cell hg h3 off, h4⟩

theorem laid_tab {P : Program} {W : World} {laid : List (String × DataW Unit)} {n : String} {g : Nat} {t e : TypeId} {k : IntKind} {zs : List Int} (h : laidMet P laid W) (hm : (n, Lib.tabData k zs) ∈ laid) (hg : P.globalNamed n = some g) (hty : (P.globals[g]?).map (·.type) = some t)
    (ht : P.underlying t = some (.array zs.length e)) (he : P.underlying e = some (.int k)) (hce : P.cellsOf e = 1) (hct : P.cellsOf t = zs.length) : ∀ i, i < zs.length → W.cell? ⟨g, i, none⟩ = some (.int k (zs.getD i 0)) := by
  obtain ⟨cs, fuel, p, hc, hd⟩ := laid_open h hm hg hty
  have hcs := Lib.cells_of_tab ht he hce hct hd
  intro i hi
  rw [hc i, ← Array.getElem?_toList, hcs, List.getElem?_map, List.getElem?_eq_getElem hi]
  simp [List.getD, hi]

/-- A listed slice of integers. -/
theorem laid_ints {P : Program} {W : World} {laid : List (String × DataW Unit)} {n : String} {g : Nat} {t e : TypeId} {zs : List Int} (h : laidMet P laid W) (hm : (n, DataW.slice (zs.map fun z => .lit (.int .i64 z)) []) ∈ laid) (hg : P.globalNamed n = some g) (hty : (P.globals[g]?).map (·.type) = some t)
    (ht : P.underlying t = some (.slice e)) (he : P.underlying e = some (.int .i64)) (hce : P.cellsOf e = 1) :
    ∃ a c, W.cell? ⟨g, 0, none⟩ = some (.slice a zs.length c) ∧ Rd W a (zs.map fun z => Value.int .i64 z) := by
  obtain ⟨cs, fuel, p, hc, hd⟩ := laid_open h hm hg hty
  rcases Deep.open_slice1 ht hce hd with ⟨_, hx⟩ | ⟨ad, len, cap, m, q, V, D, Pl, hcs, _, hl, hmax, hmm, hx, hall⟩
  · cases hx
  · have hx1 : (List.range len).map D = zs.map fun z => (DataW.lit (.int .i64 z) : DataW Unit) := by
      have := congrArg Prod.fst hx
      simp only [DataW.slice.injEq] at this
      exact this.1.symm
    have hlen : len = zs.length := by have := congrArg List.length hx1; simpa using this
    subst hlen
    have h0 := hc 0
    rw [← Array.getElem?_toList, hcs] at h0
    refine ⟨some ad, cap, h0, fun i v hv => ?_⟩
    have hi : i < zs.length := by have := (List.getElem?_eq_some_iff.1 hv).1; simpa using this
    obtain ⟨hcell, htr⟩ := hall i (by rw [hmm]; simp only [if_true]; omega)
    obtain ⟨z, hz1, hz2, _⟩ := DataW.trod_int he htr
    have hDi : D i = .lit (.int .i64 zs[i]) := by
      have := congrArg (fun l => l[i]?) hx1
      simpa [hi] using this
    have : z = zs[i] := by
      have := congrArg Prod.fst hz2
      rw [hDi] at this
      simpa using this.symm
    subst this
    have hVi : V i = .int .i64 zs[i] := by simpa using hz1
    have hvv : v = .int .i64 zs[i] := by
      rw [List.getElem?_map, List.getElem?_eq_getElem hi] at hv
      simpa using hv.symm
    rw [hvv]
    have hsp : ad.spot = none := by
      obtain ⟨hc0, _⟩ := hall 0 (by rw [hmm]; simp only [if_true]; omega)
      have ea : ad.add 0 = ad := by simp [Addr.add]
      rw [ea] at hc0
      unfold World.cell? at hc0
      split at hc0
      · cases hs : ad.spot with
        | none => rfl
        | some s => rw [hs] at hc0; cases hc0
      · cases hc0
    obtain ⟨b, o, sp⟩ := ad
    simp only at hsp
    subst hsp
    refine ⟨b, o, rfl, ?_⟩
    rw [add_at, hVi] at hcell
    exact hcell

/-- A field of a listed struct. -/
theorem laid_field {P : Program} {W : World} {t : TypeId} {cs : List Value} {fuel : Nat} {d : DataW Unit} {p : List MemPlace} (h : DataW.trod (fun _ => ()) P W 0 (fun _ => true) false fuel t cs = some (d, p)) (i : Nat) {e : TypeId} {o s : Nat} (hf : fieldAt P t i = some (e, o, s)) :
    ∃ parts fuel' d' p', d = .agg parts ∧ parts[i]? = some d' ∧ DataW.trod (fun _ => ()) P W 0 (fun _ => true) false fuel' e ((cs.drop o).take s) = some (d', p') := by
  unfold fieldAt at hf
  split at hf
  · rename_i fs ht
    obtain ⟨xs, n, _, hxe, _, hlen, hall⟩ := DataW.trod_struct ht h
    rw [Option.map_eq_some_iff] at hf
    obtain ⟨f, hfi, he⟩ := hf
    cases he
    have h1 := hall i f hfi
    have hi : i < xs.length := by rw [hlen]; exact (Array.getElem?_eq_some_iff.1 hfi).1
    rw [List.getElem?_eq_getElem hi] at h1
    have hd : d = .agg (xs.map (·.1)) := congrArg Prod.fst hxe
    exact ⟨_, n, (xs[i]).1, (xs[i]).2, hd, by rw [List.getElem?_map, List.getElem?_eq_getElem hi]; rfl, h1⟩
  · cases hf
/-- An integer field of a listed struct: the cell at its place. -/
theorem laid_int {P : Program} {W : World} {t : TypeId} {cs : List Value} {fuel : Nat} {d : DataW Unit} {p : List MemPlace} (h : DataW.trod (fun _ => ()) P W 0 (fun _ => true) false fuel t cs = some (d, p)) (i : Nat) {e : TypeId} {o : Nat} {k : IntKind} (hf : fieldAt P t i = some (e, o, 1)) (he : P.underlying e = some (.int k))
    {parts : List (DataW Unit)} (hd : d = .agg parts) {z : Int} (hz : parts[i]? = some (.lit (.int k z))) : cs[o]? = some (.int k z) := by
  obtain ⟨parts', fuel', d', p', h1, h2, h3⟩ := laid_field h i hf
  rw [hd] at h1
  cases h1
  rw [hz] at h2
  cases h2
  obtain ⟨z', hz1, hz2, _⟩ := DataW.trod_int he h3
  have : z' = z := by
    have := congrArg Prod.fst hz2
    simpa using this.symm
  subst this
  have := congrArg (fun l => l[0]?) hz1
  simpa [List.getElem?_take, List.getElem?_drop] using this
end Go.Proofs.Ytjhncijdkmbopaa
