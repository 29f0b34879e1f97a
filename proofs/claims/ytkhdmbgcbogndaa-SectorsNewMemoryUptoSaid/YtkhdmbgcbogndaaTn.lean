/- The arguments of layer 3's statements. Conditions: none. -/
import Derived.Test.YtkhdmbgcbogndaaTm
import Derived.Test.YtkhdmbgcbogndaaTq
set_option linter.unusedVariables false
set_option linter.unusedSimpArgs false
namespace Go.Proofs.Ytkhdmbgcbogndaa
open Go Go.RowKit Go.ChangeShapes Go.WideShapes

theorem Cl.slc {P : Program} {W : World} {t e : TypeId} {cs : List Value} (ht : P.underlying t = some (.slice e)) (h : Cl P W t cs) : ∃ (a : Option Addr) (l c : Nat), cs = [.slice a l c] := by
  obtain ⟨H, enc, fuel, x, hf⟩ := h
  rcases Deep.open_slice ht hf with ⟨h, _⟩ | ⟨ad, len, cap, m, n, D, Pl, h, _⟩
  · exact ⟨_, _, _, h⟩
  · exact ⟨_, _, _, h⟩
instance : Inhabited PU := ⟨⟨0, 0⟩⟩
/-- Elements, read cell by cell. -/
theorem rd_flat {α : Type} {f : α → List Value} {s : Nat} (hs : ∀ x, (f x).length = s) (hs0 : 0 < s) {W : World} {a : Option Addr} {L : List α} (h : ∀ i (hi : i < L.length) q v, (f L[i])[q]? = some v → ∃ b o, a = some ⟨b, o, none⟩ ∧ W.cell? ⟨b, o + i * s + q, none⟩ = some v) : Rd W a (flatV f L) := by
  intro j v hv
  have hj : j < L.length * s := by have := (List.getElem?_eq_some_iff.1 hv).1; rwa [flatV_len hs] at this
  have hq : j % s < s := Nat.mod_lt _ hs0
  have hi : j / s < L.length := Nat.div_lt_of_lt_mul (by rwa [Nat.mul_comm])
  have e : j / s * s + j % s = j := by rw [Nat.mul_comm]; exact Nat.div_add_mod j s
  have hg := flatV_get hs L (j / s) hi (j % s) hq
  rw [e, hv] at hg
  obtain ⟨b, o, ha, hc⟩ := h (j / s) hi (j % s) v hg.symm
  refine ⟨b, o, ha, ?_⟩
  rwa [Nat.add_assoc, e] at hc
theorem put_open {W : World} {cs : List Value} (h : Cl Try.prog W T_quotalaw03_Put cs) : ∃ x : PU, cs = x.cs ∧ x.Ok := by
  have hl := h.slen (s := 2) (by kernel_rfl)
  have f0 := h.field 0 (e := T_int) (o := 0) (s := 1) (by kernel_rfl)
  have f1 := h.field 1 (e := T_uint8) (o := 1) (s := 1) (by kernel_rfl)
  match cs, hl with
  | [x0, x1], _ =>
    simp only [List.drop_zero, List.drop_succ_cons, List.take_succ_cons, List.take_zero] at f0 f1
    obtain ⟨i, h0, w0⟩ := f0.int (k := .i64) (by kernel_rfl)
    obtain ⟨g, h1, w1⟩ := f1.int (k := .u8) (by kernel_rfl)
    obtain ⟨m, rfl⟩ := u8_wf w1
    cases h0; cases h1
    exact ⟨⟨i, m⟩, rfl, i64_wf w0⟩
structure PutsOk (W : World) (a : Option Addr) (l c : Nat) (L : List PU) : Prop where
  n : L.length = l
  lc : l ≤ c
  rd : Rd W a (fU L)
  ok : ∀ x ∈ L, x.Ok
theorem puts_open' {W : World} {a : Option Addr} {l c : Nat} (h : Cl Try.prog W T_s_quotalaw03_Put [.slice a l c]) : ∃ L, PutsOk W a l c L := by
  obtain ⟨hl, hm, h0, css, h1, h2⟩ := h.cells (e := T_quotalaw03_Put) (s := 2) (by kernel_rfl) (by kernel_rfl) (by omega)
  have each : ∀ i, i < l → ∃ x : PU, css i = x.cs ∧ x.Ok := fun i hi => put_open (h1 i hi).2
  obtain ⟨f, hf⟩ := Deep.choose_lt (α := PU) (p := fun i x => css i = x.cs ∧ x.Ok) each
  refine ⟨(List.range l).map f, by simp, hl, rd_flat PU.cs_len (by omega) fun i hi q v hv => ?_, fun x hx => ?_⟩
  · have hil : i < l := by simpa using hi
    have e : ((List.range l).map f)[i] = f i := by simp
    rw [e] at hv
    exact h2 i hil q v (by rw [(hf i hil).1]; exact hv)
  · simp only [List.mem_map, List.mem_range] at hx
    obtain ⟨i, hi, rfl⟩ := hx
    exact (hf i hi).2
theorem puts_open {W : World} {v : Value} (h : ArgW Try.prog W T_s_quotalaw03_Put v) : ∃ a l c L, v = .slice a l c ∧ PutsOk W a l c L := by
  obtain ⟨a, l, c, rfl, hc⟩ := h.arg.slice (e := T_quotalaw03_Put) (by kernel_rfl)
  obtain ⟨L, hL⟩ := puts_open' hc
  exact ⟨a, l, c, L, rfl, hL⟩
structure LossOk (W : World) (a : Option Addr) (l : Nat) (keep : List Nat) (torn off : Int) : Prop where
  n : keep.length = l
  rd : Rd W a (keep.map u64v)
  lt : ∀ x ∈ keep, x < 18446744073709551616
  ln : l * 8 ≤ 140737488351232
  nn : a = none → l = 0
theorem loss_open' {W : World} {cs : List Value} (h : ClW Try.prog W T_api_Loss cs) : ∃ a l c keep torn off, cs = [.slice a l c, .int .i64 torn, .int .i64 off] ∧ LossOk W a l keep torn off := by
  have hl := h.cl.slen (s := 3) (by kernel_rfl)
  have f0 := h.field 0 (e := T_s_uint64) (o := 0) (s := 1) (by kernel_rfl)
  have f1 := h.cl.field 1 (e := T_int) (o := 1) (s := 1) (by kernel_rfl)
  have f2 := h.cl.field 2 (e := T_int) (o := 2) (s := 1) (by kernel_rfl)
  match cs, hl with
  | [x0, x1, x2], _ =>
    simp only [List.drop_zero, List.drop_succ_cons, List.take_succ_cons, List.take_zero] at f0 f1 f2
    obtain ⟨a, l, c, h0⟩ := f0.cl.slc (e := T_uint64) (by kernel_rfl)
    obtain ⟨torn, h1, w1⟩ := f1.int (k := .i64) (by kernel_rfl)
    obtain ⟨off, h2, w2⟩ := f2.int (k := .i64) (by kernel_rfl)
    cases h0; cases h1; cases h2
    have hln := f0.len (e := T_uint64) (by kernel_rfl)
    have b1 : Try.prog.bytesOf T_uint64 = 8 := by kernel_rfl
    have hreach : reachBytes = 140737488351232 := by decide
    rw [b1, hreach] at hln
    obtain ⟨hl, hm, hz, css, g1, g2⟩ := f0.cl.cells (e := T_uint64) (s := 1) (by kernel_rfl) (by kernel_rfl) (by omega)
    have each : ∀ i, i < l → ∃ x : Nat, css i = [u64v x] ∧ x < 18446744073709551616 := fun i hi => by
      obtain ⟨n, hn, wn⟩ := (g1 i hi).2.int (k := .u64) (by kernel_rfl)
      obtain ⟨m, rfl, hm⟩ := u64_wf wn
      exact ⟨m, hn, hm⟩
    obtain ⟨f, hf⟩ := Deep.choose_lt (α := Nat) (p := fun i x => css i = [u64v x] ∧ x < 18446744073709551616) each
    refine ⟨a, l, c, (List.range l).map f, torn, off, rfl, by simp, fun i v hv => ?_, fun x hx => ?_, hln, fun h0 => ?_⟩
    · have hil : i < l := by have := (List.getElem?_eq_some_iff.1 hv).1; simpa using this
      have hv' : v = u64v (f i) := by
        rw [List.getElem?_map, List.getElem?_map, List.getElem?_range hil] at hv
        simpa using hv.symm
      subst hv'
      obtain ⟨b, o, ha, hc⟩ := g2 i hil 0 (u64v (f i)) (by rw [(hf i hil).1]; rfl)
      exact ⟨b, o, ha, by simpa using hc⟩
    · simp only [List.mem_map, List.mem_range] at hx
      obtain ⟨i, hi, rfl⟩ := hx
      exact (hf i hi).2
    · by_cases hl0 : l = 0
      · exact hl0
      · obtain ⟨b, o, ha, _⟩ := g2 0 (by omega) 0 (u64v (f 0)) (by rw [(hf 0 (by omega)).1]; rfl)
        rw [h0] at ha
        cases ha
theorem loss_open {W : World} {v : Value} (h : ArgW Try.prog W T_api_Loss v) : ∃ a l c keep torn off, v = .agg #[.slice a l c, .int .i64 torn, .int .i64 off] ∧ LossOk W a l keep torn off := by
  obtain ⟨cells, rfl, _⟩ := h.arg.struct (s := 3) (by kernel_rfl)
  have hw := h.clw
  obtain ⟨a, l, c, keep, torn, off, he, hp⟩ := loss_open' (cs := cells.toList) hw
  refine ⟨a, l, c, keep, torn, off, ?_, hp⟩
  congr 1
  cases cells
  exact congrArg List.toArray he
end Go.Proofs.Ytkhdmbgcbogndaa
