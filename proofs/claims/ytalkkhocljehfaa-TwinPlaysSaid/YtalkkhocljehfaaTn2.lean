/- A loss, handed in. Conditions: none. -/
import Derived.Test.YtalkkhocljehfaaTg
import Derived.Test.YtalkkhocljehfaaTq
set_option linter.unusedVariables false
set_option linter.unusedSimpArgs false
namespace Go.Proofs.Ytalkkhocljehfaa
open Go Go.RowKit Go.ChangeShapes Go.WideShapes

theorem Cl.slc {P : Program} {W : World} {t e : TypeId} {cs : List Value} (ht : P.underlying t = some (.slice e)) (h : Cl P W t cs) : ∃ (a : Option Addr) (l c : Nat), cs = [.slice a l c] := by
  obtain ⟨H, enc, fuel, x, hf⟩ := h
  rcases Deep.open_slice ht hf with ⟨h, _⟩ | ⟨ad, len, cap, m, n, D, Pl, h, _⟩
  · exact ⟨_, _, _, h⟩
  · exact ⟨_, _, _, h⟩
structure LossOk (W : World) (a : Option Addr) (l : Nat) (keep : List Nat) (torn off : Int) : Prop where
  n : keep.length = l
  rd : Rd W a (keep.map u64v)
  lt : ∀ x ∈ keep, x < 18446744073709551616
  ln : l * 8 ≤ 140737488351232
  nn : a = none → l = 0
theorem loss_open' {W : World} {cs : List Value} (h : ClW Try.prog W T_api_Loss cs) : ∃ a l c keep torn off, cs = [.slice a l c, .int .i64 torn, .int .i64 off] ∧ LossOk W a l keep torn off := by
  have hl := h.cl.slen (s := 3) (by kernel_rfl)
  have f0 := h.field 0 (e := T_s_uint64) (o := 0) (s := 1) (by kernel_rfl)
  have f1 := h.cl.field 1 (e := T_int) (o := 1) (s := 1) (by kernel_rfl)
  have f2 := h.cl.field 2 (e := T_int) (o := 2) (s := 1) (by kernel_rfl)
  match cs, hl with
  | [x0, x1, x2], _ =>
    simp only [List.drop_zero, List.drop_succ_cons, List.take_succ_cons, List.take_zero] at f0 f1 f2
    obtain ⟨a, l, c, h0⟩ := f0.cl.slc (e := T_uint64) (by kernel_rfl)
    obtain ⟨torn, h1, w1⟩ := f1.int (k := .i64) (by kernel_rfl)
    obtain ⟨off, h2, w2⟩ := f2.int (k := .i64) (by kernel_rfl)
    cases h0; cases h1; cases h2
    have hln := f0.len (e := T_uint64) (by kernel_rfl)
    have b1 : Try.prog.bytesOf T_uint64 = 8 := by kernel_rfl
    have hreach : reachBytes = 140737488351232 := by decide
    rw [b1, hreach] at hln
    obtain ⟨hl, hm, hz, css, g1, g2⟩ := f0.cl.cells (e := T_uint64) (s := 1) (by kernel_rfl) (by kernel_rfl) (by omega)
    have each : ∀ i, i < l → ∃ x : Nat, css i = [u64v x] ∧ x < 18446744073709551616 := fun i hi => by
      obtain ⟨n, hn, wn⟩ := (g1 i hi).2.int (k := .u64) (by kernel_rfl)
      obtain ⟨m, rfl, hm⟩ := u64_wf wn
      exact ⟨m, hn, hm⟩
    obtain ⟨f, hf⟩ := Deep.choose_lt (α := Nat) (p := fun i x => css i = [u64v x] ∧ x < 18446744073709551616) each
    refine ⟨a, l, c, (List.range l).map f, torn, off, rfl, by simp, fun i v hv => ?_, fun x hx => ?_, hln, fun h0 => ?_⟩
    · have hil : i < l := by have := (List.getElem?_eq_some_iff.1 hv).1; simpa using this
      have hv' : v = u64v (f i) := by
        rw [List.getElem?_map, List.getElem?_map, List.getElem?_range hil] at hv
        simpa using hv.symm
      subst hv'
      obtain ⟨b, o, ha, hc⟩ := g2 i hil 0 (u64v (f i)) (by rw [(hf i hil).1]; rfl)
      exact ⟨b, o, ha, by simpa using hc⟩
    · simp only [List.mem_map, List.mem_range] at hx
      obtain ⟨i, hi, rfl⟩ := hx
      exact (hf i hi).2
    · by_cases hl0 : l = 0
      · exact hl0
      · obtain ⟨b, o, ha, _⟩ := g2 0 (by omega) 0 (u64v (f 0)) (by rw [(hf 0 (by omega)).1]; rfl)
        rw [h0] at ha
        cases ha
theorem loss_open {W : World} {v : Value} (h : ArgW Try.prog W T_api_Loss v) : ∃ a l c keep torn off, v = .agg #[.slice a l c, .int .i64 torn, .int .i64 off] ∧ LossOk W a l keep torn off := by
  obtain ⟨cells, rfl, _⟩ := h.arg.struct (s := 3) (by kernel_rfl)
  have hw := h.clw
  obtain ⟨a, l, c, keep, torn, off, he, hp⟩ := loss_open' (cs := cells.toList) hw
  refine ⟨a, l, c, keep, torn, off, ?_, hp⟩
  congr 1
  cases cells
  exact congrArg List.toArray he
end Go.Proofs.Ytalkkhocljehfaa
