/- The statement FieldExact, its walk at arguments as they come in. Conditions: the checksum's table stands. -/
import Derived.Test.YtplfoedgekdjgaaDoorHj
set_option linter.unusedVariables false
namespace Go.Proofs.YtplfoedgekdjgaaDoor
open Go Go.RowKit Go.ChangeShapes Go.WideShapes

theorem Cl.slc {P : Program} {W : World} {t e : TypeId} {cs : List Value} (ht : P.underlying t = some (.slice e)) (h : Cl P W t cs) : ∃ (a : Option Addr) (l c : Nat), cs = [.slice a l c] := by
  obtain ⟨H, enc, fuel, x, hf⟩ := h
  rcases Deep.open_slice ht hf with ⟨h, _⟩ | ⟨ad, len, cap, m, n, D, Pl, h, _⟩
  · exact ⟨_, _, _, h⟩
  · exact ⟨_, _, _, h⟩

instance : Inhabited Part := ⟨⟨none, 0, 0, []⟩⟩
instance : Inhabited OpL := ⟨⟨0, false, 0, 0, 0, 0, none, 0, 0, none, 0, 0⟩⟩

theorem parts_open {W : World} {a : Option Addr} {l c : Nat} (h : Cl Tryd.prog W T_s_s_uint8 [.slice a l c]) : ∃ L : List Part, L.length = l ∧ PsIn W a L := by
  obtain ⟨hl, hm, h0, css, h1, h2⟩ := h.cells (e := T_s_uint8) (s := 1) (by kernel_rfl) (by kernel_rfl) (by omega)
  have each : ∀ i, i < l → ∃ x : Part, css i = [x.val] ∧ Rd W x.a (bvs x.bs) ∧ x.bs.length = x.l ∧ (x.a = none → x.l = 0) ∧ x.l ≤ x.c := by
    intro i hi
    obtain ⟨a', l', c', hc⟩ := (h1 i hi).2.slc (e := T_uint8) (by kernel_rfl)
    have hcl := (h1 i hi).2
    rw [hc] at hcl
    obtain ⟨g1, _, g2, bs, g3, g4⟩ := hcl.bytes (e := T_uint8) (by kernel_rfl) (by kernel_rfl) (by kernel_rfl)
    exact ⟨⟨a', l', c', bs⟩, hc, g4, g3, fun h => (g2 h).1, g1⟩
  obtain ⟨f, hf⟩ := Deep.choose_lt (α := Part) (p := fun i x => css i = [x.val] ∧ Rd W x.a (bvs x.bs) ∧ x.bs.length = x.l ∧ (x.a = none → x.l = 0) ∧ x.l ≤ x.c) each
  refine ⟨(List.range l).map f, by simp, ⟨fun i v hv => ?_, fun p hp => ?_⟩⟩
  · have hi : i < l := by
      have := (List.getElem?_eq_some_iff.1 hv).1
      simpa using this
    have hv' : v = (f i).val := by
      simp only [List.map_map, List.getElem?_map, List.getElem?_range hi, Option.map_some, Function.comp] at hv
      cases hv; rfl
    subst hv'
    obtain ⟨b, o, ha, hc⟩ := h2 i hi 0 (f i).val (by rw [(hf i hi).1]; rfl)
    exact ⟨b, o, ha, by rw [Nat.mul_one, Nat.add_zero] at hc; exact hc⟩
  · simp only [List.mem_map, List.mem_range] at hp
    obtain ⟨i, hi, rfl⟩ := hp
    exact (hf i hi).2

theorem op_open {W : World} {cs : List Value} (h : Cl Tryd.prog W T_quotalaw02_Op cs) : ∃ x : OpL, cs = x.cs.toList ∧ x.ok ∧ ∃ A L, x.Bs W A ∧ PsIn W x.pa L ∧ L.length = x.pl := by
  have hl := h.slen (s := 8) (by kernel_rfl)
  have f0 := h.field 0 (e := T_int) (o := 0) (s := 1) (by kernel_rfl)
  have f1 := h.field 1 (e := T_bool) (o := 1) (s := 1) (by kernel_rfl)
  have f2 := h.field 2 (e := T_uint64) (o := 2) (s := 1) (by kernel_rfl)
  have f3 := h.field 3 (e := T_int64) (o := 3) (s := 1) (by kernel_rfl)
  have f4 := h.field 4 (e := T_int) (o := 4) (s := 1) (by kernel_rfl)
  have f5 := h.field 5 (e := T_int) (o := 5) (s := 1) (by kernel_rfl)
  have f6 := h.field 6 (e := T_s_uint8) (o := 6) (s := 1) (by kernel_rfl)
  have f7 := h.field 7 (e := T_s_s_uint8) (o := 7) (s := 1) (by kernel_rfl)
  match cs, hl with
  | [x0, x1, x2, x3, x4, x5, x6, x7], _ =>
    simp only [List.drop_zero, List.drop_succ_cons, List.take_succ_cons, List.take_zero] at f0 f1 f2 f3 f4 f5 f6 f7
    obtain ⟨k, h0, _⟩ := f0.int (k := .i64) (by kernel_rfl)
    obtain ⟨b, h1⟩ := f1.bool (by kernel_rfl)
    obtain ⟨n, h2, w2⟩ := f2.int (k := .u64) (by kernel_rfl)
    obtain ⟨i, h3, w3⟩ := f3.int (k := .i64) (by kernel_rfl)
    obtain ⟨a, h4, _⟩ := f4.int (k := .i64) (by kernel_rfl)
    obtain ⟨z, h5, _⟩ := f5.int (k := .i64) (by kernel_rfl)
    obtain ⟨ba, bl, bc, h6⟩ := f6.slc (e := T_uint8) (by kernel_rfl)
    obtain ⟨pa, pl, pc, h7⟩ := f7.slc (e := T_s_uint8) (by kernel_rfl)
    rw [h6] at f6
    rw [h7] at f7
    obtain ⟨m, rfl, hm⟩ := u64_wf w2
    have hi := i64_wf w3
    obtain ⟨g1, _, g2, bs, g3, g4⟩ := f6.bytes (e := T_uint8) (by kernel_rfl) (by kernel_rfl) (by kernel_rfl)
    obtain ⟨L, hL, hP⟩ := parts_open f7
    cases h0; cases h1; cases h2; cases h3; cases h4; cases h5; cases h6; cases h7
    exact ⟨⟨k, b, m, i, a, z, ba, bl, bc, pa, pl, pc⟩, rfl, ⟨hm, hi.1, hi.2⟩, bs, L, ⟨g4, g3, fun h => (g2 h).1, g1⟩, hP, hL⟩

theorem fieldExact_walk {W : World} (hnib : Nib W) {v0 : Value} (h0 : Arg Tryd.prog W T_s_quotalaw02_Op v0) :
    GoC Tryd.prog F_law02_FieldExact #[v0] W fun e W' => e = .returned (.bool true) ∧ Kp no W W' := by
  obtain ⟨a1, l1, c1, rfl, k1⟩ := h0.slice (e := T_quotalaw02_Op) (by kernel_rfl)
  obtain ⟨hl, hm, hn0, css, h1, h2⟩ := k1.cells (e := T_quotalaw02_Op) (s := 8) (by kernel_rfl) (by kernel_rfl) (by omega)
  have each : ∀ i, i < l1 → ∃ x : OpL, css i = x.cs.toList ∧ x.ok ∧ ∃ A L, x.Bs W A ∧ PsIn W x.pa L ∧ L.length = x.pl := fun i hi => op_open (h1 i hi).2
  obtain ⟨f, hf⟩ := Deep.choose_lt (α := OpL) (p := fun i x => css i = x.cs.toList ∧ x.ok ∧ ∃ A L, x.Bs W A ∧ PsIn W x.pa L ∧ L.length = x.pl) each
  refine fieldExact_c (S := (List.range l1).map f) hnib (fun i hi => ?_) (by simp) fun w' k => ⟨rfl, k⟩
  have hil : i < l1 := by simpa using hi
  simp only [List.getElem_map, List.getElem_range]
  obtain ⟨hc, hok, A, L, hB, hP, hL⟩ := hf i hil
  obtain ⟨b, o, ha, _⟩ := h2 i hil 0 _ (by rw [hc]; rfl)
  refine ⟨b, o, A, L, ha, fun q v hv => ?_, hok, hB, hP, hL⟩
  obtain ⟨b', o', ha', hcell⟩ := h2 i hil q v (by rw [hc, Array.getElem?_toList]; exact hv)
  rw [ha] at ha'
  cases ha'
  exact hcell
end Go.Proofs.YtplfoedgekdjgaaDoor
