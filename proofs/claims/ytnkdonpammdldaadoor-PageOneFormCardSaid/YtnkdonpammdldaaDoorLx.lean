/- Arguments of layer 7: a page as it is handed in. Conditions: none. -/
import Derived.Test.YtnkdonpammdldaaDoorGj
import Derived.Test.YtnkdonpammdldaaDoorLw
set_option linter.unusedVariables false
set_option linter.unusedSimpArgs false
namespace Go.Proofs.YtnkdonpammdldaaDoor
open Go Go.RowKit Go.ChangeShapes Go.WideShapes

def In64 (n : Int) : Prop := -9223372036854775808 ≤ n ∧ n ≤ 9223372036854775807
structure CL.Ok (c : CL) : Prop where
  id : In64 c.id
  grp : In64 c.grp
  lo : In64 c.lo
  hi : In64 c.hi
  val : In64 c.val
structure GL.Ok (g : GL) : Prop where
  id : In64 g.id
  sum : In64 g.sum
instance : Inhabited CL := ⟨⟨0, 0, 0, 0, 0⟩⟩
instance : Inhabited GL := ⟨⟨0, 0⟩⟩

theorem Cl.slc {P : Program} {W : World} {t e : TypeId} {cs : List Value} (ht : P.underlying t = some (.slice e)) (h : Cl P W t cs) : ∃ (a : Option Addr) (l c : Nat), cs = [.slice a l c] := by
  obtain ⟨H, enc, fuel, x, hf⟩ := h
  rcases Deep.open_slice ht hf with ⟨h, _⟩ | ⟨ad, len, cap, m, n, D, Pl, h, _⟩
  · exact ⟨_, _, _, h⟩
  · exact ⟨_, _, _, h⟩

theorem ctr_open {W : World} {cs : List Value} (h : Cl Tryd.prog W T_api_Counter cs) : ∃ c : CL, cs = c.cs ∧ c.Ok := by
  have hl := h.slen (s := 5) (by kernel_rfl)
  have f0 := h.field 0 (e := T_int) (o := 0) (s := 1) (by kernel_rfl)
  have f1 := h.field 1 (e := T_int) (o := 1) (s := 1) (by kernel_rfl)
  have f2 := h.field 2 (e := T_api_Range) (o := 2) (s := 2) (by kernel_rfl)
  have f3 := h.field 3 (e := T_int64) (o := 4) (s := 1) (by kernel_rfl)
  have f4 := f2.field 0 (e := T_int64) (o := 0) (s := 1) (by kernel_rfl)
  have f5 := f2.field 1 (e := T_int64) (o := 1) (s := 1) (by kernel_rfl)
  match cs, hl with
  | [x0, x1, x2, x3, x4], _ =>
    simp only [List.drop_zero, List.drop_succ_cons, List.take_succ_cons, List.take_zero] at f0 f1 f3 f4 f5
    obtain ⟨i, h0, w0⟩ := f0.int (k := .i64) (by kernel_rfl)
    obtain ⟨g, h1, w1⟩ := f1.int (k := .i64) (by kernel_rfl)
    obtain ⟨lo, h2, w2⟩ := f4.int (k := .i64) (by kernel_rfl)
    obtain ⟨hi, h3, w3⟩ := f5.int (k := .i64) (by kernel_rfl)
    obtain ⟨v, h4, w4⟩ := f3.int (k := .i64) (by kernel_rfl)
    cases h0; cases h1; cases h2; cases h3; cases h4
    exact ⟨⟨i, g, lo, hi, v⟩, rfl, i64_wf w0, i64_wf w1, i64_wf w2, i64_wf w3, i64_wf w4⟩
theorem grp_open {W : World} {cs : List Value} (h : Cl Tryd.prog W T_api_Group cs) : ∃ c : GL, cs = c.cs ∧ c.Ok := by
  have hl := h.slen (s := 2) (by kernel_rfl)
  have f0 := h.field 0 (e := T_int) (o := 0) (s := 1) (by kernel_rfl)
  have f1 := h.field 1 (e := T_int64) (o := 1) (s := 1) (by kernel_rfl)
  match cs, hl with
  | [x0, x1], _ =>
    simp only [List.drop_zero, List.drop_succ_cons, List.take_succ_cons, List.take_zero] at f0 f1
    obtain ⟨i, h0, w0⟩ := f0.int (k := .i64) (by kernel_rfl)
    obtain ⟨g, h1, w1⟩ := f1.int (k := .i64) (by kernel_rfl)
    cases h0; cases h1
    exact ⟨⟨i, g⟩, rfl, i64_wf w0, i64_wf w1⟩
theorem ctrs_open {W : World} {a : Option Addr} {l c : Nat} (h : Cl Tryd.prog W T_s_api_Counter [.slice a l c]) : ∃ L : List CL, L.length = l ∧ CsIn W a L ∧ ∀ x ∈ L, x.Ok := by
  obtain ⟨hl, hm, h0, css, h1, h2⟩ := h.cells (e := T_api_Counter) (s := 5) (by kernel_rfl) (by kernel_rfl) (by omega)
  have each : ∀ i, i < l → ∃ x : CL, css i = x.cs ∧ x.Ok := fun i hi => ctr_open (h1 i hi).2
  obtain ⟨f, hf⟩ := Deep.choose_lt (α := CL) (p := fun i x => css i = x.cs ∧ x.Ok) each
  refine ⟨(List.range l).map f, by simp, fun i hi => ?_, fun x hx => ?_⟩
  · have hil : i < l := by simpa using hi
    have e : ((List.range l).map f)[i] = f i := by simp
    rw [e]
    have hq := (hf i hil).1
    obtain ⟨b, o, ha, _⟩ := h2 i hil 0 (.int .i64 (f i).id) (by rw [hq]; rfl)
    refine ⟨b, o, ha, fun q v hv => ?_⟩
    obtain ⟨b', o', ha', hc'⟩ := h2 i hil q v (by rw [hq]; exact hv)
    rw [ha] at ha'
    cases ha'
    exact hc'
  · simp only [List.mem_map, List.mem_range] at hx
    obtain ⟨i, hi, rfl⟩ := hx
    exact (hf i hi).2
theorem grps_open {W : World} {a : Option Addr} {l c : Nat} (h : Cl Tryd.prog W T_s_api_Group [.slice a l c]) : ∃ L : List GL, L.length = l ∧ GsIn W a L ∧ ∀ x ∈ L, x.Ok := by
  obtain ⟨hl, hm, h0, css, h1, h2⟩ := h.cells (e := T_api_Group) (s := 2) (by kernel_rfl) (by kernel_rfl) (by omega)
  have each : ∀ i, i < l → ∃ x : GL, css i = x.cs ∧ x.Ok := fun i hi => grp_open (h1 i hi).2
  obtain ⟨f, hf⟩ := Deep.choose_lt (α := GL) (p := fun i x => css i = x.cs ∧ x.Ok) each
  refine ⟨(List.range l).map f, by simp, fun i hi => ?_, fun x hx => ?_⟩
  · have hil : i < l := by simpa using hi
    have e : ((List.range l).map f)[i] = f i := by simp
    rw [e]
    have hq := (hf i hil).1
    obtain ⟨b, o, ha, _⟩ := h2 i hil 0 (.int .i64 (f i).id) (by rw [hq]; rfl)
    refine ⟨b, o, ha, fun q v hv => ?_⟩
    obtain ⟨b', o', ha', hc'⟩ := h2 i hil q v (by rw [hq]; exact hv)
    rw [ha] at ha'
    cases ha'
    exact hc'
  · simp only [List.mem_map, List.mem_range] at hx
    obtain ⟨i, hi, rfl⟩ := hx
    exact (hf i hi).2

/-- A page as it is handed in, opened. -/
structure POk (W : World) (p : PgV) (cs : List CL) (gs : List GL) : Prop where
  i : p.In W cs gs
  hnum : In64 p.num
  hlsn : In64 p.lsn
  c : ∀ x ∈ cs, x.Ok
  g : ∀ x ∈ gs, x.Ok
  cw : p.cl * 40 ≤ 140737488351232
  gw : p.gl * 16 ≤ 140737488351232
theorem p_open' {W : World} {cells : List Value} (h : ClW Tryd.prog W T_quotalaw07_P cells) : ∃ (p : PgV) (cs : List CL) (gs : List GL), cells = p.cs.toList ∧ POk W p cs gs := by
  have hl := h.cl.slen (s := 4) (by kernel_rfl)
  have f0 := h.cl.field 0 (e := T_int) (o := 0) (s := 1) (by kernel_rfl)
  have f1 := h.cl.field 1 (e := T_int) (o := 1) (s := 1) (by kernel_rfl)
  have f2 := h.field 2 (e := T_s_api_Counter) (o := 2) (s := 1) (by kernel_rfl)
  have f3 := h.field 3 (e := T_s_api_Group) (o := 3) (s := 1) (by kernel_rfl)
  match cells, hl with
  | [x0, x1, x2, x3], _ =>
    simp only [List.drop_zero, List.drop_succ_cons, List.take_succ_cons, List.take_zero] at f0 f1 f2 f3
    obtain ⟨n, h0, w0⟩ := f0.int (k := .i64) (by kernel_rfl)
    obtain ⟨s, h1, w1⟩ := f1.int (k := .i64) (by kernel_rfl)
    obtain ⟨ca, cl, cc, h2⟩ := f2.cl.slc (e := T_api_Counter) (by kernel_rfl)
    obtain ⟨ga, gl, gc, h3⟩ := f3.cl.slc (e := T_api_Group) (by kernel_rfl)
    cases h0; cases h1; cases h2; cases h3
    obtain ⟨L, hL, hc, ok1⟩ := ctrs_open f2.cl
    obtain ⟨M, hM, hg, ok2⟩ := grps_open f3.cl
    have e1 := f2.len (e := T_api_Counter) (by kernel_rfl)
    have e2 := f3.len (e := T_api_Group) (by kernel_rfl)
    have b1 : Tryd.prog.bytesOf T_api_Counter = 40 := by kernel_rfl
    have b2 : Tryd.prog.bytesOf T_api_Group = 16 := by kernel_rfl
    have hreach : reachBytes = 140737488351232 := by decide
    rw [b1, hreach] at e1
    rw [b2, hreach] at e2
    exact ⟨⟨n, s, ca, cl, cc, ga, gl, gc⟩, L, M, rfl, ⟨hc, hL, by dsimp only; omega, hg, hM, by dsimp only; omega⟩, i64_wf w0, i64_wf w1, ok1, ok2, e1, e2⟩
theorem p_open {W : World} {v : Value} (h : ArgW Tryd.prog W T_quotalaw07_P v) : ∃ (p : PgV) (cs : List CL) (gs : List GL), v = .agg p.cs ∧ POk W p cs gs := by
  obtain ⟨cells, rfl, _⟩ := h.arg.struct (s := 4) (by kernel_rfl)
  have hw := h.clw
  obtain ⟨p, cs, gs, he, hp⟩ := p_open' (cells := cells.toList) hw
  refine ⟨p, cs, gs, ?_, hp⟩
  congr 1
  cases cells
  exact congrArg List.toArray he
end Go.Proofs.YtnkdonpammdldaaDoor
