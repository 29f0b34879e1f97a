/- Records as arguments; contracts of the statements' num, same, rest, cut and of the document's Own, Same. Conditions: none. -/
import Derived.Test.YtjhncijdkmbopaaQc
import Derived.Test.YtjhncijdkmbopaaRq
import Derived.Test.YtjhncijdkmbopaaQe
set_option linter.unusedVariables false
set_option linter.unusedSimpArgs false
namespace Go.Proofs.Ytjhncijdkmbopaa
open Go Go.RowKit Go.ChangeShapes Go.WideShapes

theorem Cl.slc {P : Program} {W : World} {t e : TypeId} {cs : List Value} (ht : P.underlying t = some (.slice e)) (h : Cl P W t cs) : ∃ (a : Option Addr) (l c : Nat), cs = [.slice a l c] := by
  obtain ⟨H, enc, fuel, x, hf⟩ := h
  rcases Deep.open_slice ht hf with ⟨h, _⟩ | ⟨ad, len, cap, m, n, D, Pl, h, _⟩
  · exact ⟨_, _, _, h⟩
  · exact ⟨_, _, _, h⟩
instance : Inhabited LV := ⟨⟨0, 0, false, false⟩⟩
instance : Inhabited DV := ⟨⟨0, 0⟩⟩
/-- Elements, read cell by cell. -/
theorem rd_flat {α : Type} {f : α → List Value} {s : Nat} (hs : ∀ x, (f x).length = s) (hs0 : 0 < s) {W : World} {a : Option Addr} {L : List α} (h : ∀ i (hi : i < L.length) q v, (f L[i])[q]? = some v → ∃ b o, a = some ⟨b, o, none⟩ ∧ W.cell? ⟨b, o + i * s + q, none⟩ = some v) : Rd W a (flatV f L) := by
  intro j v hv
  have hj : j < L.length * s := by have := (List.getElem?_eq_some_iff.1 hv).1; rwa [flatV_len hs] at this
  have hq : j % s < s := Nat.mod_lt _ hs0
  have hi : j / s < L.length := Nat.div_lt_of_lt_mul (by rwa [Nat.mul_comm])
  have e : j / s * s + j % s = j := by rw [Nat.mul_comm]; exact Nat.div_add_mod j s
  have hg := flatV_get hs L (j / s) hi (j % s) hq
  rw [e, hv] at hg
  obtain ⟨b, o, ha, hc⟩ := h (j / s) hi (j % s) v hg.symm
  refine ⟨b, o, ha, ?_⟩
  rwa [Nat.add_assoc, e] at hc

theorem live_open {W : World} {a : Option Addr} {l c : Nat} (h : ClW Try.prog W T_s_api_Live [.slice a l c]) : l ≤ c ∧ l < 140737488355329 ∧ ∃ L : List LV, L.length = l ∧ Rd W a (flatV LV.cs L) := by
  obtain ⟨hl, hm, h0, css, h1, h2⟩ := h.cl.cells (e := T_api_Live) (s := 4) (by kernel_rfl) (by kernel_rfl) (by omega)
  have hln := h.len (e := T_api_Live) (by kernel_rfl)
  have b1 : Try.prog.bytesOf T_api_Live = 24 := by kernel_rfl
  have hreach : reachBytes = 140737488351232 := by decide
  rw [b1, hreach] at hln
  have each : ∀ i, i < l → ∃ x : LV, css i = x.cs := fun i hi => by
    have hc := (h1 i hi).2
    have f0 := hc.field 0 (e := T_int) (o := 0) (s := 1) (by kernel_rfl)
    have f1 := hc.field 1 (e := T_int) (o := 1) (s := 1) (by kernel_rfl)
    have f2 := hc.field 2 (e := T_bool) (o := 2) (s := 1) (by kernel_rfl)
    have f3 := hc.field 3 (e := T_bool) (o := 3) (s := 1) (by kernel_rfl)
    have hsl := (h1 i hi).1
    generalize css i = cs at *
    match cs, hsl with
    | [x0, x1, x2, x3], _ =>
      simp only [List.drop_zero, List.drop_succ_cons, List.take_succ_cons, List.take_zero] at f0 f1 f2 f3
      obtain ⟨n0, e0, _⟩ := f0.int (k := .i64) (by kernel_rfl)
      obtain ⟨n1, e1, _⟩ := f1.int (k := .i64) (by kernel_rfl)
      obtain ⟨q2, e2⟩ := f2.bool (by kernel_rfl)
      obtain ⟨q3, e3⟩ := f3.bool (by kernel_rfl)
      cases e0; cases e1; cases e2; cases e3
      exact ⟨⟨n0, n1, q2, q3⟩, rfl⟩
  obtain ⟨f, hf⟩ := Deep.choose_lt (α := LV) (p := fun i x => css i = x.cs) each
  refine ⟨hl, by omega, (List.range l).map f, by simp, rd_flat LV.csl (by omega) fun i hi q v hv => ?_⟩
  have hil : i < l := by simpa using hi
  have e : ((List.range l).map f)[i] = f i := by simp
  rw [e] at hv
  exact h2 i hil q v (by rw [hf i hil]; exact hv)
theorem dirty_open {W : World} {a : Option Addr} {l c : Nat} (h : ClW Try.prog W T_s_api_Dirty [.slice a l c]) : l ≤ c ∧ l < 140737488355329 ∧ ∃ L : List DV, L.length = l ∧ Rd W a (flatV DV.cs L) := by
  obtain ⟨hl, hm, h0, css, h1, h2⟩ := h.cl.cells (e := T_api_Dirty) (s := 2) (by kernel_rfl) (by kernel_rfl) (by omega)
  have hln := h.len (e := T_api_Dirty) (by kernel_rfl)
  have b1 : Try.prog.bytesOf T_api_Dirty = 16 := by kernel_rfl
  have hreach : reachBytes = 140737488351232 := by decide
  rw [b1, hreach] at hln
  have each : ∀ i, i < l → ∃ x : DV, css i = x.cs := fun i hi => by
    have hc := (h1 i hi).2
    have f0 := hc.field 0 (e := T_int) (o := 0) (s := 1) (by kernel_rfl)
    have f1 := hc.field 1 (e := T_int) (o := 1) (s := 1) (by kernel_rfl)
    have hsl := (h1 i hi).1
    generalize css i = cs at *
    match cs, hsl with
    | [x0, x1], _ =>
      simp only [List.drop_zero, List.drop_succ_cons, List.take_succ_cons, List.take_zero] at f0 f1
      obtain ⟨n0, e0, _⟩ := f0.int (k := .i64) (by kernel_rfl)
      obtain ⟨n1, e1, _⟩ := f1.int (k := .i64) (by kernel_rfl)
      cases e0; cases e1
      exact ⟨⟨n0, n1⟩, rfl⟩
  obtain ⟨f, hf⟩ := Deep.choose_lt (α := DV) (p := fun i x => css i = x.cs) each
  refine ⟨hl, by omega, (List.range l).map f, by simp, rd_flat DV.csl (by omega) fun i hi q v hv => ?_⟩
  have hil : i < l := by simpa using hi
  have e : ((List.range l).map f)[i] = f i := by simp
  rw [e] at hv
  exact h2 i hil q v (by rw [hf i hil]; exact hv)

/-- A record's numbers are such as their types hold. -/
structure RV.Wf (r : RV) : Prop where
  lsn : i64 r.lsn
  kind : i64 r.kind
  tx : i64 r.tx
  prev : i64 r.prev
  wp : i64 r.wp
  wi : i64 r.wi
  sp : i64 r.sp
  si : i64 r.si
  delta : i64 r.delta
  id : i64 r.id
  grp : i64 r.grp
  lo : i64 r.lo
  hi : i64 r.hi
  val : i64 r.val
  next : i64 r.next
theorem RV.Wf.w64 {r : RV} (h : r.Wf) : r.w64 := ⟨h.delta, h.lo, h.hi, h.val⟩
/-- A record as an argument. -/
structure RArg (w : World) (r : RV) (m : Mm) : Prop where
  li : LiIn w m r.live r.dirty
  wf : r.Wf
  lc : m.ll ≤ m.lc
  dc : m.dl ≤ m.dc
theorem RArg.kp0 {w w' : World} {r : RV} {m : Mm} (h : RArg w r m) (k : Kp no w w') : RArg w' r m := ⟨h.li.kp0 k, h.wf, h.lc, h.dc⟩

theorem rec_open {W : World} {cs : List Value} (h : ClW Try.prog W T_api_Record cs) : ∃ r m, cs = (RV.ca r m).toList ∧ RArg W r m := by
  have hl := h.cl.slen (s := 17) (by kernel_rfl)
  have f0 := h.field 0 (e := T_int) (o := 0) (s := 1) (by kernel_rfl)
  have f1 := h.field 1 (e := T_api_Kind) (o := 1) (s := 1) (by kernel_rfl)
  have f2 := h.field 2 (e := T_int) (o := 2) (s := 1) (by kernel_rfl)
  have f3 := h.field 3 (e := T_int) (o := 3) (s := 1) (by kernel_rfl)
  have f4 := h.field 4 (e := T_api_Slot) (o := 4) (s := 2) (by kernel_rfl)
  have f5 := h.field 5 (e := T_api_Slot) (o := 6) (s := 2) (by kernel_rfl)
  have f6 := h.field 6 (e := T_int64) (o := 8) (s := 1) (by kernel_rfl)
  have f7 := h.field 7 (e := T_api_Counter) (o := 9) (s := 5) (by kernel_rfl)
  have f8 := h.field 8 (e := T_api_Points) (o := 14) (s := 3) (by kernel_rfl)
  have f40 := f4.field 0 (e := T_int) (o := 0) (s := 1) (by kernel_rfl)
  have f41 := f4.field 1 (e := T_int) (o := 1) (s := 1) (by kernel_rfl)
  have f50 := f5.field 0 (e := T_int) (o := 0) (s := 1) (by kernel_rfl)
  have f51 := f5.field 1 (e := T_int) (o := 1) (s := 1) (by kernel_rfl)
  have f70 := f7.field 0 (e := T_int) (o := 0) (s := 1) (by kernel_rfl)
  have f71 := f7.field 1 (e := T_int) (o := 1) (s := 1) (by kernel_rfl)
  have f72 := f7.field 2 (e := T_api_Range) (o := 2) (s := 2) (by kernel_rfl)
  have f720 := f72.field 0 (e := T_int64) (o := 0) (s := 1) (by kernel_rfl)
  have f721 := f72.field 1 (e := T_int64) (o := 1) (s := 1) (by kernel_rfl)
  have f73 := f7.field 3 (e := T_int64) (o := 4) (s := 1) (by kernel_rfl)
  have f80 := f8.field 0 (e := T_s_api_Live) (o := 0) (s := 1) (by kernel_rfl)
  have f81 := f8.field 1 (e := T_s_api_Dirty) (o := 1) (s := 1) (by kernel_rfl)
  have f82 := f8.field 2 (e := T_int) (o := 2) (s := 1) (by kernel_rfl)
  match cs, hl with
  | [x0, x1, x2, x3, x4, x5, x6, x7, x8, x9, x10, x11, x12, x13, x14, x15, x16], _ =>
    simp only [List.drop_zero, List.drop_succ_cons, List.take_succ_cons, List.take_zero] at f0 f1 f2 f3 f40 f41 f50 f51 f6 f70 f71 f720 f721 f73 f80 f81 f82
    obtain ⟨n0, e0, w0⟩ := f0.cl.int (k := .i64) (by kernel_rfl)
    obtain ⟨n1, e1, w1⟩ := f1.cl.int (k := .i64) (by kernel_rfl)
    obtain ⟨n2, e2, w2⟩ := f2.cl.int (k := .i64) (by kernel_rfl)
    obtain ⟨n3, e3, w3⟩ := f3.cl.int (k := .i64) (by kernel_rfl)
    obtain ⟨n4, e4, w4⟩ := f40.cl.int (k := .i64) (by kernel_rfl)
    obtain ⟨n5, e5, w5⟩ := f41.cl.int (k := .i64) (by kernel_rfl)
    obtain ⟨n6, e6, w6⟩ := f50.cl.int (k := .i64) (by kernel_rfl)
    obtain ⟨n7, e7, w7⟩ := f51.cl.int (k := .i64) (by kernel_rfl)
    obtain ⟨n8, e8, w8⟩ := f6.cl.int (k := .i64) (by kernel_rfl)
    obtain ⟨n9, e9, w9⟩ := f70.cl.int (k := .i64) (by kernel_rfl)
    obtain ⟨n10, e10, w10⟩ := f71.cl.int (k := .i64) (by kernel_rfl)
    obtain ⟨n11, e11, w11⟩ := f720.cl.int (k := .i64) (by kernel_rfl)
    obtain ⟨n12, e12, w12⟩ := f721.cl.int (k := .i64) (by kernel_rfl)
    obtain ⟨n13, e13, w13⟩ := f73.cl.int (k := .i64) (by kernel_rfl)
    obtain ⟨la, ll, lc, e14⟩ := f80.cl.slc (e := T_api_Live) (by kernel_rfl)
    obtain ⟨da, dl, dc, e15⟩ := f81.cl.slc (e := T_api_Dirty) (by kernel_rfl)
    obtain ⟨n16, e16, w16⟩ := f82.cl.int (k := .i64) (by kernel_rfl)
    cases e0; cases e1; cases e2; cases e3; cases e4; cases e5; cases e6; cases e7; cases e8; cases e9; cases e10; cases e11; cases e12; cases e13; cases e14; cases e15; cases e16
    obtain ⟨hlc, hlb, L, hL, hLr⟩ := live_open f80
    obtain ⟨hdc, hdb, D, hD, hDr⟩ := dirty_open f81
    exact ⟨⟨n0, n1, n2, n3, n4, n5, n6, n7, n8, n9, n10, n11, n12, n13, n16, L, D⟩, ⟨la, ll, lc, da, dl, dc⟩, rfl, ⟨hLr, hL, hlb, hDr, hD, hdb⟩, ⟨i64_wf w0, i64_wf w1, i64_wf w2, i64_wf w3, i64_wf w4, i64_wf w5, i64_wf w6, i64_wf w7, i64_wf w8, i64_wf w9, i64_wf w10, i64_wf w11, i64_wf w12, i64_wf w13, i64_wf w16⟩, hlc, hdc⟩
theorem rec_arg {W : World} {v : Value} (h : ArgW Try.prog W T_api_Record v) : ∃ r m, v = .agg (RV.ca r m) ∧ RArg W r m := by
  obtain ⟨cs, rfl, _⟩ := h.arg.struct (s := 17) (by kernel_rfl)
  obtain ⟨r, m, he, hr⟩ := rec_open h.clw
  refine ⟨r, m, ?_, hr⟩
  congr 1
  exact Array.ext' he
/-- Bytes as an argument. -/
theorem bytes_arg {W : World} {v : Value} (h : ArgW Try.prog W T_s_uint8 v) : ∃ a l c bs, v = .slice a l c ∧ Rd W a (bvs bs) ∧ bs.length = l ∧ (a = none → l = 0) ∧ l ≤ c ∧ l ≤ 140737488351232 := by
  obtain ⟨a, l, c, rfl, hc⟩ := h.arg.slice (e := T_uint8) (by kernel_rfl)
  obtain ⟨hl, hm, h0, bs, hb, hr⟩ := hc.bytes (e := T_uint8) (by kernel_rfl) (by kernel_rfl) (by kernel_rfl)
  have hln := h.clw.len (e := T_uint8) (by kernel_rfl)
  have b1 : Try.prog.bytesOf T_uint8 = 1 := by kernel_rfl
  have hreach : reachBytes = 140737488351232 := by decide
  rw [b1, hreach] at hln
  exact ⟨a, l, c, bs, rfl, hr, hb, fun h => (h0 h).1, hl, by omega⟩
theorem int_arg {W : World} {v : Value} (h : ArgW Try.prog W T_int v) : ∃ n, v = .int .i64 n ∧ i64 n := by
  obtain ⟨n, hv, hw⟩ := h.arg.int (k := .i64) (by kernel_rfl)
  exact ⟨n, hv, i64_wf hw⟩

theorem LiIn.nl {w : World} {m : Mm} {L : List LV} {D : List DV} (h : LiIn w m L D) : (m.la = none → m.ll = 0) ∧ (m.da = none → m.dl = 0) := by
  refine ⟨fun h0 => Decidable.by_contra fun hn => ?_, fun h0 => Decidable.by_contra fun hn => ?_⟩
  · have hx : flatV LV.cs L ≠ [] := fun hx => by
      have := flatV_len LV.csl L
      rw [hx] at this
      have := h.ll
      simp at *
      omega
    obtain ⟨b, o, ha, _⟩ := h.l.addr hx
    rw [h0] at ha
    cases ha
  · have hx : flatV DV.cs D ≠ [] := fun hx => by
      have := flatV_len DV.csl D
      rw [hx] at this
      have := h.dl
      simp at *
      omega
    obtain ⟨b, o, ha, _⟩ := h.d.addr hx
    rw [h0] at ha
    cases ha

theorem num_c {w : World} {n : Int} {R : Ending → World → Prop} (h : R (.returned (.int .i64 n)) w) : GoC Try.prog F_law05_num #[.int .i64 n] w R := by
  refine S_law05_num ?_
  unfold W_law05_num
  exact h
theorem same_c {w : World} {a1 a2 : Option Addr} {l1 c1 l2 c2 : Nat} {b1 b2 : List UInt8} {R : Ending → World → Prop} (h1 : Rd w a1 (bvs b1)) (e1 : b1.length = l1) (z1 : a1 = none → l1 = 0) (h2 : Rd w a2 (bvs b2)) (e2 : b2.length = l2) (z2 : a2 = none → l2 = 0)
    (h : R (.returned (.bool (decide (b1 = b2)))) w) : GoC Try.prog F_law05_same #[.slice a1 l1 c1, .slice a2 l2 c2] w R := by
  refine S_law05_same ?_
  unfold W_law05_same
  refine convert_bytes (e := T_uint8) (by kernel_rfl) (by kernel_rfl) (by kernel_rfl) h1 e1 z1 fun x hx => ⟨_, rfl, convert_bytes (e := T_uint8) (by kernel_rfl) (by kernel_rfl) (by kernel_rfl) h2 e2 z2 fun y hy => ⟨_, rfl, ?_⟩⟩
  rw [hx, hy]
  have : (b1 == b2) = decide (b1 = b2) := by by_cases hh : b1 = b2 <;> simp [hh]
  rw [this]
  exact h

def rstI (n lo hi : Int) : Int := lo + n % (hi - lo + 1)
theorem rstI_in {n lo hi : Int} (h : lo ≤ hi) : lo ≤ rstI n lo hi ∧ rstI n lo hi ≤ hi := by
  unfold rstI
  have h1 := Int.emod_nonneg n (by omega : hi - lo + 1 ≠ 0)
  have h2 := Int.emod_lt_of_pos n (by omega : 0 < hi - lo + 1)
  omega
theorem tmod_rest {n m : Int} (hm : 0 < m) : Int.tmod (Int.tmod n m + m) m = n % m := by
  have h1 := Int.lt_tmod_of_pos n hm
  rw [Int.tmod_eq_emod_of_nonneg (by omega), Int.add_emod_right]
  have h2 := Int.tmod_add_mul_tdiv n m
  conv => rhs; rw [← h2]
  rw [Int.add_mul_emod_self_left]
theorem rest_c {w : World} {n lo hi : Int} {R : Ending → World → Prop} (hl : -2 ≤ lo) (hh : lo ≤ hi) (hb : hi ≤ 140737488355329) (h : R (.returned (.int .i64 (rstI n lo hi))) w) : GoC Try.prog F_law05_rest #[.int .i64 n, .int .i64 lo, .int .i64 hi] w R := by
  refine S_law05_rest ?_
  unfold W_law05_rest
  have e1 : IntKind.wrap .i64 (IntKind.wrap .i64 (hi - lo) + 1) = hi - lo + 1 := by rw [wrap_i64 (x := hi - lo) (by omega) (by omega), wrap_i64 (by omega) (by omega)]
  rw [e1]
  have hm : 0 < hi - lo + 1 := by omega
  have h1 := Int.lt_tmod_of_pos n hm
  have h2 := Int.tmod_lt_of_pos n hm
  have e2 : IntKind.wrap .i64 (Int.tmod n (hi - lo + 1) + (hi - lo + 1)) = Int.tmod n (hi - lo + 1) + (hi - lo + 1) := wrap_i64 (by omega) (by omega)
  have h3 := Int.emod_nonneg n (by omega : hi - lo + 1 ≠ 0)
  have h4 := Int.emod_lt_of_pos n hm
  rw [e2, tmod_rest hm, wrap_i64 (by omega) (by omega)]
  exact ⟨by omega, by omega, h⟩
end Go.Proofs.Ytjhncijdkmbopaa
