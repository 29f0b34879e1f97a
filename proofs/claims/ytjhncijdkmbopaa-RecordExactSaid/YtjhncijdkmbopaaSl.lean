/- The statement RecordExact: its walk. Conditions: none. -/
import Derived.Test.YtjhncijdkmbopaaSk
set_option linter.unusedVariables false
set_option linter.unusedSimpArgs false
namespace Go.Proofs.Ytjhncijdkmbopaa
open Go Go.RowKit Go.ChangeShapes Go.WideShapes

/-- One call of a script. -/
structure OV where
  kind : Int
  r : RV
  m : Mm
  ba : Option Addr
  bl : Nat
  bc : Nat
  bs : List UInt8
instance : Inhabited OV := ⟨⟨0, {}, {}, none, 0, 0, []⟩⟩
def OV.cs (x : OV) : List Value := [.int .i64 x.kind, .int .i64 x.r.lsn, .int .i64 x.r.kind, .int .i64 x.r.tx, .int .i64 x.r.prev, .int .i64 x.r.wp, .int .i64 x.r.wi, .int .i64 x.r.sp, .int .i64 x.r.si, .int .i64 x.r.delta, .int .i64 x.r.id, .int .i64 x.r.grp, .int .i64 x.r.lo, .int .i64 x.r.hi, .int .i64 x.r.val, .slice x.m.la x.m.ll x.m.lc, .slice x.m.da x.m.dl x.m.dc, .int .i64 x.r.next, .slice x.ba x.bl x.bc]
theorem OV.csl (x : OV) : x.cs.length = 19 := rfl
structure OV.Ok (W : World) (x : OV) : Prop where
  r : RArg W x.r x.m
  b : Rd W x.ba (bvs x.bs)
  bl : x.bs.length = x.bl
  bz : x.ba = none → x.bl = 0
  bc : x.bl ≤ x.bc
theorem weights_all {H : Type} {P : Program} {e : TypeId} : ∀ {ds : List (DataW H)} {d : DataW H}, d ∈ ds → ∀ n ∈ d.weights P e, n ∈ DataW.weightsAll P e ds
  | d0 :: r, d, hd, n, hn => by
    rw [DataW.weightsAll, List.mem_append]
    rcases List.mem_cons.1 hd with rfl | hd
    · exact .inl hn
    · exact .inr (weights_all hd n hn)
/-- Elements of a list, each within the form's own reach. -/
theorem ClW.cells {P : Program} {W : World} {t e : TypeId} {a : Option Addr} {l c : Nat} {s : Nat} (ht : P.underlying t = some (.slice e)) (hs : P.cellsOf e = s) (hs0 : 0 < s) (h : ClW P W t [.slice a l c]) :
    ∃ css : Nat → List Value, (∀ i, i < l → ClW P W e (css i)) ∧ ∀ i, i < l → ∀ (q : Nat) v, (css i)[q]? = some v → ∃ b o, a = some ⟨b, o, none⟩ ∧ W.cell? ⟨b, o + i * s + q, none⟩ = some v := by
  obtain ⟨H, enc, fuel, x, hf, hw⟩ := h
  rcases Deep.open_slice ht hf with ⟨h, _⟩ | ⟨ad, len, cap, m, n, D, Pl, h, _, hl, hm, hmm, hx, hall⟩
  · cases h
    exact ⟨fun _ => [], fun i hi => by omega, fun i hi => by omega⟩
  · cases h
    have each : ∀ i, i < l → ∃ cs : List Value, cs.length = s ∧ (∀ j v, cs[j]? = some v → W.cell? ((ad.add (i * s)).add j) = some v) ∧ ClW P W e cs := fun i hi => by
      obtain ⟨cs, g1, g2⟩ := hall i (by simp only [if_true] at hmm; omega)
      obtain ⟨g3, g4⟩ := cells_row g1
      rw [hs] at g3 g4
      refine ⟨cs, g3, g4, H, enc, n, _, g2, fun k hk => hw k ?_⟩
      subst hx
      simp only [DataW.weights, ht]
      refine List.mem_cons_of_mem _ (List.mem_append.2 (.inl (weights_all (d := D i) ?_ k hk)))
      exact List.mem_map.2 ⟨i, List.mem_range.2 hi, rfl⟩
    obtain ⟨css, hcss⟩ := Deep.choose_lt (α := List Value) (p := fun i cs => cs.length = s ∧ (∀ j v, cs[j]? = some v → W.cell? ((ad.add (i * s)).add j) = some v) ∧ ClW P W e cs) each
    refine ⟨css, fun i hi => (hcss i hi).2.2, fun i hi j v hv => ?_⟩
    have hsp : ad.spot = none := by
      have h0 := hcss 0 (by omega)
      have hlt : 0 < (css 0).length := by omega
      have hc := h0.2.1 0 _ (List.getElem?_eq_getElem hlt)
      rw [Nat.zero_mul] at hc
      have ea : (ad.add 0).add 0 = ad := by simp [Addr.add]
      rw [ea] at hc
      unfold World.cell? at hc
      split at hc
      · cases hs : ad.spot with
        | none => rfl
        | some s => rw [hs] at hc; cases hc
      · cases hc
    obtain ⟨b, o, sp⟩ := ad
    simp only at hsp
    subst hsp
    refine ⟨b, o, rfl, ?_⟩
    have := (hcss i hi).2.1 j v hv
    rwa [add_at, add_at] at this

theorem op_open {W : World} {cs : List Value} (h : ClW Try.prog W T_quotalaw05_Op cs) : ∃ x : OV, cs = x.cs ∧ x.Ok W := by
  have hl := h.cl.slen (s := 19) (by kernel_rfl)
  have f0 := (h.field 0 (e := T_int) (o := 0) (s := 1) (by kernel_rfl)).cl
  have f1 := h.field 1 (e := T_api_Record) (o := 1) (s := 17) (by kernel_rfl)
  have f2 := (h.field 2 (e := T_s_uint8) (o := 18) (s := 1) (by kernel_rfl)).cl
  obtain ⟨r, m, he, hr⟩ := rec_open f1
  match cs, hl with
  | [x0, x1, x2, x3, x4, x5, x6, x7, x8, x9, x10, x11, x12, x13, x14, x15, x16, x17, x18], _ =>
    simp only [List.drop_zero, List.drop_succ_cons, List.take_succ_cons, List.take_zero] at f0 he f2
    obtain ⟨k, h0, w0⟩ := f0.int (k := .i64) (by kernel_rfl)
    obtain ⟨a, l, c, h2⟩ := f2.slc (e := T_uint8) (by kernel_rfl)
    cases h0; cases h2
    obtain ⟨hlc, hm, hz, bs, hb, hrd⟩ := f2.bytes (e := T_uint8) (by kernel_rfl) (by kernel_rfl) (by kernel_rfl)
    have he : [x1, x2, x3, x4, x5, x6, x7, x8, x9, x10, x11, x12, x13, x14, x15, x16, x17] = [.int .i64 r.lsn, .int .i64 r.kind, .int .i64 r.tx, .int .i64 r.prev, .int .i64 r.wp, .int .i64 r.wi, .int .i64 r.sp, .int .i64 r.si, .int .i64 r.delta, .int .i64 r.id, .int .i64 r.grp, .int .i64 r.lo, .int .i64 r.hi, .int .i64 r.val, .slice m.la m.ll m.lc, .slice m.da m.dl m.dc, .int .i64 r.next] := he
    simp only [List.cons.injEq, and_true] at he
    obtain ⟨rfl, rfl, rfl, rfl, rfl, rfl, rfl, rfl, rfl, rfl, rfl, rfl, rfl, rfl, rfl, rfl, rfl⟩ := he
    exact ⟨⟨k, r, m, a, l, c, bs⟩, rfl, hr, hrd, hb, fun h => (hz h).1, hlc⟩
theorem ops_open {W : World} {v : Value} (h : ArgW Try.prog W T_s_quotalaw05_Op v) : ∃ a l c L, v = .slice a l c ∧ L.length = l ∧ Rd W a (flatV OV.cs L) ∧ ∀ x ∈ L, x.Ok W := by
  obtain ⟨a, l, c, rfl, hc⟩ := h.arg.slice (e := T_quotalaw05_Op) (by kernel_rfl)
  have hw : ClW Try.prog W T_s_quotalaw05_Op [.slice a l c] := h.clw
  obtain ⟨css, h1, h2⟩ := hw.cells (e := T_quotalaw05_Op) (s := 19) (by kernel_rfl) (by kernel_rfl) (by omega)
  have each : ∀ i, i < l → ∃ x : OV, css i = x.cs ∧ x.Ok W := fun i hi => op_open (h1 i hi)
  obtain ⟨f, hf⟩ := Deep.choose_lt (α := OV) (p := fun i x => css i = x.cs ∧ x.Ok W) each
  refine ⟨a, l, c, (List.range l).map f, rfl, by simp, rd_flat OV.csl (by omega) fun i hi q v hv => ?_, fun x hx => ?_⟩
  · have hil : i < l := by simpa using hi
    have e : ((List.range l).map f)[i] = f i := by simp
    rw [e] at hv
    exact h2 i hil q v (by rw [(hf i hil).1]; exact hv)
  · simp only [List.mem_map, List.mem_range] at hx
    obtain ⟨i, hi, rfl⟩ := hx
    exact (hf i hi).2

/-- An op in the script. -/
theorem opI {w : World} {a : Option Addr} {L : List OV} (h : Rd w a (flatV OV.cs L)) {k : Nat} (hk : k < L.length) {n : Int} (hn : n = (k : Int)) {l : Nat} (hl : L.length = l) {K : Int → Int → Int → Int → Int → Int → Int → Int → Int → Int → Int → Int → Int → Int → Int → Option Addr → Nat → Nat → Option Addr → Nat → Nat → Int → Option Addr → Nat → Nat → Prop}
    (hK : K (L[k]).kind (L[k]).r.lsn (L[k]).r.kind (L[k]).r.tx (L[k]).r.prev (L[k]).r.wp (L[k]).r.wi (L[k]).r.sp (L[k]).r.si (L[k]).r.delta (L[k]).r.id (L[k]).r.grp (L[k]).r.lo (L[k]).r.hi (L[k]).r.val (L[k]).m.la (L[k]).m.ll (L[k]).m.lc (L[k]).m.da (L[k]).m.dl (L[k]).m.dc (L[k]).r.next (L[k]).ba (L[k]).bl (L[k]).bc) :
    IdxF a n l fun d => ∃ (n1 : Int) (n2 : Int) (n3 : Int) (n4 : Int) (n5 : Int) (n6 : Int) (n7 : Int) (n8 : Int) (n9 : Int) (n10 : Int) (n11 : Int) (n12 : Int) (n13 : Int) (n14 : Int) (n15 : Int) (a2 : Option Addr) (l2 c2 : Nat) (a3 : Option Addr) (l3 c3 : Nat) (n16 : Int) (a4 : Option Addr) (l4 c4 : Nat), (w.cell? (d.add (Int.toNat n * 19)) = some (.int .i64 n1) ∧ w.cell? (Addr.add (d.add (Int.toNat n * 19)) 1) = some (.int .i64 n2) ∧ w.cell? (Addr.add (d.add (Int.toNat n * 19)) 2) = some (.int .i64 n3) ∧ w.cell? (Addr.add (d.add (Int.toNat n * 19)) 3) = some (.int .i64 n4) ∧ w.cell? (Addr.add (d.add (Int.toNat n * 19)) 4) = some (.int .i64 n5) ∧ w.cell? (Addr.add (d.add (Int.toNat n * 19)) 5) = some (.int .i64 n6) ∧ w.cell? (Addr.add (d.add (Int.toNat n * 19)) 6) = some (.int .i64 n7) ∧ w.cell? (Addr.add (d.add (Int.toNat n * 19)) 7) = some (.int .i64 n8) ∧ w.cell? (Addr.add (d.add (Int.toNat n * 19)) 8) = some (.int .i64 n9) ∧ w.cell? (Addr.add (d.add (Int.toNat n * 19)) 9) = some (.int .i64 n10) ∧ w.cell? (Addr.add (d.add (Int.toNat n * 19)) 10) = some (.int .i64 n11) ∧ w.cell? (Addr.add (d.add (Int.toNat n * 19)) 11) = some (.int .i64 n12) ∧ w.cell? (Addr.add (d.add (Int.toNat n * 19)) 12) = some (.int .i64 n13) ∧ w.cell? (Addr.add (d.add (Int.toNat n * 19)) 13) = some (.int .i64 n14) ∧ w.cell? (Addr.add (d.add (Int.toNat n * 19)) 14) = some (.int .i64 n15) ∧ w.cell? (Addr.add (d.add (Int.toNat n * 19)) 15) = some (.slice a2 l2 c2) ∧ w.cell? (Addr.add (d.add (Int.toNat n * 19)) 16) = some (.slice a3 l3 c3) ∧ w.cell? (Addr.add (d.add (Int.toNat n * 19)) 17) = some (.int .i64 n16) ∧ w.cell? (Addr.add (d.add (Int.toNat n * 19)) 18) = some (.slice a4 l4 c4) ∧ True) ∧ K n1 n2 n3 n4 n5 n6 n7 n8 n9 n10 n11 n12 n13 n14 n15 a2 l2 c2 a3 l3 c3 n16 a4 l4 c4 := by
  subst hn
  refine rd_el OV.csl (by omega) h hk hl fun b o ha hc => ?_
  refine ⟨_, _, _, _, _, _, _, _, _, _, _, _, _, _, _, _, _, _, _, _, _, _, _, _, _, ⟨?_, ?_, ?_, ?_, ?_, ?_, ?_, ?_, ?_, ?_, ?_, ?_, ?_, ?_, ?_, ?_, ?_, ?_, ?_, trivial⟩, hK⟩ <;> rw [Int.toNat_natCast]
  · rw [add_at]; exact hc 0 _ rfl
  all_goals rw [add_at, add_at]
  · exact hc 1 _ rfl
  · exact hc 2 _ rfl
  · exact hc 3 _ rfl
  · exact hc 4 _ rfl
  · exact hc 5 _ rfl
  · exact hc 6 _ rfl
  · exact hc 7 _ rfl
  · exact hc 8 _ rfl
  · exact hc 9 _ rfl
  · exact hc 10 _ rfl
  · exact hc 11 _ rfl
  · exact hc 12 _ rfl
  · exact hc 13 _ rfl
  · exact hc 14 _ rfl
  · exact hc 15 _ rfl
  · exact hc 16 _ rfl
  · exact hc 17 _ rfl
  · exact hc 18 _ rfl
theorem op_cp {w : World} (x : OV) {K : Nat → World → Prop} (h : ∀ b w', Loc w w' b x.cs.toArray T_quotalaw05_Op → K b w') :
    AlF w (.cells #[.int .i64 0, .int .i64 0, .int .i64 0, .int .i64 0, .int .i64 0, .int .i64 0, .int .i64 0, .int .i64 0, .int .i64 0, .int .i64 0, .int .i64 0, .int .i64 0, .int .i64 0, .int .i64 0, .int .i64 0, .slice none 0 0, .slice none 0 0, .int .i64 0, .slice none 0 0] T_quotalaw05_Op) fun b w0 => StF w0 ⟨b, 0, none⟩ (.int .i64 x.kind) fun w1 => StF w1 (Addr.add ⟨b, 0, none⟩ 1) (.int .i64 x.r.lsn) fun w2 => StF w2 (Addr.add ⟨b, 0, none⟩ 2) (.int .i64 x.r.kind) fun w3 => StF w3 (Addr.add ⟨b, 0, none⟩ 3) (.int .i64 x.r.tx) fun w4 => StF w4 (Addr.add ⟨b, 0, none⟩ 4) (.int .i64 x.r.prev) fun w5 => StF w5 (Addr.add ⟨b, 0, none⟩ 5) (.int .i64 x.r.wp) fun w6 => StF w6 (Addr.add ⟨b, 0, none⟩ 6) (.int .i64 x.r.wi) fun w7 => StF w7 (Addr.add ⟨b, 0, none⟩ 7) (.int .i64 x.r.sp) fun w8 => StF w8 (Addr.add ⟨b, 0, none⟩ 8) (.int .i64 x.r.si) fun w9 => StF w9 (Addr.add ⟨b, 0, none⟩ 9) (.int .i64 x.r.delta) fun w10 => StF w10 (Addr.add ⟨b, 0, none⟩ 10) (.int .i64 x.r.id) fun w11 => StF w11 (Addr.add ⟨b, 0, none⟩ 11) (.int .i64 x.r.grp) fun w12 => StF w12 (Addr.add ⟨b, 0, none⟩ 12) (.int .i64 x.r.lo) fun w13 => StF w13 (Addr.add ⟨b, 0, none⟩ 13) (.int .i64 x.r.hi) fun w14 => StF w14 (Addr.add ⟨b, 0, none⟩ 14) (.int .i64 x.r.val) fun w15 => StF w15 (Addr.add ⟨b, 0, none⟩ 15) (.slice x.m.la x.m.ll x.m.lc) fun w16 => StF w16 (Addr.add ⟨b, 0, none⟩ 16) (.slice x.m.da x.m.dl x.m.dc) fun w17 => StF w17 (Addr.add ⟨b, 0, none⟩ 17) (.int .i64 x.r.next) fun w18 => StF w18 (Addr.add ⟨b, 0, none⟩ 18) (.slice x.ba x.bl x.bc) fun w19 => K b w19 :=
  Loc.al (Kp.refl _ w) fun b w0 h0 _ _ =>
  h0.st rfl (by simp) fun w1 h' _ => have h1 : Loc w w1 b #[.int .i64 x.kind, .int .i64 0, .int .i64 0, .int .i64 0, .int .i64 0, .int .i64 0, .int .i64 0, .int .i64 0, .int .i64 0, .int .i64 0, .int .i64 0, .int .i64 0, .int .i64 0, .int .i64 0, .int .i64 0, .slice none 0 0, .slice none 0 0, .int .i64 0, .slice none 0 0] T_quotalaw05_Op := h'
  h1.st rfl (by simp) fun w2 h' _ => have h2 : Loc w w2 b #[.int .i64 x.kind, .int .i64 x.r.lsn, .int .i64 0, .int .i64 0, .int .i64 0, .int .i64 0, .int .i64 0, .int .i64 0, .int .i64 0, .int .i64 0, .int .i64 0, .int .i64 0, .int .i64 0, .int .i64 0, .int .i64 0, .slice none 0 0, .slice none 0 0, .int .i64 0, .slice none 0 0] T_quotalaw05_Op := h'
  h2.st rfl (by simp) fun w3 h' _ => have h3 : Loc w w3 b #[.int .i64 x.kind, .int .i64 x.r.lsn, .int .i64 x.r.kind, .int .i64 0, .int .i64 0, .int .i64 0, .int .i64 0, .int .i64 0, .int .i64 0, .int .i64 0, .int .i64 0, .int .i64 0, .int .i64 0, .int .i64 0, .int .i64 0, .slice none 0 0, .slice none 0 0, .int .i64 0, .slice none 0 0] T_quotalaw05_Op := h'
  h3.st rfl (by simp) fun w4 h' _ => have h4 : Loc w w4 b #[.int .i64 x.kind, .int .i64 x.r.lsn, .int .i64 x.r.kind, .int .i64 x.r.tx, .int .i64 0, .int .i64 0, .int .i64 0, .int .i64 0, .int .i64 0, .int .i64 0, .int .i64 0, .int .i64 0, .int .i64 0, .int .i64 0, .int .i64 0, .slice none 0 0, .slice none 0 0, .int .i64 0, .slice none 0 0] T_quotalaw05_Op := h'
  h4.st rfl (by simp) fun w5 h' _ => have h5 : Loc w w5 b #[.int .i64 x.kind, .int .i64 x.r.lsn, .int .i64 x.r.kind, .int .i64 x.r.tx, .int .i64 x.r.prev, .int .i64 0, .int .i64 0, .int .i64 0, .int .i64 0, .int .i64 0, .int .i64 0, .int .i64 0, .int .i64 0, .int .i64 0, .int .i64 0, .slice none 0 0, .slice none 0 0, .int .i64 0, .slice none 0 0] T_quotalaw05_Op := h'
  h5.st rfl (by simp) fun w6 h' _ => have h6 : Loc w w6 b #[.int .i64 x.kind, .int .i64 x.r.lsn, .int .i64 x.r.kind, .int .i64 x.r.tx, .int .i64 x.r.prev, .int .i64 x.r.wp, .int .i64 0, .int .i64 0, .int .i64 0, .int .i64 0, .int .i64 0, .int .i64 0, .int .i64 0, .int .i64 0, .int .i64 0, .slice none 0 0, .slice none 0 0, .int .i64 0, .slice none 0 0] T_quotalaw05_Op := h'
  h6.st rfl (by simp) fun w7 h' _ => have h7 : Loc w w7 b #[.int .i64 x.kind, .int .i64 x.r.lsn, .int .i64 x.r.kind, .int .i64 x.r.tx, .int .i64 x.r.prev, .int .i64 x.r.wp, .int .i64 x.r.wi, .int .i64 0, .int .i64 0, .int .i64 0, .int .i64 0, .int .i64 0, .int .i64 0, .int .i64 0, .int .i64 0, .slice none 0 0, .slice none 0 0, .int .i64 0, .slice none 0 0] T_quotalaw05_Op := h'
  h7.st rfl (by simp) fun w8 h' _ => have h8 : Loc w w8 b #[.int .i64 x.kind, .int .i64 x.r.lsn, .int .i64 x.r.kind, .int .i64 x.r.tx, .int .i64 x.r.prev, .int .i64 x.r.wp, .int .i64 x.r.wi, .int .i64 x.r.sp, .int .i64 0, .int .i64 0, .int .i64 0, .int .i64 0, .int .i64 0, .int .i64 0, .int .i64 0, .slice none 0 0, .slice none 0 0, .int .i64 0, .slice none 0 0] T_quotalaw05_Op := h'
  h8.st rfl (by simp) fun w9 h' _ => have h9 : Loc w w9 b #[.int .i64 x.kind, .int .i64 x.r.lsn, .int .i64 x.r.kind, .int .i64 x.r.tx, .int .i64 x.r.prev, .int .i64 x.r.wp, .int .i64 x.r.wi, .int .i64 x.r.sp, .int .i64 x.r.si, .int .i64 0, .int .i64 0, .int .i64 0, .int .i64 0, .int .i64 0, .int .i64 0, .slice none 0 0, .slice none 0 0, .int .i64 0, .slice none 0 0] T_quotalaw05_Op := h'
  h9.st rfl (by simp) fun w10 h' _ => have h10 : Loc w w10 b #[.int .i64 x.kind, .int .i64 x.r.lsn, .int .i64 x.r.kind, .int .i64 x.r.tx, .int .i64 x.r.prev, .int .i64 x.r.wp, .int .i64 x.r.wi, .int .i64 x.r.sp, .int .i64 x.r.si, .int .i64 x.r.delta, .int .i64 0, .int .i64 0, .int .i64 0, .int .i64 0, .int .i64 0, .slice none 0 0, .slice none 0 0, .int .i64 0, .slice none 0 0] T_quotalaw05_Op := h'
  h10.st rfl (by simp) fun w11 h' _ => have h11 : Loc w w11 b #[.int .i64 x.kind, .int .i64 x.r.lsn, .int .i64 x.r.kind, .int .i64 x.r.tx, .int .i64 x.r.prev, .int .i64 x.r.wp, .int .i64 x.r.wi, .int .i64 x.r.sp, .int .i64 x.r.si, .int .i64 x.r.delta, .int .i64 x.r.id, .int .i64 0, .int .i64 0, .int .i64 0, .int .i64 0, .slice none 0 0, .slice none 0 0, .int .i64 0, .slice none 0 0] T_quotalaw05_Op := h'
  h11.st rfl (by simp) fun w12 h' _ => have h12 : Loc w w12 b #[.int .i64 x.kind, .int .i64 x.r.lsn, .int .i64 x.r.kind, .int .i64 x.r.tx, .int .i64 x.r.prev, .int .i64 x.r.wp, .int .i64 x.r.wi, .int .i64 x.r.sp, .int .i64 x.r.si, .int .i64 x.r.delta, .int .i64 x.r.id, .int .i64 x.r.grp, .int .i64 0, .int .i64 0, .int .i64 0, .slice none 0 0, .slice none 0 0, .int .i64 0, .slice none 0 0] T_quotalaw05_Op := h'
  h12.st rfl (by simp) fun w13 h' _ => have h13 : Loc w w13 b #[.int .i64 x.kind, .int .i64 x.r.lsn, .int .i64 x.r.kind, .int .i64 x.r.tx, .int .i64 x.r.prev, .int .i64 x.r.wp, .int .i64 x.r.wi, .int .i64 x.r.sp, .int .i64 x.r.si, .int .i64 x.r.delta, .int .i64 x.r.id, .int .i64 x.r.grp, .int .i64 x.r.lo, .int .i64 0, .int .i64 0, .slice none 0 0, .slice none 0 0, .int .i64 0, .slice none 0 0] T_quotalaw05_Op := h'
  h13.st rfl (by simp) fun w14 h' _ => have h14 : Loc w w14 b #[.int .i64 x.kind, .int .i64 x.r.lsn, .int .i64 x.r.kind, .int .i64 x.r.tx, .int .i64 x.r.prev, .int .i64 x.r.wp, .int .i64 x.r.wi, .int .i64 x.r.sp, .int .i64 x.r.si, .int .i64 x.r.delta, .int .i64 x.r.id, .int .i64 x.r.grp, .int .i64 x.r.lo, .int .i64 x.r.hi, .int .i64 0, .slice none 0 0, .slice none 0 0, .int .i64 0, .slice none 0 0] T_quotalaw05_Op := h'
  h14.st rfl (by simp) fun w15 h' _ => have h15 : Loc w w15 b #[.int .i64 x.kind, .int .i64 x.r.lsn, .int .i64 x.r.kind, .int .i64 x.r.tx, .int .i64 x.r.prev, .int .i64 x.r.wp, .int .i64 x.r.wi, .int .i64 x.r.sp, .int .i64 x.r.si, .int .i64 x.r.delta, .int .i64 x.r.id, .int .i64 x.r.grp, .int .i64 x.r.lo, .int .i64 x.r.hi, .int .i64 x.r.val, .slice none 0 0, .slice none 0 0, .int .i64 0, .slice none 0 0] T_quotalaw05_Op := h'
  h15.st rfl (by simp) fun w16 h' _ => have h16 : Loc w w16 b #[.int .i64 x.kind, .int .i64 x.r.lsn, .int .i64 x.r.kind, .int .i64 x.r.tx, .int .i64 x.r.prev, .int .i64 x.r.wp, .int .i64 x.r.wi, .int .i64 x.r.sp, .int .i64 x.r.si, .int .i64 x.r.delta, .int .i64 x.r.id, .int .i64 x.r.grp, .int .i64 x.r.lo, .int .i64 x.r.hi, .int .i64 x.r.val, .slice x.m.la x.m.ll x.m.lc, .slice none 0 0, .int .i64 0, .slice none 0 0] T_quotalaw05_Op := h'
  h16.st rfl (by simp) fun w17 h' _ => have h17 : Loc w w17 b #[.int .i64 x.kind, .int .i64 x.r.lsn, .int .i64 x.r.kind, .int .i64 x.r.tx, .int .i64 x.r.prev, .int .i64 x.r.wp, .int .i64 x.r.wi, .int .i64 x.r.sp, .int .i64 x.r.si, .int .i64 x.r.delta, .int .i64 x.r.id, .int .i64 x.r.grp, .int .i64 x.r.lo, .int .i64 x.r.hi, .int .i64 x.r.val, .slice x.m.la x.m.ll x.m.lc, .slice x.m.da x.m.dl x.m.dc, .int .i64 0, .slice none 0 0] T_quotalaw05_Op := h'
  h17.st rfl (by simp) fun w18 h' _ => have h18 : Loc w w18 b #[.int .i64 x.kind, .int .i64 x.r.lsn, .int .i64 x.r.kind, .int .i64 x.r.tx, .int .i64 x.r.prev, .int .i64 x.r.wp, .int .i64 x.r.wi, .int .i64 x.r.sp, .int .i64 x.r.si, .int .i64 x.r.delta, .int .i64 x.r.id, .int .i64 x.r.grp, .int .i64 x.r.lo, .int .i64 x.r.hi, .int .i64 x.r.val, .slice x.m.la x.m.ll x.m.lc, .slice x.m.da x.m.dl x.m.dc, .int .i64 x.r.next, .slice none 0 0] T_quotalaw05_Op := h'
  h18.st rfl (by simp) fun w19 h' _ => have h19 : Loc w w19 b #[.int .i64 x.kind, .int .i64 x.r.lsn, .int .i64 x.r.kind, .int .i64 x.r.tx, .int .i64 x.r.prev, .int .i64 x.r.wp, .int .i64 x.r.wi, .int .i64 x.r.sp, .int .i64 x.r.si, .int .i64 x.r.delta, .int .i64 x.r.id, .int .i64 x.r.grp, .int .i64 x.r.lo, .int .i64 x.r.hi, .int .i64 x.r.val, .slice x.m.la x.m.ll x.m.lc, .slice x.m.da x.m.dl x.m.dc, .int .i64 x.r.next, .slice x.ba x.bl x.bc] T_quotalaw05_Op := h'
  h b w19 h19

set_option maxRecDepth 100000 in
set_option maxHeartbeats 4000000 in
theorem recordExact_c {w : World} {a : Option Addr} {l c : Nat} {L : List OV} {R : Ending → World → Prop} (hl : L.length = l) (hr : Rd w a (flatV OV.cs L)) (hok : ∀ x ∈ L, x.Ok w)
    (h : ∀ w', Kp no w w' → R (.returned (.bool true)) w') : GoC Try.prog F_law05_RecordExact #[.slice a l c] w R := by
  refine S_law05_RecordExact ?_
  unfold W_law05_RecordExact
  refine awake_c fun w1 k1 => ⟨_, rfl, cond_f rfl ?_⟩
  refine AlF.intro fun b1 w2 hb1e hb1 k2 _ => ?_
  have o0 : Old w w fun _ => 0 := ⟨Kp.refl _ _, fun _ _ => rfl⟩
  have f1 : Fro (fun _ => True) w (fun _ => 0) w1 (ext (fun _ => 0) w.heap.size 9) := Fro.of_kp0 9 k1
  have f2 : Fro (fun _ => True) w1 (ext (fun _ => 0) w.heap.size 9) w2 (ext (ext (fun _ => 0) w.heap.size 9) w1.heap.size 1000) := Fro.of_kp0 1000 k2
  have o2 := (o0.fr f1 trivial).fr f2 trivial
  have t2 : ext (ext (fun _ => 0) w.heap.size 9) w1.heap.size 1000 b1 = 1000 := ext_new (by omega)
  generalize ext (ext (fun _ => 0) w.heap.size 9) w1.heap.size 1000 = ow2 at *
  have bq2 : Bq w2 ow2 b1 0 0 := ⟨⟨none, 0, 0⟩, ⟨none, 0, 0⟩, ⟨none, 0, 0⟩, ⟨none, 0, 0⟩, ⟨none, 0, 0⟩, ⟨none, 0, 0⟩, [], [], [], [], [], [], hb1, t2, ⟨slt_nil _ _ _ _ _, slt_nil _ _ _ _ _, rfl, rfl, rfl, rfl, RF.nil, RF.nil⟩, ⟨slt_nil _ _ _ _ _, slt_nil _ _ _ _ _, rfl, rfl, rfl, rfl, RF.nil, RF.nil⟩, ⟨slt_nil _ _ _ _ _, slt_nil _ _ _ _ _, rfl, rfl, rfl, rfl, RF.nil, RF.nil⟩⟩
  clear f1 f2 t2 hb1
  refine loopN (fun s w' => ∃ k : Nat, k ≤ l ∧ k ≤ 100 ∧ s.1 = (k : Int) ∧ ∃ nB nL ow', nB ≤ 4 * k ∧ nL ≤ 4 * k ∧ Bq w' ow' b1 nB nL ∧ Old w w' ow') (fun s _ => l - s.1.toNat) ⟨0, Nat.zero_le _, by omega, rfl, 0, 0, ow2, by omega, by omega, bq2, o2⟩ ?_
  clear bq2 o2
  rintro ⟨k0, u⟩ w3 ⟨k, hkl, hk100, hk0, nB, nL, ow3, hnB, hnL, bq, o⟩ _
  dsimp only at hk0 ⊢
  subst hk0
  refine cond_d (fun hlt => ?_) (fun hge => h w3 o.kp)
  refine cond_d (fun hlt2 => ?_) (fun hge => h w3 o.kp)
  have hk : k < L.length := by omega
  refine opI (hr.kp0 o.kp) hk rfl hl ?_
  have ok := hok L[k] (List.getElem_mem hk)
  generalize L[k] = x at *
  refine op_cp x fun b2 w4 h4 => ?_
  have f4 : Fro (fun _ => True) w3 ow3 w4 (ext ow3 w3.heap.size 50) := Fro.of_kp0 50 h4.kp
  have t4 : ext ow3 w3.heap.size 50 b2 = 50 := ext_new h4.nw
  have bq := bq.fr f4 fun _ _ => trivial
  have o := o.fr f4 trivial
  have y4 := h4.blk
  generalize ext ow3 w3.heap.size 50 = ow4 at *
  clear f4 h4
  refine ⟨fun s w' => s.1 = true ∧ ∃ nB nL ow', nB ≤ 4 * (k + 1) ∧ nL ≤ 4 * (k + 1) ∧ Bq w' ow' b1 nB nL ∧ Old w w' ow', ?_, ?_⟩
  · refine ⟨_, y4.at rfl rfl, ?_⟩
    refine ⟨fun s w' => s.1 = decide (x.kind = 1 ∨ x.kind = 2) ∧ w' = w4, ?_, ?_⟩
    · refine cond_eq (fun e => ⟨by simp [e], rfl⟩) (fun e => ⟨?_, rfl⟩)
      by_cases e2 : x.kind = 2 <;> simp [e, e2]
    rintro ⟨s, u⟩ w' ⟨hs, rfl⟩ _
    dsimp only at hs ⊢
    rw [hs]
    refine cond_d (fun e12 => ?_) (fun n12 => cond_eq (fun e3 => ?_) (fun n3 => ?_))
    · refine ⟨_, _, _, _, _, _, _, _, _, _, _, _, _, _, _, _, _, _, _, _, _, ⟨y4.at rfl rfl, y4.at rfl rfl, y4.at rfl rfl, y4.at rfl rfl, y4.at rfl rfl, y4.at rfl rfl, y4.at rfl rfl, y4.at rfl rfl, y4.at rfl rfl, y4.at rfl rfl, y4.at rfl rfl, y4.at rfl rfl, y4.at rfl rfl, y4.at rfl rfl, y4.at rfl rfl, y4.at rfl rfl, y4.at rfl rfl, trivial⟩, ?_⟩
      refine cut_c2 (r := x.r) (m := x.m) (ok.r.kp0 o.kp) fun m5 w5 k5 hl5 hd5 hr5 ea ed => ⟨_, _, _, _, _, _, _, _, _, _, _, _, _, _, _, _, _, _, _, _, _, rfl, ?_⟩
      have f5 : Fro (fun _ => True) w' ow4 w5 (ext ow4 w'.heap.size 9) := Fro.of_kp0 9 k5
      have bq := bq.fr f5 fun _ _ => trivial
      have o := o.fr f5 trivial
      generalize ext ow4 w'.heap.size 9 = ow5 at *
      have rl : RdT w5 ow5 m5.la (flatV LV.cs (cutR x.r).live) 0 := by
        have := ok.r.li.l.take (100 * 4)
        rw [flatV_take LV.csl] at this
        rw [ea]
        exact RdT.old this o
      have rd : RdT w5 ow5 m5.da (flatV DV.cs (cutR x.r).dirty) 0 := by
        have := ok.r.li.d.take (100 * 2)
        rw [flatV_take DV.csl] at this
        rw [ed]
        exact RdT.old this o
      refine encodes_c (r := cutR x.r) (m := m5) bq (by omega) (by omega) rl rd hr5.li.ll hr5.li.dl hl5 hd5 hr5.wf.w64 fun w6 ow6 bq6 f6 => ⟨_, rfl, rfl, _, _, _, ?_, ?_, bq6, o.fr f6 (.inl rfl)⟩ <;> omega
    · refine ⟨fun _ w'' => ∃ ow'' l', l' = min x.bl 2000 ∧ w''.cell? (Addr.add ⟨b2, 0, none⟩ 18) = some (.slice x.ba l' x.bc) ∧ Bq w'' ow'' b1 nB nL ∧ Old w w'' ow'', ?_, ?_⟩
      · have hbc := ok.bc
        refine ⟨_, _, _, y4.at rfl rfl, cond_d (fun hg => ⟨_, _, _, y4.at rfl rfl, ⟨by omega, by omega⟩, trivial, ?_⟩) (fun hg => ⟨ow4, x.bl, by omega, y4.at rfl rfl, bq, o⟩)⟩
        rw [subA_zero]
        refine StF.at rfl y4 (Nat.le_of_ble_eq_true rfl) fun w5 x5 k5 _ => ?_
        have f5 : Fro (fun u => u ≠ 50) w' ow4 w5 ow4 := Fro.of_kp' k5 fun b _ hb' hne => hne (by rw [hb']; exact t4)
        exact ⟨ow4, 2000, by omega, x5.at rfl rfl, bq.fr f5 fun u hu => by omega, o.fr f5 (by omega)⟩
      rintro _ w5 ⟨ow5, l', hl', hc5, bq, o⟩ _
      refine ⟨_, _, _, hc5, ?_⟩
      have hbl := ok.bl
      have hbz := ok.bz
      refine decodes_c (bs := x.bs.take 2000) bq (by omega) (by omega) (RdT.old (rd_cut ok.b) o) (by rw [List.length_take]; omega) (fun hn => by have := hbz hn; omega) (by omega) fun w6 ow6 bq6 f6 => ⟨_, rfl, rfl, _, _, _, ?_, ?_, bq6, o.fr f6 (.inl rfl)⟩ <;> omega
    · exact ⟨rfl, nB, nL, ow4, by omega, by omega, bq, o⟩
  clear bq o y4 t4 ok hnB hnL
  rintro ⟨s, u⟩ w5 ⟨hs, nB, nL, ow5, hnB, hnL, bq, o⟩ _
  dsimp only at hs ⊢
  subst hs
  refine cond_f rfl (holds_c bq (by omega) (by omega) ⟨_, rfl, cond_f rfl ?_⟩)
  have wk : IntKind.wrap .i64 ((k : Int) + 1) = (k : Int) + 1 := wrap_i64 (by omega) (by omega)
  rw [wk]
  clear wk
  exact ⟨⟨k + 1, by omega, by omega, by omega, nB, nL, ow5, hnB, hnL, bq, o⟩, by omega⟩

theorem recordExact_walk {W : World} {v0 : Value} (h0 : ArgW Try.prog W T_s_quotalaw05_Op v0) : GoC Try.prog F_law05_RecordExact #[v0] W fun e W' => e = .returned (.bool true) ∧ Kp no W W' := by
  obtain ⟨a, l, c, L, rfl, hl, hr, hok⟩ := ops_open h0
  exact recordExact_c hl hr hok fun w' k => ⟨rfl, k⟩
end Go.Proofs.Ytjhncijdkmbopaa
