/- Contracts of the document's package for layer 5: bad, number, slot, checkpoint, Decode. Conditions: lengths below 2^46. -/
import Derived.Test.YtjhncijdkmbopaaRo
set_option linter.unusedVariables false
set_option linter.unusedSimpArgs false
namespace Go.Proofs.Ytjhncijdkmbopaa
open Go Go.RowKit

/-- The document's reader, by owner 3. -/
structure Rq (w : World) (ow : Nat → Nat) (B : Nat) (g : Option Addr) (bs : List UInt8) (st : Nat × Nat) : Prop where
  re : Rf w B g bs st.1 st.2
  t3 : Tg ow 3 (fpW B g)
theorem Rq.fr {T : Nat → Prop} {w w' : World} {ow ow' : Nat → Nat} {B : Nat} {g : Option Addr} {bs : List UInt8} {st : Nat × Nat} (h : Rq w ow B g bs st) (f : Fro T w ow w' ow') (h3 : T 3) : Rq w' ow' B g bs st :=
  ⟨h.re.kp f.kp fun b hb hn => hn (by rw [h.t3 b hb]; exact h3), h.t3.fr f h3 h.re.lt⟩
theorem Rq.U {w : World} {ow : Nat → Nat} {B : Nat} {g : Option Addr} {bs : List UInt8} {st : Nat × Nat} {M : Nat} {R : Ending → World → Prop} (h : Rq w ow B g bs st) (hb : bs.length < 140737488355329)
    (hk : ∀ w', Rq w' ow B g bs (rdU bs st M).2 → Fro (fun t => t ≠ 3) w ow w' ow → R (.returned (.int .u64 ((rdU bs st M).1 : Int))) w') : GoC Try.prog F_ref02_Reader_U #[.pointer (some ⟨B, 0, none⟩), .int .u64 (M : Int)] w R :=
  ref_U h.re hb fun w' hr k => hk w' ⟨hr, h.t3⟩ (Fro.of_kp' k fun b _ hb' hne => hne (h.t3 b (.inl hb')))
theorem Rq.S {w : World} {ow : Nat → Nat} {B : Nat} {g : Option Addr} {bs : List UInt8} {st : Nat × Nat} {R : Ending → World → Prop} (h : Rq w ow B g bs st) (hb : bs.length < 140737488355329)
    (hk : ∀ w', Rq w' ow B g bs (rdU bs st 18446744073709551615).2 → Fro (fun t => t ≠ 3) w ow w' ow → R (.returned (.int .i64 (unzig (rdU bs st 18446744073709551615).1))) w') : GoC Try.prog F_ref02_Reader_S #[.pointer (some ⟨B, 0, none⟩)] w R :=
  ref_S h.re hb fun w' hr k => hk w' ⟨hr, h.t3⟩ (Fro.of_kp' k fun b _ hb' hne => hne (h.t3 b (.inl hb')))
theorem Rq.E {w : World} {ow : Nat → Nat} {B : Nat} {g : Option Addr} {bs : List UInt8} {st : Nat × Nat} {R : Ending → World → Prop} (h : Rq w ow B g bs st)
    (hk : ∀ w', Rq w' ow B g bs (st.1, endE bs st) → Fro (fun t => t ≠ 3) w ow w' ow → R (.returned (.tuple #[])) w') : GoC Try.prog F_ref02_Reader_End #[.pointer (some ⟨B, 0, none⟩)] w R :=
  ref_End h.re fun w' hr k => hk w' ⟨hr, h.t3⟩ (Fro.of_kp' k fun b _ hb' hne => hne (h.t3 b (.inl hb')))
theorem Rq.err {w : World} {ow : Nat → Nat} {B : Nat} {g : Option Addr} {bs : List UInt8} {st : Nat × Nat} (h : Rq w ow B g bs st) : w.cell? (Addr.add ⟨B, 0, none⟩ 2) = some (.int .i64 (st.2 : Int)) := h.re.cerr

theorem bad_c {w : World} {ow : Nat → Nat} {B : Nat} {g : Option Addr} {bs : List UInt8} {st : Nat × Nat} {R : Ending → World → Prop} (h : Rq w ow B g bs st) (hk : R (.returned (.bool (decide (st.2 ≠ 0)))) w) : GoC Try.prog F_ref05_bad #[.pointer (some ⟨B, 0, none⟩)] w R := by
  refine S_ref05_bad ?_
  unfold W_ref05_bad
  refine NilF.intro rfl ⟨_, h.err, ?_⟩
  have e : (((st.2 : Nat) : Int) != 0) = decide (st.2 ≠ 0) := by by_cases hh : st.2 = 0 <;> simp [hh]
  rw [e]
  exact hk
theorem number_c {w : World} {ow : Nat → Nat} {B : Nat} {g : Option Addr} {bs : List UInt8} {st : Nat × Nat} {R : Ending → World → Prop} (h : Rq w ow B g bs st) (hb : bs.length < 140737488355329)
    (hk : ∀ w', Rq w' ow B g bs (rdU bs st 2147483647).2 → Fro (fun t => t ≠ 3) w ow w' ow → R (.returned (.int .i64 ((rdU bs st 2147483647).1 : Int))) w') : GoC Try.prog F_ref05_number #[.pointer (some ⟨B, 0, none⟩)] w R := by
  refine S_ref05_number ?_
  unfold W_ref05_number
  refine h.U (M := 2147483647) hb fun w' h' f' => ⟨_, rfl, ?_⟩
  rw [wr31 (by have := rdU_le bs st 2147483647; omega)]
  exact hk w' h' f'
theorem rslot_c {w : World} {ow : Nat → Nat} {B : Nat} {g : Option Addr} {bs : List UInt8} {st : Nat × Nat} {R : Ending → World → Prop} (h : Rq w ow B g bs st) (hb : bs.length < 140737488355329)
    (hk : ∀ w', Rq w' (ext ow w.heap.size 9) B g bs (rdU bs (rdU bs st 2147483647).2 2147483647).2 → Fro (fun t => t ≠ 3 ∧ t ≠ 9) w ow w' (ext ow w.heap.size 9) → R (.returned (.agg #[.int .i64 ((rdU bs st 2147483647).1 : Int), .int .i64 ((rdU bs (rdU bs st 2147483647).2 2147483647).1 : Int)])) w') :
    GoC Try.prog F_ref05_slot #[.pointer (some ⟨B, 0, none⟩)] w R := by
  refine S_ref05_slot ?_
  unfold W_ref05_slot
  refine AlF.intro fun b1 w1 hb1e hb1 k1 _ => ?_
  have f1 : Fro (fun _ => True) w ow w1 (ext ow w.heap.size 9) := Fro.of_kp0 9 k1
  have t1 : ext ow w.heap.size 9 b1 = 9 := ext_new (by omega)
  refine number_c (h.fr f1 trivial) hb fun w2 h2 f2 => ⟨_, rfl, number_c h2 hb fun w3 h3 f3 => ⟨_, rfl, ?_⟩⟩
  obtain ⟨x2, _⟩ := blk_fr hb1 t1 f2 (by omega)
  obtain ⟨x3, _⟩ := blk_fr x2 t1 f3 (by omega)
  refine StF.at rfl x3 (by simp) fun w4 x4 k4 _ => StF.at rfl x4 (by simp) fun w5 x5 k5 _ => ?_
  have f5 : Fro (fun t => t ≠ 9) w3 (ext ow w.heap.size 9) w5 (ext ow w.heap.size 9) := Fro.of_kp' (k4.trans0 k5) fun b _ hb' hne => hne (by rw [hb']; exact t1)
  refine ⟨_, _, ⟨x5.at rfl rfl, x5.at rfl rfl, trivial⟩, hk w5 (h3.fr f5 (by omega)) ?_⟩
  exact (((f1.mono fun _ _ => trivial).trans (f2.mono fun t ht => ht.1)).trans (f3.mono fun t ht => ht.1)).trans (f5.mono fun t ht => ht.2)

/-- One number read into the record. -/
theorem stepN {w0 w : World} {ow : Nat → Nat} {b1 b2 B : Nat} {g : Option Addr} {bs : List UInt8} {st : Nat × Nat} {r : RV} {m : Mm} {ad : Addr} {K : World → Prop} {C : List PanicEntry → World → Prop} (bx : Bx w0 w ow b1 b2 r m) (hR : Rq w ow B g bs st) (hb : bs.length < 140737488355329) (o : Nat) (ho : o ∈ plc) (had : ad = ⟨b2, o, none⟩)
    (hk : ∀ w', Bx w0 w' ow b1 b2 (r.put ((rdU bs st 2147483647).1 : Int) o) m → Rq w' ow B g bs (rdU bs st 2147483647).2 → K w') :
    CallF Try.prog F_ref05_number #[.pointer (some ⟨B, 0, none⟩)] w (fun r1 w1 => ∃ n1 : Int, r1 = .int .i64 n1 ∧ StF w1 ad (.int .i64 n1) K) C := by
  refine number_c hR hb fun w1 h1 f1 => ⟨_, rfl, ?_⟩
  exact (bx.fr f1 (by omega) (by omega) (by omega)).st (r.put ((rdU bs st 2147483647).1 : Int) o) m had (plc_lt ho) (put_cell _ _ _ ho) fun w2 bx2 f2 => hk w2 bx2 (h1.fr f2 (by omega))
theorem stepS {w0 w : World} {ow : Nat → Nat} {b1 b2 B : Nat} {g : Option Addr} {bs : List UInt8} {st : Nat × Nat} {r : RV} {m : Mm} {ad : Addr} {K : World → Prop} {C : List PanicEntry → World → Prop} (bx : Bx w0 w ow b1 b2 r m) (hR : Rq w ow B g bs st) (hb : bs.length < 140737488355329) (o : Nat) (ho : o ∈ plc) (had : ad = ⟨b2, o, none⟩)
    (hk : ∀ w', Bx w0 w' ow b1 b2 (r.put (unzig (rdU bs st 18446744073709551615).1) o) m → Rq w' ow B g bs (rdU bs st 18446744073709551615).2 → K w') :
    CallF Try.prog F_ref02_Reader_S #[.pointer (some ⟨B, 0, none⟩)] w (fun r1 w1 => ∃ n1 : Int, r1 = .int .i64 n1 ∧ StF w1 ad (.int .i64 n1) K) C := by
  refine hR.S hb fun w1 h1 f1 => ⟨_, rfl, ?_⟩
  exact (bx.fr f1 (by omega) (by omega) (by omega)).st (r.put (unzig (rdU bs st 18446744073709551615).1) o) m had (plc_lt ho) (put_cell _ _ _ ho) fun w2 bx2 f2 => hk w2 bx2 (h1.fr f2 (by omega))
theorem stepT {w0 w : World} {ow : Nat → Nat} {b1 b2 B : Nat} {g : Option Addr} {bs : List UInt8} {st : Nat × Nat} {r : RV} {m : Mm} {ad ad' : Addr} {K : World → Prop} {C : List PanicEntry → World → Prop} (bx : Bx w0 w ow b1 b2 r m) (hR : Rq w ow B g bs st) (hb : bs.length < 140737488355329) (o : Nat) (ho : o ∈ plc) (ho' : o + 1 ∈ plc) (had : ad = ⟨b2, o, none⟩) (had' : ad' = ⟨b2, o + 1, none⟩)
    (hk : ∀ w' ow', Bx w0 w' ow' b1 b2 ((r.put ((rdU bs st 2147483647).1 : Int) o).put ((rdU bs (rdU bs st 2147483647).2 2147483647).1 : Int) (o + 1)) m → Rq w' ow' B g bs (rdU bs (rdU bs st 2147483647).2 2147483647).2 → K w') :
    CallF Try.prog F_ref05_slot #[.pointer (some ⟨B, 0, none⟩)] w (fun r1 w1 => ∃ (n1 : Int) (n2 : Int), r1 = .agg #[.int .i64 n1, .int .i64 n2] ∧ StF w1 ad (.int .i64 n1) fun w2 => StF w2 ad' (.int .i64 n2) K) C := by
  refine rslot_c hR hb fun w1 h1 f1 => ⟨_, _, rfl, ?_⟩
  refine (bx.fr f1 (by omega) (by omega) (by omega)).st (r.put ((rdU bs st 2147483647).1 : Int) o) m had (plc_lt ho) (put_cell _ _ _ ho) fun w2 bx2 f2 => ?_
  exact bx2.st ((r.put ((rdU bs st 2147483647).1 : Int) o).put ((rdU bs (rdU bs st 2147483647).2 2147483647).1 : Int) (o + 1)) m had' (plc_lt ho') (put_cell _ _ _ ho') fun w3 bx3 f3 => hk w3 _ bx3 ((h1.fr f2 (by omega)).fr f3 (by omega))

/-- Behind a fault nothing is read. -/
theorem rdU_fault {bs : List UInt8} {st : Nat × Nat} {m : Nat} (h : st.2 ≠ 0) : rdU bs st m = (0, st) := by unfold rdU; rw [if_neg h]
theorem rdL1_fault {bs : List UInt8} {st : Nat × Nat} (h : st.2 ≠ 0) : (rdL1 bs st).2 = st := by unfold rdL1; simp only [rdU_fault h]
theorem rdD1_fault {bs : List UInt8} {st : Nat × Nat} (h : st.2 ≠ 0) : (rdD1 bs st).2 = st := by unfold rdD1; simp only [rdU_fault h]
theorem rdLive_fault {bs : List UInt8} : ∀ (n : Nat) {L : List LV} {st : Nat × Nat}, st.2 ≠ 0 → (rdLive bs n (L, st)).2 = st
  | 0, _, _, _ => rfl
  | n + 1, L, st, h => by
    rw [rdLive]
    dsimp only
    rw [rdL1_fault h]
    exact rdLive_fault n h
theorem rdDirty_fault {bs : List UInt8} : ∀ (n : Nat) {D : List DV} {st : Nat × Nat}, st.2 ≠ 0 → (rdDirty bs n (D, st)).2 = st
  | 0, _, _, _ => rfl
  | n + 1, D, st, h => by
    rw [rdDirty]
    dsimp only
    rw [rdD1_fault h]
    exact rdDirty_fault n h

/-- A checkpoint's box. -/
def ptc (m : Mm) (next : Int) : Array Value := #[.slice m.la m.ll m.lc, .slice m.da m.dl m.dc, .int .i64 next]
structure Px (w : World) (ow : Nat → Nat) (b1 b2 : Nat) (m : Mm) (next : Int) : Prop where
  x1 : Blk w b1 (ptc {} 0) T_api_Points
  t1 : ow b1 = 6
  x2 : Blk w b2 (ptc m next) T_api_Points
  t2 : ow b2 = 7
theorem Px.fr {T : Nat → Prop} {w w' : World} {ow ow' : Nat → Nat} {b1 b2 : Nat} {m : Mm} {next : Int} (h : Px w ow b1 b2 m next) (f : Fro T w ow w' ow') (h6 : T 6) (h7 : T 7) : Px w' ow' b1 b2 m next := by
  obtain ⟨a, b⟩ := blk_fr h.x1 h.t1 f h6
  obtain ⟨c, d⟩ := blk_fr h.x2 h.t2 f h7
  exact ⟨a, b, c, d⟩
theorem Px.st {w : World} {ow : Nat → Nat} {b1 b2 o : Nat} {m : Mm} {next : Int} {ad : Addr} {v : Value} {K : World → Prop} (h : Px w ow b1 b2 m next) (m3 : Mm) (n3 : Int) (had : ad = ⟨b2, o, none⟩) (ho : o < 3)
    (he : (ptc m next).setIfInBounds o v = ptc m3 n3) (hk : ∀ w', Px w' ow b1 b2 m3 n3 → Fro (fun t => t ≠ 7) w ow w' ow → K w') : StF w ad v K :=
  StF.at had h.x2 ho fun w' hb' k' _ => by
    have f : Fro (fun t => t ≠ 7) w ow w' ow := Fro.of_kp' k' fun b _ hb hne => hne (by rw [hb]; exact h.t2)
    obtain ⟨a, b⟩ := blk_fr h.x1 h.t1 f (by omega)
    exact hk w' ⟨a, b, he ▸ hb', h.t2⟩ f

theorem pushPL {w : World} {ow : Nat → Nat} {b1 b2 : Nat} {m : Mm} {next : Int} {L : List LV} (hx : Px w ow b1 b2 m next) (hl : SlT w ow T_api_Live 4 m.la m.ll m.lc (flatV LV.cs L) 4) (x : LV) (hlen : m.ll ≤ 1000) {K : World → Prop}
    (h : ∀ m' w' ow', Px w' ow' b1 b2 m' next → SlT w' ow' T_api_Live 4 m'.la m'.ll m'.lc (flatV LV.cs (L ++ [x])) 4 → Fro (fun t => t ≠ 4 ∧ t ≠ 7) w ow w' ow' → m'.ll = m.ll + 1 → m'.da = m.da ∧ m'.dl = m.dl ∧ m'.dc = m.dc → K w') :
    AlF w (.cells #[.int .i64 x.tx, .int .i64 x.last, .bool x.c, .bool x.u] T_api_Live) fun b4 w94 => RunF Try.prog (Builtin.append_ #[T_s_api_Live, T_s_api_Live] T_s_api_Live #[.slice m.la m.ll m.lc, .slice (some ⟨b4, 0, none⟩) 1 1]) w94 fun r11 w95 =>
      ∃ (a11 : Option Addr) (l11 c11 : Nat), r11 = .slice a11 l11 c11 ∧ StF w95 ⟨b2, 0, none⟩ (.slice a11 l11 c11) K := by
  refine AlF.intro fun b4 wa hb4e hb4 ka _ => ?_
  have fa : Fro (fun _ => True) w ow wa (ext ow w.heap.size 8) := Fro.of_kp0 8 ka
  refine app_c er_lv (hl.fr fa trivial) (rd_cells hb4 (xs := x.cs) rfl) (by rw [LV.csl]) (fun hh => by cases hh) x.cs1 (by omega) (by omega) fun a' c' wb hs' kb fb => ⟨a', _, c', rfl, ?_⟩
  refine ((hx.fr fa trivial trivial).fr fb (by omega) (by omega)).st { m with la := a', ll := m.ll + 1, lc := c' } next rfl (by omega) rfl fun wc hxc fc => ?_
  refine h _ wc _ hxc ?_ (((fa.mono fun _ _ => trivial).trans (fb.mono fun t ht => ht.1)).trans (fc.mono fun t ht => ht.2)) rfl ⟨rfl, rfl, rfl⟩
  have := hs'.fr fc (by omega)
  show SlT wc _ T_api_Live 4 a' (m.ll + 1) c' (flatV LV.cs (L ++ [x])) 4
  rw [flatV_app]
  exact this
theorem pushPD {w : World} {ow : Nat → Nat} {b1 b2 : Nat} {m : Mm} {next : Int} {D : List DV} (hx : Px w ow b1 b2 m next) (hl : SlT w ow T_api_Dirty 2 m.da m.dl m.dc (flatV DV.cs D) 5) (x : DV) (hlen : m.dl ≤ 1000) {K : World → Prop}
    (h : ∀ m' w' ow', Px w' ow' b1 b2 m' next → SlT w' ow' T_api_Dirty 2 m'.da m'.dl m'.dc (flatV DV.cs (D ++ [x])) 5 → Fro (fun t => t ≠ 5 ∧ t ≠ 7) w ow w' ow' → m'.dl = m.dl + 1 → m'.la = m.la ∧ m'.ll = m.ll ∧ m'.lc = m.lc → K w') :
    AlF w (.cells #[.int .i64 x.page, .int .i64 x.since] T_api_Dirty) fun b4 w94 => RunF Try.prog (Builtin.append_ #[T_s_api_Dirty, T_s_api_Dirty] T_s_api_Dirty #[.slice m.da m.dl m.dc, .slice (some ⟨b4, 0, none⟩) 1 1]) w94 fun r11 w95 =>
      ∃ (a11 : Option Addr) (l11 c11 : Nat), r11 = .slice a11 l11 c11 ∧ StF w95 (Addr.add ⟨b2, 0, none⟩ 1) (.slice a11 l11 c11) K := by
  refine AlF.intro fun b4 wa hb4e hb4 ka _ => ?_
  have fa : Fro (fun _ => True) w ow wa (ext ow w.heap.size 8) := Fro.of_kp0 8 ka
  refine app_c er_dv (hl.fr fa trivial) (rd_cells hb4 (xs := x.cs) rfl) (by rw [DV.csl]) (fun hh => by cases hh) x.cs1 (by omega) (by omega) fun a' c' wb hs' kb fb => ⟨a', _, c', rfl, ?_⟩
  refine ((hx.fr fa trivial trivial).fr fb (by omega) (by omega)).st { m with da := a', dl := m.dl + 1, dc := c' } next rfl (Nat.le_of_ble_eq_true rfl) rfl fun wc hxc fc => ?_
  refine h _ wc _ hxc ?_ (((fa.mono fun _ _ => trivial).trans (fb.mono fun t ht => ht.1)).trans (fc.mono fun t ht => ht.2)) rfl ⟨rfl, rfl, rfl⟩
  have := hs'.fr fc (by omega)
  show SlT wc _ T_api_Dirty 2 a' (m.dl + 1) c' (flatV DV.cs (D ++ [x])) 5
  rw [flatV_app]
  exact this

set_option maxHeartbeats 1000000 in
theorem rcheckpoint_c {w : World} {ow : Nat → Nat} {B : Nat} {g : Option Addr} {bs : List UInt8} {st : Nat × Nat} {R : Ending → World → Prop} (hR : Rq w ow B g bs st) (hb : bs.length < 140737488355329)
    (hk : ∀ (x : RV × (Nat × Nat)), x = rdCp bs ({ kind := 8, next := ((rdU bs st 2147483648).1 : Int) }, (rdU bs st 2147483648).2) → ∀ (m : Mm) (L : List LV) (D : List DV) w' ow', Rq w' ow' B g bs x.2 → (x.2.2 = 0 → x.1 = { kind := 8, next := ((rdU bs st 2147483648).1 : Int), live := L, dirty := D }) →
      SlT w' ow' T_api_Live 4 m.la m.ll m.lc (flatV LV.cs L) 4 → SlT w' ow' T_api_Dirty 2 m.da m.dl m.dc (flatV DV.cs D) 5 → L.length = m.ll → D.length = m.dl → m.ll ≤ 1000 → m.dl ≤ 1000 → Fro (fun t => t ≤ 2) w ow w' ow' →
      R (.returned (.agg #[.slice m.la m.ll m.lc, .slice m.da m.dl m.dc, .int .i64 ((rdU bs st 2147483648).1 : Int)])) w') : GoC Try.prog F_ref05_checkpoint #[.pointer (some ⟨B, 0, none⟩)] w R := by
  refine S_ref05_checkpoint ?_
  unfold W_ref05_checkpoint
  refine AlF.intro fun b1 w1 hb1e hb1 k1 _ => AlF.intro fun b2 w2 hb2e hb2 k2 _ => ?_
  have f1 : Fro (fun _ => True) w ow w1 (ext ow w.heap.size 6) := Fro.of_kp0 6 k1
  have f2 : Fro (fun _ => True) w1 (ext ow w.heap.size 6) w2 (ext (ext ow w.heap.size 6) w1.heap.size 7) := Fro.of_kp0 7 k2
  have px2 : Px w2 (ext (ext ow w.heap.size 6) w1.heap.size 7) b1 b2 {} 0 := by
    have t6 : ext ow w.heap.size 6 b1 = 6 := ext_new (by omega)
    obtain ⟨a, b⟩ := blk_fr hb1 t6 f2 trivial
    exact ⟨a, b, hb2, ext_new (by omega)⟩
  have hR2 := (hR.fr f1 trivial).fr f2 trivial
  have F2 := (f1.mono fun t (_ : t ≤ 2) => trivial).trans (f2.mono fun t (_ : t ≤ 2) => trivial)
  generalize ext (ext ow w.heap.size 6) w1.heap.size 7 = ow2 at *
  refine hR2.U (M := 2147483648) hb fun w3 hR3 f3 => ⟨_, rfl, ?_⟩
  have hk := hk _ rfl
  have hle := rdU_le bs st 2147483648
  generalize rdU bs st 2147483648 = a at *
  rw [wr31 hle]
  refine (px2.fr f3 (by omega) (by omega)).st {} (a.1 : Int) rfl (Nat.le_of_ble_eq_true rfl) rfl fun w4 px4 f4 => ?_
  refine (hR3.fr f4 (by omega)).U (M := 32) hb fun w5 hR5 f5 => ⟨_, rfl, ?_⟩
  have px5 := px4.fr f5 (by omega) (by omega)
  have F5 := ((F2.trans (f3.mono fun t ht => by omega)).trans (f4.mono fun t ht => by omega)).trans (f5.mono fun t (ht : t ≤ 2) => by omega)
  have h32 := rdU_le bs a.2 32
  unfold rdCp at hk
  dsimp only at hk
  generalize rdU bs a.2 32 = nn at *
  rw [wr31 (by omega)]
  clear F2 hR3 f3 f4 f5 px4 px2 hR2 hb1 hb2
  refine ⟨fun _ w' => ∃ (L : List LV) (m : Mm) (st : Nat × Nat) (ow' : Nat → Nat), Px w' ow' b1 b2 m (a.1 : Int) ∧ Rq w' ow' B g bs st ∧ SlT w' ow' T_api_Live 4 m.la m.ll m.lc (flatV LV.cs L) 4 ∧ (m.da = none ∧ m.dl = 0 ∧ m.dc = 0) ∧ L.length = m.ll ∧ m.ll ≤ 1000 ∧ Fro (fun t => t ≤ 2) w ow w' ow' ∧
      (rdLive bs nn.1 ([], nn.2)).2 = st ∧ (st.2 = 0 → (rdLive bs nn.1 ([], nn.2)).1 = L), ?_, ?_⟩
  · refine loopN (fun s w' => ∃ k : Nat, k ≤ nn.1 ∧ s.1 = (k : Int) ∧ ∃ (L : List LV) (m : Mm) (st : Nat × Nat) (ow' : Nat → Nat), Px w' ow' b1 b2 m (a.1 : Int) ∧ Rq w' ow' B g bs st ∧ SlT w' ow' T_api_Live 4 m.la m.ll m.lc (flatV LV.cs L) 4 ∧ (m.da = none ∧ m.dl = 0 ∧ m.dc = 0) ∧ L.length = m.ll ∧ m.ll = k ∧ Fro (fun t => t ≤ 2) w ow w' ow' ∧
        rdLive bs (nn.1 - k) (L, st) = rdLive bs nn.1 ([], nn.2)) (fun s _ => nn.1 - s.1.toNat) ⟨0, Nat.zero_le _, rfl, [], {}, nn.2, ow2, px5, hR5, slt_nil _ _ _ _ _, ⟨rfl, rfl, rfl⟩, rfl, rfl, F5, rfl⟩ ?_
    rintro ⟨k0, u⟩ wa ⟨k, hkn, hk0, L, m, st', owa, px, hR, hlv, hmd, hll, hmk, F, hrl⟩ _
    dsimp only at hk0 ⊢
    subst hk0
    refine cond_d (fun hlt => ?_) (fun hge => ?_)
    · have hkl : k < nn.1 := by omega
      refine bad_c hR ⟨_, rfl, cond_not (cond_d (fun hbad => ?_) (fun hgood => ?_))⟩
      · refine ⟨L, m, st', owa, px, hR, hlv, hmd, hll, by omega, F, ?_, fun h0 => absurd h0 hbad⟩
        rw [← hrl, rdLive_fault _ hbad]
      refine number_c hR hb fun w1 hR1 f1 => ⟨_, rfl, number_c hR1 hb fun w2 hR2 f2 => ⟨_, rfl, ?_⟩⟩
      refine lv_cp ⟨((rdU bs st' 2147483647).1 : Int), ((rdU bs (rdU bs st' 2147483647).2 2147483647).1 : Int), false, false⟩ fun b3 w3 h3 => ?_
      have px2 := (px.fr f1 (by omega) (by omega)).fr f2 (by omega) (by omega)
      have hl2 := (hlv.fr f1 (by omega)).fr f2 (by omega)
      have F2 := (F.trans (f1.mono fun t ht => by omega)).trans (f2.mono fun t (ht : t ≤ 2) => by omega)
      have f3 : Fro (fun _ => True) w2 owa w3 (ext owa w2.heap.size 9) := Fro.of_kp0 9 h3.kp
      have t9 : ext owa w2.heap.size 9 b3 = 9 := ext_new h3.nw
      have px3 := px2.fr f3 trivial trivial
      have hl3 := hl2.fr f3 trivial
      have hR3 := hR2.fr f3 trivial
      have F3 := F2.trans (f3.mono fun t (_ : t ≤ 2) => trivial)
      generalize ext owa w2.heap.size 9 = owb at *
      refine hR3.U (M := 2) hb fun w4 hR4 f4 => ⟨_, rfl, ?_⟩
      obtain ⟨x4, _⟩ := blk_fr h3.blk t9 f4 (by omega)
      refine StF.at rfl x4 (by simp [LV.cs]) fun w5 x5 k5 _ => StF.at rfl x5 (by simp [LV.cs]) fun w6 x6 k6 _ => ?_
      have f6 : Fro (fun t => t ≠ 9) w4 owb w6 owb := Fro.of_kp' (k5.trans0 k6) fun b _ hb' hne => hne (by rw [hb']; exact t9)
      have px6 := (px3.fr f4 (by omega) (by omega)).fr f6 (by omega) (by omega)
      have hl6 := (hl3.fr f4 (by omega)).fr f6 (by omega)
      have hR6 := hR4.fr f6 (by omega)
      have F6 := (F3.trans (f4.mono fun t ht => by omega)).trans (f6.mono fun t (ht : t ≤ 2) => by omega)
      refine ⟨_, _, _, px6.x2.at rfl rfl, _, _, _, _, ⟨x6.at rfl rfl, x6.at rfl rfl, x6.at rfl rfl, x6.at rfl rfl, trivial⟩, ?_⟩
      refine pushPL px6 hl6 (rdL1 bs st').1 (by omega) fun m' w7 ow7 px7 hl7 f7 hm' hmd' => ?_
      rw [wk1 hkl (by omega)]
      refine ⟨⟨k + 1, by omega, rfl, _, m', (rdL1 bs st').2, ow7, px7, hR6.fr f7 (by omega), hl7, by rw [hmd'.1, hmd'.2.1, hmd'.2.2]; exact hmd, by simp; omega, by omega, F6.trans (f7.mono fun t ht => by omega), ?_⟩, by simp only [Int.toNat_natCast]; omega⟩
      rw [← hrl, show nn.1 - k = (nn.1 - (k + 1)) + 1 by omega, rdLive]
    · have hke : k = nn.1 := by omega
      rw [hke, Nat.sub_self, rdLive] at hrl
      exact ⟨L, m, st', owa, px, hR, hlv, hmd, hll, by omega, F, by rw [← hrl], fun _ => by rw [← hrl]⟩
  rintro _ wa ⟨L, m, st', owa, px, hR, hlv, hmd, hll, hm1, F, hl2, hl1⟩ _
  generalize hll' : rdLive bs nn.1 ([], nn.2) = ll at *
  subst hl2
  refine hR.U (M := 16) hb fun wb hRb fb => ⟨_, rfl, ?_⟩
  have pxb := px.fr fb (by omega) (by omega)
  have hlvb := hlv.fr fb (by omega)
  have Fb := F.trans (fb.mono fun t (ht : t ≤ 2) => by omega)
  have h16 := rdU_le bs ll.2 16
  have hflt : (rdDirty bs (rdU bs ll.2 16).1 ([], (rdU bs ll.2 16).2)).2.2 = 0 → ll.2.2 = 0 := fun h => by
    refine Decidable.by_contra fun hne => ?_
    rw [rdU_fault hne, rdDirty_fault _ hne] at h
    exact hne h
  generalize rdU bs ll.2 16 = dd at *
  rw [wr31 (by omega)]
  refine ⟨fun _ w' => ∃ (D : List DV) (m : Mm) (st : Nat × Nat) (ow' : Nat → Nat), Px w' ow' b1 b2 m (a.1 : Int) ∧ Rq w' ow' B g bs st ∧ SlT w' ow' T_api_Live 4 m.la m.ll m.lc (flatV LV.cs L) 4 ∧ SlT w' ow' T_api_Dirty 2 m.da m.dl m.dc (flatV DV.cs D) 5 ∧ L.length = m.ll ∧ m.ll ≤ 1000 ∧ D.length = m.dl ∧ m.dl ≤ 1000 ∧ Fro (fun t => t ≤ 2) w ow w' ow' ∧
      (rdDirty bs dd.1 ([], dd.2)).2 = st ∧ (st.2 = 0 → (rdDirty bs dd.1 ([], dd.2)).1 = D), ?_, ?_⟩
  · refine loopN (fun s w' => ∃ k : Nat, k ≤ dd.1 ∧ s.1 = (k : Int) ∧ ∃ (D : List DV) (m : Mm) (st : Nat × Nat) (ow' : Nat → Nat), Px w' ow' b1 b2 m (a.1 : Int) ∧ Rq w' ow' B g bs st ∧ SlT w' ow' T_api_Live 4 m.la m.ll m.lc (flatV LV.cs L) 4 ∧ SlT w' ow' T_api_Dirty 2 m.da m.dl m.dc (flatV DV.cs D) 5 ∧ L.length = m.ll ∧ m.ll ≤ 1000 ∧ D.length = m.dl ∧ m.dl = k ∧ Fro (fun t => t ≤ 2) w ow w' ow' ∧
        rdDirty bs (dd.1 - k) (D, st) = rdDirty bs dd.1 ([], dd.2)) (fun s _ => dd.1 - s.1.toNat) ⟨0, Nat.zero_le _, rfl, [], m, dd.2, owa, pxb, hRb, hlvb, by rw [hmd.1, hmd.2.1, hmd.2.2]; exact slt_nil _ _ _ _ _, hll, hm1, by rw [hmd.2.1]; rfl, hmd.2.1, Fb, rfl⟩ ?_
    rintro ⟨k0, u⟩ wa ⟨k, hkn, hk0, D, m, st', owa, px, hR, hlv, hdv, hll, hm1, hdl, hmk, F, hrl⟩ _
    dsimp only at hk0 ⊢
    subst hk0
    refine cond_d (fun hlt => ?_) (fun hge => ?_)
    · have hkl : k < dd.1 := by omega
      refine bad_c hR ⟨_, rfl, cond_not (cond_d (fun hbad => ?_) (fun hgood => ?_))⟩
      · refine ⟨D, m, st', owa, px, hR, hlv, hdv, hll, hm1, hdl, by omega, F, ?_, fun h0 => absurd h0 hbad⟩
        rw [← hrl, rdDirty_fault _ hbad]
      refine number_c hR hb fun w1 hR1 f1 => ⟨_, rfl, number_c hR1 hb fun w2 hR2 f2 => ⟨_, rfl, ?_⟩⟩
      refine dv_cp (rdD1 bs st').1 fun b3 w3 h3 => ?_
      have px2 := (px.fr f1 (by omega) (by omega)).fr f2 (by omega) (by omega)
      have hl2 := (hlv.fr f1 (by omega)).fr f2 (by omega)
      have hd2 := (hdv.fr f1 (by omega)).fr f2 (by omega)
      have F2 := (F.trans (f1.mono fun t ht => by omega)).trans (f2.mono fun t (ht : t ≤ 2) => by omega)
      have f3 : Fro (fun _ => True) w2 owa w3 (ext owa w2.heap.size 9) := Fro.of_kp0 9 h3.kp
      have px3 := px2.fr f3 trivial trivial
      have hl3 := hl2.fr f3 trivial
      have hd3 := hd2.fr f3 trivial
      have hR3 := hR2.fr f3 trivial
      have F3 := F2.trans (f3.mono fun t (_ : t ≤ 2) => trivial)
      generalize ext owa w2.heap.size 9 = owb at *
      refine ⟨_, _, _, px3.x2.at rfl rfl, _, _, ⟨h3.at rfl rfl, h3.at rfl rfl, trivial⟩, ?_⟩
      refine pushPD px3 hd3 (rdD1 bs st').1 (by omega) fun m' w7 ow7 px7 hd7 f7 hm' hml' => ?_
      rw [wk1 hkl (by omega)]
      refine ⟨⟨k + 1, by omega, rfl, _, m', (rdD1 bs st').2, ow7, px7, hR3.fr f7 (by omega), by rw [hml'.1, hml'.2.1, hml'.2.2]; exact hl3.fr f7 (by omega), hd7, by omega, by omega, by simp; omega, by omega, F3.trans (f7.mono fun t ht => by omega), ?_⟩, by simp only [Int.toNat_natCast]; omega⟩
      rw [← hrl, show dd.1 - k = (dd.1 - (k + 1)) + 1 by omega, rdDirty]
    · have hke : k = dd.1 := by omega
      rw [hke, Nat.sub_self, rdDirty] at hrl
      exact ⟨D, m, st', owa, px, hR, hlv, hdv, hll, hm1, hdl, by omega, F, by rw [← hrl], fun _ => by rw [← hrl]⟩
  rintro _ wc ⟨D, m, st', owc, px, hR, hlv, hdv, hll, hm1, hdl, hm2, F, hd2, hd1⟩ _
  refine ⟨_, _, _, _, _, _, _, ⟨px.x2.at rfl rfl, px.x2.at rfl rfl, px.x2.at rfl rfl, trivial⟩, ?_⟩
  refine StF.at rfl px.x1 (by simp [ptc]) fun wd xd kd _ => StF.at rfl xd (by simp [ptc]) fun we xe ke _ => StF.at rfl xe (by simp [ptc]) fun wf xf kf _ => ?_
  have ff : Fro (fun t => t ≠ 6) wc owc wf owc := Fro.of_kp' ((kd.trans0 ke).trans0 kf) fun b _ hb' hne => hne (by rw [hb']; exact px.t1)
  refine ⟨_, _, _, _, _, _, _, ⟨xf.at rfl rfl, xf.at rfl rfl, xf.at rfl rfl, trivial⟩, ?_⟩
  refine hk m L D wf owc (by rw [hd2]; exact hR.fr ff (by omega)) (fun h0 => ?_) (hlv.fr ff (by omega)) (hdv.fr ff (by omega)) hll hdl hm1 hm2 (F.trans (ff.mono fun t ht => by omega))
  have e1 := hl1 (hflt h0)
  rw [hd2] at h0
  rw [e1, hd1 h0]
end Go.Proofs.Ytjhncijdkmbopaa
