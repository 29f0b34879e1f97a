/- Texts for LogExact, as one. Conditions: none. -/
import Derived.Test.YtkfdkcclojepnaaGreatX1
set_option linter.unusedVariables false
set_option linter.unusedSimpArgs false
namespace Go.Proofs.YtkfdkcclojepnaaGreat
open Go Go.RowKit
theorem rec_st {w : World} {b : Nat} {q : RV} {n : Mm} {T : TypeId} (h : Blk w b (q.ca n) T) (r : RV) (m : Mm) {K : World → Prop} (hk : ∀ w', Blk w' b (r.ca m) T → Kp (fun k => k = b) w w' → K w') :
    StF w ⟨b, 0, none⟩ (.int .i64 r.lsn) fun w1 => StF w1 (Addr.add ⟨b, 0, none⟩ 1) (.int .i64 r.kind) fun w2 => StF w2 (Addr.add ⟨b, 0, none⟩ 2) (.int .i64 r.tx) fun w3 => StF w3 (Addr.add ⟨b, 0, none⟩ 3) (.int .i64 r.prev) fun w4 => StF w4 (Addr.add ⟨b, 0, none⟩ 4) (.int .i64 r.wp) fun w5 => StF w5 (Addr.add ⟨b, 0, none⟩ 5) (.int .i64 r.wi) fun w6 => StF w6 (Addr.add ⟨b, 0, none⟩ 6) (.int .i64 r.sp) fun w7 => StF w7 (Addr.add ⟨b, 0, none⟩ 7) (.int .i64 r.si) fun w8 => StF w8 (Addr.add ⟨b, 0, none⟩ 8) (.int .i64 r.delta) fun w9 => StF w9 (Addr.add ⟨b, 0, none⟩ 9) (.int .i64 r.id) fun w10 => StF w10 (Addr.add ⟨b, 0, none⟩ 10) (.int .i64 r.grp) fun w11 => StF w11 (Addr.add ⟨b, 0, none⟩ 11) (.int .i64 r.lo) fun w12 => StF w12 (Addr.add ⟨b, 0, none⟩ 12) (.int .i64 r.hi) fun w13 => StF w13 (Addr.add ⟨b, 0, none⟩ 13) (.int .i64 r.val) fun w14 => StF w14 (Addr.add ⟨b, 0, none⟩ 14) (.slice m.la m.ll m.lc) fun w15 => StF w15 (Addr.add ⟨b, 0, none⟩ 15) (.slice m.da m.dl m.dc) fun w16 => StF w16 (Addr.add ⟨b, 0, none⟩ 16) (.int .i64 r.next) fun w17 => K w17 :=
  have k0 : Kp (fun k => k = b) w w := Kp.refl _ w
  have h0 : Blk w b #[.int .i64 q.lsn, .int .i64 q.kind, .int .i64 q.tx, .int .i64 q.prev, .int .i64 q.wp, .int .i64 q.wi, .int .i64 q.sp, .int .i64 q.si, .int .i64 q.delta, .int .i64 q.id, .int .i64 q.grp, .int .i64 q.lo, .int .i64 q.hi, .int .i64 q.val, .slice n.la n.ll n.lc, .slice n.da n.dl n.dc, .int .i64 q.next] T := h
  StF.at rfl h0 (by simp) fun w1 h' k' _ => have h1 : Blk w1 b #[.int .i64 r.lsn, .int .i64 q.kind, .int .i64 q.tx, .int .i64 q.prev, .int .i64 q.wp, .int .i64 q.wi, .int .i64 q.sp, .int .i64 q.si, .int .i64 q.delta, .int .i64 q.id, .int .i64 q.grp, .int .i64 q.lo, .int .i64 q.hi, .int .i64 q.val, .slice n.la n.ll n.lc, .slice n.da n.dl n.dc, .int .i64 q.next] T := h'; have k1 : Kp (fun k => k = b) w w1 := k0.trans0 k'
  StF.at rfl h1 (by simp) fun w2 h' k' _ => have h2 : Blk w2 b #[.int .i64 r.lsn, .int .i64 r.kind, .int .i64 q.tx, .int .i64 q.prev, .int .i64 q.wp, .int .i64 q.wi, .int .i64 q.sp, .int .i64 q.si, .int .i64 q.delta, .int .i64 q.id, .int .i64 q.grp, .int .i64 q.lo, .int .i64 q.hi, .int .i64 q.val, .slice n.la n.ll n.lc, .slice n.da n.dl n.dc, .int .i64 q.next] T := h'; have k2 : Kp (fun k => k = b) w w2 := k1.trans0 k'
  StF.at rfl h2 (by simp) fun w3 h' k' _ => have h3 : Blk w3 b #[.int .i64 r.lsn, .int .i64 r.kind, .int .i64 r.tx, .int .i64 q.prev, .int .i64 q.wp, .int .i64 q.wi, .int .i64 q.sp, .int .i64 q.si, .int .i64 q.delta, .int .i64 q.id, .int .i64 q.grp, .int .i64 q.lo, .int .i64 q.hi, .int .i64 q.val, .slice n.la n.ll n.lc, .slice n.da n.dl n.dc, .int .i64 q.next] T := h'; have k3 : Kp (fun k => k = b) w w3 := k2.trans0 k'
  StF.at rfl h3 (by simp) fun w4 h' k' _ => have h4 : Blk w4 b #[.int .i64 r.lsn, .int .i64 r.kind, .int .i64 r.tx, .int .i64 r.prev, .int .i64 q.wp, .int .i64 q.wi, .int .i64 q.sp, .int .i64 q.si, .int .i64 q.delta, .int .i64 q.id, .int .i64 q.grp, .int .i64 q.lo, .int .i64 q.hi, .int .i64 q.val, .slice n.la n.ll n.lc, .slice n.da n.dl n.dc, .int .i64 q.next] T := h'; have k4 : Kp (fun k => k = b) w w4 := k3.trans0 k'
  StF.at rfl h4 (by simp) fun w5 h' k' _ => have h5 : Blk w5 b #[.int .i64 r.lsn, .int .i64 r.kind, .int .i64 r.tx, .int .i64 r.prev, .int .i64 r.wp, .int .i64 q.wi, .int .i64 q.sp, .int .i64 q.si, .int .i64 q.delta, .int .i64 q.id, .int .i64 q.grp, .int .i64 q.lo, .int .i64 q.hi, .int .i64 q.val, .slice n.la n.ll n.lc, .slice n.da n.dl n.dc, .int .i64 q.next] T := h'; have k5 : Kp (fun k => k = b) w w5 := k4.trans0 k'
  StF.at rfl h5 (by simp) fun w6 h' k' _ => have h6 : Blk w6 b #[.int .i64 r.lsn, .int .i64 r.kind, .int .i64 r.tx, .int .i64 r.prev, .int .i64 r.wp, .int .i64 r.wi, .int .i64 q.sp, .int .i64 q.si, .int .i64 q.delta, .int .i64 q.id, .int .i64 q.grp, .int .i64 q.lo, .int .i64 q.hi, .int .i64 q.val, .slice n.la n.ll n.lc, .slice n.da n.dl n.dc, .int .i64 q.next] T := h'; have k6 : Kp (fun k => k = b) w w6 := k5.trans0 k'
  StF.at rfl h6 (by simp) fun w7 h' k' _ => have h7 : Blk w7 b #[.int .i64 r.lsn, .int .i64 r.kind, .int .i64 r.tx, .int .i64 r.prev, .int .i64 r.wp, .int .i64 r.wi, .int .i64 r.sp, .int .i64 q.si, .int .i64 q.delta, .int .i64 q.id, .int .i64 q.grp, .int .i64 q.lo, .int .i64 q.hi, .int .i64 q.val, .slice n.la n.ll n.lc, .slice n.da n.dl n.dc, .int .i64 q.next] T := h'; have k7 : Kp (fun k => k = b) w w7 := k6.trans0 k'
  StF.at rfl h7 (by simp) fun w8 h' k' _ => have h8 : Blk w8 b #[.int .i64 r.lsn, .int .i64 r.kind, .int .i64 r.tx, .int .i64 r.prev, .int .i64 r.wp, .int .i64 r.wi, .int .i64 r.sp, .int .i64 r.si, .int .i64 q.delta, .int .i64 q.id, .int .i64 q.grp, .int .i64 q.lo, .int .i64 q.hi, .int .i64 q.val, .slice n.la n.ll n.lc, .slice n.da n.dl n.dc, .int .i64 q.next] T := h'; have k8 : Kp (fun k => k = b) w w8 := k7.trans0 k'
  StF.at rfl h8 (by simp) fun w9 h' k' _ => have h9 : Blk w9 b #[.int .i64 r.lsn, .int .i64 r.kind, .int .i64 r.tx, .int .i64 r.prev, .int .i64 r.wp, .int .i64 r.wi, .int .i64 r.sp, .int .i64 r.si, .int .i64 r.delta, .int .i64 q.id, .int .i64 q.grp, .int .i64 q.lo, .int .i64 q.hi, .int .i64 q.val, .slice n.la n.ll n.lc, .slice n.da n.dl n.dc, .int .i64 q.next] T := h'; have k9 : Kp (fun k => k = b) w w9 := k8.trans0 k'
  StF.at rfl h9 (by simp) fun w10 h' k' _ => have h10 : Blk w10 b #[.int .i64 r.lsn, .int .i64 r.kind, .int .i64 r.tx, .int .i64 r.prev, .int .i64 r.wp, .int .i64 r.wi, .int .i64 r.sp, .int .i64 r.si, .int .i64 r.delta, .int .i64 r.id, .int .i64 q.grp, .int .i64 q.lo, .int .i64 q.hi, .int .i64 q.val, .slice n.la n.ll n.lc, .slice n.da n.dl n.dc, .int .i64 q.next] T := h'; have k10 : Kp (fun k => k = b) w w10 := k9.trans0 k'
  StF.at rfl h10 (by simp) fun w11 h' k' _ => have h11 : Blk w11 b #[.int .i64 r.lsn, .int .i64 r.kind, .int .i64 r.tx, .int .i64 r.prev, .int .i64 r.wp, .int .i64 r.wi, .int .i64 r.sp, .int .i64 r.si, .int .i64 r.delta, .int .i64 r.id, .int .i64 r.grp, .int .i64 q.lo, .int .i64 q.hi, .int .i64 q.val, .slice n.la n.ll n.lc, .slice n.da n.dl n.dc, .int .i64 q.next] T := h'; have k11 : Kp (fun k => k = b) w w11 := k10.trans0 k'
  StF.at rfl h11 (by simp) fun w12 h' k' _ => have h12 : Blk w12 b #[.int .i64 r.lsn, .int .i64 r.kind, .int .i64 r.tx, .int .i64 r.prev, .int .i64 r.wp, .int .i64 r.wi, .int .i64 r.sp, .int .i64 r.si, .int .i64 r.delta, .int .i64 r.id, .int .i64 r.grp, .int .i64 r.lo, .int .i64 q.hi, .int .i64 q.val, .slice n.la n.ll n.lc, .slice n.da n.dl n.dc, .int .i64 q.next] T := h'; have k12 : Kp (fun k => k = b) w w12 := k11.trans0 k'
  StF.at rfl h12 (by simp) fun w13 h' k' _ => have h13 : Blk w13 b #[.int .i64 r.lsn, .int .i64 r.kind, .int .i64 r.tx, .int .i64 r.prev, .int .i64 r.wp, .int .i64 r.wi, .int .i64 r.sp, .int .i64 r.si, .int .i64 r.delta, .int .i64 r.id, .int .i64 r.grp, .int .i64 r.lo, .int .i64 r.hi, .int .i64 q.val, .slice n.la n.ll n.lc, .slice n.da n.dl n.dc, .int .i64 q.next] T := h'; have k13 : Kp (fun k => k = b) w w13 := k12.trans0 k'
  StF.at rfl h13 (by simp) fun w14 h' k' _ => have h14 : Blk w14 b #[.int .i64 r.lsn, .int .i64 r.kind, .int .i64 r.tx, .int .i64 r.prev, .int .i64 r.wp, .int .i64 r.wi, .int .i64 r.sp, .int .i64 r.si, .int .i64 r.delta, .int .i64 r.id, .int .i64 r.grp, .int .i64 r.lo, .int .i64 r.hi, .int .i64 r.val, .slice n.la n.ll n.lc, .slice n.da n.dl n.dc, .int .i64 q.next] T := h'; have k14 : Kp (fun k => k = b) w w14 := k13.trans0 k'
  StF.at rfl h14 (by simp) fun w15 h' k' _ => have h15 : Blk w15 b #[.int .i64 r.lsn, .int .i64 r.kind, .int .i64 r.tx, .int .i64 r.prev, .int .i64 r.wp, .int .i64 r.wi, .int .i64 r.sp, .int .i64 r.si, .int .i64 r.delta, .int .i64 r.id, .int .i64 r.grp, .int .i64 r.lo, .int .i64 r.hi, .int .i64 r.val, .slice m.la m.ll m.lc, .slice n.da n.dl n.dc, .int .i64 q.next] T := h'; have k15 : Kp (fun k => k = b) w w15 := k14.trans0 k'
  StF.at rfl h15 (by simp) fun w16 h' k' _ => have h16 : Blk w16 b #[.int .i64 r.lsn, .int .i64 r.kind, .int .i64 r.tx, .int .i64 r.prev, .int .i64 r.wp, .int .i64 r.wi, .int .i64 r.sp, .int .i64 r.si, .int .i64 r.delta, .int .i64 r.id, .int .i64 r.grp, .int .i64 r.lo, .int .i64 r.hi, .int .i64 r.val, .slice m.la m.ll m.lc, .slice m.da m.dl m.dc, .int .i64 q.next] T := h'; have k16 : Kp (fun k => k = b) w w16 := k15.trans0 k'
  StF.at rfl h16 (by simp) fun w17 h' k' _ => have h17 : Blk w17 b #[.int .i64 r.lsn, .int .i64 r.kind, .int .i64 r.tx, .int .i64 r.prev, .int .i64 r.wp, .int .i64 r.wi, .int .i64 r.sp, .int .i64 r.si, .int .i64 r.delta, .int .i64 r.id, .int .i64 r.grp, .int .i64 r.lo, .int .i64 r.hi, .int .i64 r.val, .slice m.la m.ll m.lc, .slice m.da m.dl m.dc, .int .i64 r.next] T := h'; have k17 : Kp (fun k => k = b) w w17 := k16.trans0 k'
  hk w17 h17 k17
theorem wr31 {n : Nat} (h : n ≤ 2147483648) : IntKind.wrap .i64 (n : Int) = (n : Int) := wrap_i64 (by omega) (by omega)
theorem pushL {w0 w : World} {ow : Nat → Nat} {b1 b2 : Nat} {r : RV} {m : Mm} (hx : Bx w0 w ow b1 b2 r m) (hL : LsR w ow r m) (x : LV) (hlen : m.ll ≤ 1000) {K : World → Prop}
    (h : ∀ m' w' ow', Bx w0 w' ow' b1 b2 { r with live := r.live ++ [x] } m' → LsR w' ow' { r with live := r.live ++ [x] } m' → Fro (fun t => t ≠ 2 ∧ t ≠ 4) w ow w' ow' → m'.ll = m.ll + 1 → m'.dl = m.dl → K w') :
    AlF w (.cells #[.int .i64 x.tx, .int .i64 x.last, .bool x.c, .bool x.u] T_api_Live) fun b4 w94 => RunF Tryz.prog (Builtin.append_ #[T_s_api_Live, T_s_api_Live] T_s_api_Live #[.slice m.la m.ll m.lc, .slice (some ⟨b4, 0, none⟩) 1 1]) w94 fun r11 w95 =>
      ∃ (a11 : Option Addr) (l11 c11 : Nat), r11 = .slice a11 l11 c11 ∧ StF w95 (Addr.add ⟨b2, 0, none⟩ 14) (.slice a11 l11 c11) K := by
  refine AlF.intro fun b4 wa hb4e hb4 ka _ => ?_
  have fa : Fro (fun _ => True) w ow wa (ext ow w.heap.size 8) := Fro.of_kp0 8 ka
  have hLa := hL.fr fa trivial trivial
  have hxa := hx.fr fa trivial trivial trivial
  refine app_c er_lv hLa.lv (rd_cells hb4 (xs := x.cs) rfl) (by rw [LV.csl]) (fun hh => by cases hh) x.cs1 (by omega) (by omega) fun a' c' wb hs' kb fb => ⟨a', _, c', rfl, ?_⟩
  have hxb := hxa.fr fb (by omega) (by omega) (by omega)
  have hdb := hLa.dv.fr fb (by omega)
  refine hxb.st { r with live := r.live ++ [x] } { m with la := a', ll := m.ll + 1, lc := c' } rfl (Nat.le_of_ble_eq_true rfl) rfl fun wc hxc fc => ?_
  refine h _ wc _ hxc ⟨?_, hdb.fr fc (by omega), by simp [hL.ll], hL.dl⟩ ?_ rfl rfl
  · have := hs'.fr fc (by omega)
    show SlT wc _ T_api_Live 4 a' (m.ll + 1) c' (flatV LV.cs (r.live ++ [x])) 4
    rw [flatV_app]
    exact this
  · exact ((fa.mono fun _ _ => trivial).trans (fb.mono fun t ht => ht.2)).trans (fc.mono fun t ht => ht.1)
theorem pushD {w0 w : World} {ow : Nat → Nat} {b1 b2 : Nat} {r : RV} {m : Mm} (hx : Bx w0 w ow b1 b2 r m) (hL : LsR w ow r m) (x : DV) (hlen : m.dl ≤ 1000) {K : World → Prop}
    (h : ∀ m' w' ow', Bx w0 w' ow' b1 b2 { r with dirty := r.dirty ++ [x] } m' → LsR w' ow' { r with dirty := r.dirty ++ [x] } m' → Fro (fun t => t ≠ 2 ∧ t ≠ 5) w ow w' ow' → m'.dl = m.dl + 1 → m'.ll = m.ll → K w') :
    AlF w (.cells #[.int .i64 x.page, .int .i64 x.since] T_api_Dirty) fun b4 w94 => (Blk w94 b2 (r.ca m) T_api_Record) ∧ RunF Tryz.prog (Builtin.append_ #[T_s_api_Dirty, T_s_api_Dirty] T_s_api_Dirty #[.slice m.da m.dl m.dc, .slice (some ⟨b4, 0, none⟩) 1 1]) w94 fun r11 w95 =>
      ∃ (a11 : Option Addr) (l11 c11 : Nat), r11 = .slice a11 l11 c11 ∧ Blk w95 b2 (r.ca m) T_api_Record ∧ StF w95 (Addr.add (Addr.add ⟨b2, 0, none⟩ 14) 1) (.slice a11 l11 c11) K := by
  refine AlF.intro fun b4 wa hb4e hb4 ka _ => ?_
  have fa : Fro (fun _ => True) w ow wa (ext ow w.heap.size 8) := Fro.of_kp0 8 ka
  have hLa := hL.fr fa trivial trivial
  have hxa := hx.fr fa trivial trivial trivial
  refine ⟨hxa.x2, app_c er_dv hLa.dv (rd_cells hb4 (xs := x.cs) rfl) (by rw [DV.csl]) (fun hh => by cases hh) x.cs1 (by omega) (by omega) fun a' c' wb hs' kb fb => ⟨a', _, c', rfl, ?_⟩⟩
  have hxb := hxa.fr fb (by omega) (by omega) (by omega)
  have hdb := hLa.lv.fr fb (by omega)
  refine ⟨hxb.x2, hxb.st { r with dirty := r.dirty ++ [x] } { m with da := a', dl := m.dl + 1, dc := c' } rfl (Nat.le_of_ble_eq_true rfl) rfl fun wc hxc fc => ?_⟩
  refine h _ wc _ hxc ⟨hdb.fr fc (by omega), ?_, hL.ll, by simp [hL.dl]⟩ ?_ rfl rfl
  · have := hs'.fr fc (by omega)
    show SlT wc _ T_api_Dirty 2 a' (m.dl + 1) c' (flatV DV.cs (r.dirty ++ [x])) 5
    rw [flatV_app]
    exact this
  · exact ((fa.mono fun _ _ => trivial).trans (fb.mono fun t ht => ht.2)).trans (fc.mono fun t ht => ht.1)
theorem Rr.E {w : World} {ow : Nat → Nat} {B : Nat} {g : Option Addr} {bs : List UInt8} {st : Nat × Nat} {R : Po} (h : Rr w ow B g bs st)
    (hk : ∀ w', Rr w' ow B g bs (st.1, endE bs st) → Fro (fun t => t ≠ 3) w ow w' ow → R (.returned (.tuple #[])) w') : GoC Tryz.prog F_field_Reader_End #[.pointer (some ⟨B, 0, none⟩)] w R :=
  reader_End h.re fun w' hr k => hk w' ⟨hr, h.t3⟩ (Fro.of_kp' k fun b _ hb' hne => hne (h.t3 b (.inl hb')))
theorem Rr.F {w : World} {ow : Nat → Nat} {B : Nat} {g : Option Addr} {bs : List UInt8} {st : Nat × Nat} {R : Po} (h : Rr w ow B g bs st)
    (hk : ∀ n w', Fro (fun _ => True) w ow w' ow → R (.returned (.tuple #[.int .i64 n, .int .i64 (st.2 : Int)])) w') : GoC Tryz.prog F_field_Reader_Fault #[.pointer (some ⟨B, 0, none⟩)] w R :=
  reader_Fault h.re fun w' k => hk _ w' (Fro.of_kp' k fun _ _ h => h.elim)
theorem u64c {k n : Nat} (h : k < n) (hn : n ≤ 1000) : IntKind.wrap .u64 ((k : Int) + 1) = ((k + 1 : Nat) : Int) := by rw [wrap_u64 (by omega) (by omega)]; omega
set_option maxHeartbeats 1000000 in
theorem decode_c {w : World} {a : Option Addr} {l c : Nat} {bs : List UInt8} {R : Po} (hr : Rd w a (bvs bs)) (hl : bs.length = l) (h0 : a = none → l = 0) (hb : l < 140737488355329)
    (h : ∀ m w' ow, Kp no w w' → Old w w' ow → LsR w' ow (decB bs).1 m → R (.returned (.tuple #[.agg ((decB bs).1.ca m), .int .i64 ((decB bs).2 : Int)])) w') : GoC Tryz.prog F_record_Decode #[.slice a l c] w R := by
  subst hl
  refine S_record_Decode ?_
  unfold W_record_Decode
  refine AlF.intro fun b1 w1 hb1e hb1 k1 hs1 => ?_
  refine newReader_c (hr.kp0 k1) rfl h0 (by omega) fun B g w2 hre k2 hB hg => ⟨_, rfl, ?_⟩
  have o0 : Old w w fun _ => 0 := ⟨Kp.refl _ _, fun _ _ => rfl⟩
  have f1 : Fro (fun _ => True) w (fun _ => 0) w1 (ext (fun _ => 0) w.heap.size 1) := Fro.of_kp0 1 k1
  have f2 : Fro (fun _ => True) w1 (ext (fun _ => 0) w.heap.size 1) w2 (ext (ext (fun _ => 0) w.heap.size 1) w1.heap.size 3) := Fro.of_kp0 3 k2
  generalize how : ext (ext (fun _ => 0) w.heap.size 1) w1.heap.size 3 = ow2 at f2
  have t1 : ow2 b1 = 1 := by rw [← how, ext_old (by omega), ext_new (by omega)]
  have old2 : Old w w2 ow2 := (o0.fr f1 trivial).fr f2 trivial
  have x1 : Blk w2 b1 (({} : RV).ca {}) T_api_Record := k2.blk hb1 id
  have hR2 : Rr w2 ow2 B g bs (0, 0) := ⟨hre, fun k hk => by
    rw [← how]
    rcases hk with rfl | hk
    · exact ext_new hB
    · exact ext_new (hg k hk)⟩
  have hfin : ∀ (r : RV) (e : Nat), decB bs = (r, e) → ∀ m w' ow, Kp no w w' → Old w w' ow → LsR w' ow r m → R (.returned (.tuple #[.agg (r.ca m), .int .i64 (e : Int)])) w' := fun r e he m w' ow hk ho hL => by
    have := h m w' ow hk ho (by rw [he]; exact hL)
    rw [he] at this
    exact this
  have e0 : ∀ w' ow, LsR w' ow {} {} := fun w' ow => ⟨slt_nil _ _ _ _ _, slt_nil _ _ _ _ _, rfl, rfl⟩
  -- a way out with an empty record
  have out : ∀ (e : Nat) (w' : World) (ow : Nat → Nat) (b2 : Nat) (q : RV) (n : Mm), decB bs = ({}, e) → Bx w w' ow b1 b2 q n → ∀ w'', Blk w'' b1 (({} : RV).ca {}) T_api_Record → Old w w'' ow → R (.returned (.tuple #[.agg (({} : RV).ca {}), .int .i64 (e : Int)])) w'' :=
    fun e w' ow b2 q n he hx w'' hb ho => hfin _ _ he {} w'' ow ho.kp ho (e0 _ _)
  refine hR2.U (M := 18446744073709551615) hb fun w3 hR3 f3 => ⟨_, rfl, ?_⟩
  have hR3 : Rr w3 ow2 B g bs (rdU bs (0, 0) 18446744073709551615).2 := hR3
  have hx3 : Blk w3 b1 (({} : RV).ca {}) T_api_Record ∧ ow2 b1 = 1 := blk_fr x1 t1 f3 (by omega)
  have old3 := old2.fr f3 (by omega)
  have bx3 : Bx w w3 ow2 b1 b1 {} {} → Bx w w3 ow2 b1 b1 {} {} := id
  refine reader_Fault hR3.re fun w4 k4 => ⟨_, _, rfl, ?_⟩
  have f4 : Fro (fun _ => True) w3 ow2 w4 ow2 := Fro.of_kp' k4 fun _ _ h => h.elim
  have hR4 := hR3.fr f4 trivial
  have hx4 : Blk w4 b1 (({} : RV).ca {}) T_api_Record := k4.blk hx3.1 id
  have old4 := old3.fr f4 trivial
  have zero : ∀ (e : Nat), decB bs = ({}, e) → ∀ w'', Blk w'' b1 (({} : RV).ca {}) T_api_Record → Kp (fun k => k = b1) w4 w'' → R (.returned (.tuple #[.agg (({} : RV).ca {}), .int .i64 (e : Int)])) w'' := fun e he w'' hb kk => by
    have f : Fro (fun t => t ≠ 1) w4 ow2 w'' ow2 := Fro.of_kp' kk fun b _ hb' hne => hne (by rw [hb']; exact t1)
    have := old4.fr f (by omega)
    exact hfin _ _ he {} w'' ow2 this.kp this (e0 _ _)
  generalize ha : rdU bs (0, 0) 18446744073709551615 = a3 at *
  refine cond_ne (fun hf => ?_) (fun hf => ?_)
  · refine rec_st hx4 {} {} fun w5 hb5 k5 => rec_rd hb5 (zero a3.2.2 ?_ w5 hb5 k5)
    unfold decB
    simp only [ha]
    rw [if_pos (by omega)]
  have hd70 : (a3.1 < 1 ∨ 8 < a3.1) → decB bs = ({}, 70) := fun hh => by
    unfold decB
    simp only [ha]
    rw [if_neg (by omega), if_pos hh]
  refine cond_d (fun hlt => ?_) (fun hge => cond_d (fun hgt => ?_) (fun hle => ?_))
  · exact rec_st hx4 {} {} fun w5 hb5 k5 => rec_rd hb5 (zero 70 (hd70 (by omega)) w5 hb5 k5)
  · exact rec_st hx4 {} {} fun w5 hb5 k5 => rec_rd hb5 (zero 70 (hd70 (by omega)) w5 hb5 k5)
  have hdec : decB bs = (let x := rdRec bs (a3.1 : Int) a3.2; if endE bs x.2 ≠ 0 then ({}, endE bs x.2) else if chkN x.1 ≠ 0 then ({}, chkN x.1) else (x.1, 0)) := by
    unfold decB
    simp only [ha]
    rw [if_neg (by omega), if_neg (by omega)]
  have hk31 : IntKind.wrap .i64 (a3.1 : Int) = (a3.1 : Int) := wr31 (by omega)
  rw [hk31]
  refine rec_cp { kind := (a3.1 : Int) } {} fun b2 w5 h5 => ?_
  have f5 : Fro (fun _ => True) w4 ow2 w5 (ext ow2 w4.heap.size 2) := Fro.of_kp0 2 h5.kp
  have hR5 := hR4.fr f5 trivial
  have bx5 : Bx w w5 (ext ow2 w4.heap.size 2) b1 b2 { kind := (a3.1 : Int) } {} := by
    obtain ⟨a, b⟩ := blk_fr hx4 t1 f5 trivial
    exact ⟨old4.fr f5 trivial, a, b, h5.blk, ext_new h5.nw⟩
  generalize ext ow2 w4.heap.size 2 = ow5 at f5 hR5 bx5
  have hk1 : (1 : Int) ≤ (a3.1 : Int) := by omega
  have hk8 : (a3.1 : Int) ≤ 8 := by omega
  generalize hK : (a3.1 : Int) = kd at *
  have hms : mst kd ≤ 2147483648 := by unfold mst; split <;> omega
  refine ⟨fun s w' => w' = w5 ∧ s.1 = (mst kd : Int), ?_, ?_⟩
  · refine ⟨_, bx5.x2.at rfl rfl, cond_eq (fun e8 => ⟨rfl, ?_⟩) (fun n8 => ⟨rfl, ?_⟩)⟩
    · unfold mst
      rw [if_pos e8]
      decide
    · unfold mst
      rw [if_neg n8]
      rfl
  rintro ⟨s12, u12⟩ w6 ⟨rfl, hs12⟩ _
  dsimp only at hs12 ⊢
  subst hs12
  refine fields_c (r := { kind := kd }) (m := {}) bx5.x2 hk1 hk8 fun a8 c8 a9 c9 w7 k7 hr8 hr9 hf8 hf9 => ⟨_, _, _, _, _, _, rfl, ?_⟩
  dsimp only at hr8 hr9 ⊢
  have f7 : Fro (fun _ => True) w6 ow5 w7 (ext ow5 w6.heap.size 6) := Fro.of_kp0 6 k7
  have hR7 := hR5.fr f7 trivial
  have bx7 := bx5.fr f7 trivial trivial trivial
  have p8 : RdR w7 (ext ow5 w6.heap.size 6) a8 ((iof kd).map (pv b2)) 6 := ⟨hr8, fun _ k hk => ext_new (hf8 k hk)⟩
  have p9 : RdR w7 (ext ow5 w6.heap.size 6) a9 ((sof kd).map (pv b2)) 6 := ⟨hr9, fun _ k hk => ext_new (hf9 k hk)⟩
  generalize ext ow5 w6.heap.size 6 = ow7 at f7 hR7 bx7 p8 p9
  clear f7 hR5 bx5 hr8 hr9 hf8 hf9
  have il := iof_len kd
  have sl := sof_len kd
  refine loopN (fun s w' => ∃ k : Nat, k ≤ (iof kd).length ∧ s.1 = (k : Int) ∧ ∃ r st, Bx w w' ow7 b1 b2 r {} ∧ Rr w' ow7 B g bs st ∧ RdR w' ow7 a8 ((iof kd).map (pv b2)) 6 ∧ RdR w' ow7 a9 ((sof kd).map (pv b2)) 6 ∧ (r.kind = kd ∧ r.live = [] ∧ r.dirty = []) ∧
      rdInts bs (mst kd) ((iof kd).drop k) (r, st) = rdInts bs (mst kd) (iof kd) ({ kind := kd }, a3.2)) (fun s _ => (iof kd).length - s.1.toNat) ⟨0, Nat.zero_le _, rfl, _, _, bx7, hR7, p8, p9, ⟨rfl, rfl, rfl⟩, rfl⟩ ?_
  rintro ⟨k0, u⟩ wa ⟨k, hk, hk0, r, st, bx, hR, q8, q9, hrk, hrd⟩ _
  dsimp only at hk0 ⊢
  subst hk0
  refine cond_d (fun hlt => ?_) (fun hge => ?_)
  · have hkl : k < (iof kd).length := by omega
    have hmem := iof_plc _ _ (List.getElem_mem hkl)
    refine q8.rd.idx (by omega) hlt (by simp) fun b o ha hcl => ?_
    refine ⟨some ⟨b2, (iof kd)[k], none⟩, by rw [Int.toNat_natCast, add_at]; exact hcl k _ (by simp [hkl, pv]), ?_⟩
    refine hR.U hb fun wb hRb fb => ⟨_, rfl, NilF.intro rfl ?_⟩
    rw [wr31 (by have := rdU_le bs st (mst kd); omega)]
    refine (bx.fr fb (by omega) (by omega) (by omega)).st (r.put ((rdU bs st (mst kd)).1 : Int) (iof kd)[k]) {} rfl (plc_lt hmem) (put_cell _ _ _ hmem) fun wc bxc fc => ?_
    rw [wk1 hkl (by omega)]
    obtain ⟨e1, e2, e3, _⟩ := put_kind (r := r) (v := ((rdU bs st (mst kd)).1 : Int)) hmem
    refine ⟨⟨k + 1, by omega, rfl, _, _, bxc, hRb.fr fc (by omega), (q8.fr fb (by omega)).fr fc (by omega), (q9.fr fb (by omega)).fr fc (by omega), ⟨by rw [e1]; exact hrk.1, by rw [e2]; exact hrk.2.1, by rw [e3]; exact hrk.2.2⟩, ?_⟩, by simp only [Int.toNat_natCast]; omega⟩
    rw [← hrd, List.drop_eq_getElem_cons hkl, rdInts]
  have hke : k = (iof kd).length := by omega
  subst hke
  rw [List.drop_length, rdInts] at hrd
  refine loopN (fun s w' => ∃ k : Nat, k ≤ (sof kd).length ∧ s.1 = (k : Int) ∧ ∃ r st, Bx w w' ow7 b1 b2 r {} ∧ Rr w' ow7 B g bs st ∧ RdR w' ow7 a9 ((sof kd).map (pv b2)) 6 ∧ (r.kind = kd ∧ r.live = [] ∧ r.dirty = []) ∧
      rdSgn bs ((sof kd).drop k) (r, st) = rdSgn bs (sof kd) (rdInts bs (mst kd) (iof kd) ({ kind := kd }, a3.2))) (fun s _ => (sof kd).length - s.1.toNat) ⟨0, Nat.zero_le _, rfl, r, st, bx, hR, q9, hrk, by rw [← hrd]; rfl⟩ ?_
  rintro ⟨k0, u⟩ wd ⟨k, hk, hk0, r, st, bx, hR, q9, hrk, hrd⟩ _
  dsimp only at hk0 ⊢
  subst hk0
  refine cond_d (fun hlt => ?_) (fun hge => ?_)
  · have hkl : k < (sof kd).length := by omega
    have hmem := sof_plc _ _ (List.getElem_mem hkl)
    refine q9.rd.idx (by omega) hlt (by simp) fun b o ha hcl => ?_
    refine ⟨some ⟨b2, (sof kd)[k], none⟩, by rw [Int.toNat_natCast, add_at]; exact hcl k _ (by simp [hkl, pv]), ?_⟩
    refine hR.S hb fun wb hRb fb => ⟨_, rfl, NilF.intro rfl ?_⟩
    refine (bx.fr fb (by omega) (by omega) (by omega)).st (r.put (unzig (rdU bs st 18446744073709551615).1) (sof kd)[k]) {} rfl (plc_lt hmem) (put_cell _ _ _ hmem) fun wc bxc fc => ?_
    rw [wk1 hkl (by omega)]
    obtain ⟨e1, e2, e3, _⟩ := put_kind (r := r) (v := unzig (rdU bs st 18446744073709551615).1) hmem
    refine ⟨⟨k + 1, by omega, rfl, _, _, bxc, hRb.fr fc (by omega), (q9.fr fb (by omega)).fr fc (by omega), ⟨by rw [e1]; exact hrk.1, by rw [e2]; exact hrk.2.1, by rw [e3]; exact hrk.2.2⟩, ?_⟩, by simp only [Int.toNat_natCast]; omega⟩
    rw [← hrd, List.drop_eq_getElem_cons hkl, rdSgn]
  have hke : k = (sof kd).length := by omega
  subst hke
  rw [List.drop_length, rdSgn] at hrd
  have hrec : rdRec bs kd a3.2 = rdTail bs (r, st) := by unfold rdRec; rw [← hrd]
  obtain ⟨hk, hl0, hd0⟩ := hrk
  have hL : LsR wd ow7 r {} := ⟨by rw [hl0]; exact slt_nil _ _ _ _ _, by rw [hd0]; exact slt_nil _ _ _ _ _, by rw [hl0]; rfl, by rw [hd0]; rfl⟩
  refine ⟨fun _ w' => ∃ r m st ow, Bx w w' ow b1 b2 r m ∧ Rr w' ow B g bs st ∧ LsR w' ow r m ∧ m.ll ≤ 1000 ∧ m.dl ≤ 1000 ∧ rdRec bs kd a3.2 = (r, st), ?_, ?_⟩
  · refine ⟨_, bx.x2.at rfl rfl, cond_eq (fun e8 => ?_) (fun n8 => ⟨r, {}, st, ow7, bx, hR, hL, by simp, by simp, ?_⟩)⟩
    rotate_left
    · rw [hrec]
      unfold rdTail
      rw [if_neg (by exact n8)]
    have hrec : rdRec bs kd a3.2 = rdCp bs (r, st) := by
      rw [hrec]
      unfold rdTail
      rw [if_pos (by exact e8)]
    refine hR.U (M := 32) hb fun we hRe fe => ⟨_, rfl, ?_⟩
    have bxe := bx.fr fe (by omega) (by omega) (by omega)
    have hLe := hL.fr fe (by omega) (by omega)
    have hn32 := rdU_le bs st 32
    unfold rdCp at hrec
    dsimp only at hrec
    generalize rdU bs st 32 = nn at *
    rw [hl0, hd0] at hrec
    refine loopN (fun s w' => ∃ k : Nat, k ≤ nn.1 ∧ s.1 = (k : Int) ∧ ∃ L m st ow, Bx w w' ow b1 b2 { r with live := L } m ∧ Rr w' ow B g bs st ∧ LsR w' ow { r with live := L } m ∧ m.ll = k ∧ m.dl = 0 ∧
        rdLive bs (nn.1 - k) (L, st) = rdLive bs nn.1 ([], nn.2)) (fun s _ => nn.1 - s.1.toNat) ⟨0, Nat.zero_le _, rfl, [], {}, nn.2, ow7, by rw [← hl0]; exact bxe, hRe, by rw [← hl0]; exact hLe, rfl, rfl, rfl⟩ ?_
    rintro ⟨k0, u⟩ wf ⟨k, hk, hk0, L, m, st', ow, bx, hR, hL, hm, hmd, hrl⟩ _
    dsimp only at hk0 ⊢
    subst hk0
    refine cond_d (fun hlt => ?_) (fun hge => ?_)
    · have hkn : k < nn.1 := by omega
      refine hR.U (M := 2147483647) hb fun w1 hR1 f1 => ⟨_, rfl, ?_⟩
      refine hR1.U (M := 2147483647) hb fun w2 hR2 f2 => ⟨_, rfl, ?_⟩
      have bx2 := (bx.fr f1 (by omega) (by omega) (by omega)).fr f2 (by omega) (by omega) (by omega)
      have hL2 := (hL.fr f1 (by omega) (by omega)).fr f2 (by omega) (by omega)
      have v1 := rdU_le bs st' 2147483647
      have v2 := rdU_le bs (rdU bs st' 2147483647).2 2147483647
      rw [wr31 (by omega), wr31 (by omega)]
      refine lv_cp ⟨((rdU bs st' 2147483647).1 : Int), ((rdU bs (rdU bs st' 2147483647).2 2147483647).1 : Int), false, false⟩ fun b3 w3 h3 => ?_
      have f3 : Fro (fun _ => True) w2 ow w3 (ext ow w2.heap.size 7) := Fro.of_kp0 7 h3.kp
      have t7 : ext ow w2.heap.size 7 b3 = 7 := ext_new h3.nw
      have bx3 := bx2.fr f3 trivial trivial trivial
      have hL3 := hL2.fr f3 trivial trivial
      have hR3 := hR2.fr f3 trivial
      generalize ext ow w2.heap.size 7 = ow3 at *
      refine hR3.U (M := 2) hb fun w4 hR4 f4 => ⟨_, rfl, ?_⟩
      obtain ⟨x4, _⟩ := blk_fr h3.blk t7 f4 (by omega)
      have bx4 := bx3.fr f4 (by omega) (by omega) (by omega)
      have hL4 := hL3.fr f4 (by omega) (by omega)
      refine StF.at rfl x4 (by simp [LV.cs]) fun w5 x5 k5 _ => ?_
      refine StF.at rfl x5 (by simp [LV.cs]) fun w6 x6 k6 _ => ?_
      have f6 : Fro (fun t => t ≠ 7) w4 ow3 w6 ow3 := Fro.of_kp' (k5.trans0 k6) fun b _ hb' hne => hne (by rw [hb']; exact t7)
      have bx6 := bx4.fr f6 (by omega) (by omega) (by omega)
      have hL6 := hL4.fr f6 (by omega) (by omega)
      have hR6 := hR4.fr f6 (by omega)
      refine ⟨_, _, _, bx6.x2.at rfl rfl, _, _, _, _, ⟨x6.at rfl rfl, x6.at rfl rfl, x6.at rfl rfl, x6.at rfl rfl, trivial⟩, ?_⟩
      refine pushL bx6 hL6 (rdL1 bs st').1 (by omega) fun m' w7 ow7' bx7 hL7 f7 hm' hmd' => ?_
      rw [u64c hkn (by omega)]
      refine ⟨⟨k + 1, by omega, rfl, _, m', (rdL1 bs st').2, ow7', bx7, hR6.fr f7 (by omega), hL7, by omega, by omega, ?_⟩, by simp only [Int.toNat_natCast]; omega⟩
      rw [← hrl, show nn.1 - k = (nn.1 - (k + 1)) + 1 by omega, rdLive]
    have hke : k = nn.1 := by omega
    subst hke
    rw [Nat.sub_self, rdLive] at hrl
    rw [← hrl] at hrec
    dsimp only at hrec
    refine hR.U (M := 16) hb fun wg hRg fg => ⟨_, rfl, ?_⟩
    have bxg := bx.fr fg (by omega) (by omega) (by omega)
    have hLg := hL.fr fg (by omega) (by omega)
    have hn16 := rdU_le bs st' 16
    generalize rdU bs st' 16 = dd at *
    refine loopN (fun s w' => ∃ k : Nat, k ≤ dd.1 ∧ s.1 = (k : Int) ∧ ∃ D m st ow, Bx w w' ow b1 b2 { r with live := L, dirty := D } m ∧ Rr w' ow B g bs st ∧ LsR w' ow { r with live := L, dirty := D } m ∧ m.ll = nn.1 ∧ m.dl = k ∧
        rdDirty bs (dd.1 - k) (D, st) = rdDirty bs dd.1 ([], dd.2)) (fun s _ => dd.1 - s.1.toNat) ⟨0, Nat.zero_le _, rfl, [], m, dd.2, ow, by rw [← hd0]; exact bxg, hRg, by rw [← hd0]; exact hLg, hm, hmd, rfl⟩ ?_
    rintro ⟨k0, u⟩ wh ⟨k, hk, hk0, D, m, st', ow, bx, hR, hL, hm, hmd, hrl⟩ _
    dsimp only at hk0 ⊢
    subst hk0
    refine cond_d (fun hlt => ?_) (fun hge => ?_)
    · have hkn : k < dd.1 := by omega
      refine ⟨fun w' => Blk w' b2 (RV.ca { r with live := L, dirty := D } m) T_api_Record, bx.x2, m.da, m.dl, m.dc, fun w' hw' => hw'.at rfl rfl, ?_⟩
      have fd : Fro (fun _ => True) wh ow wh.drew ow := Fro.of_kp' (Kp.drew wh 1) fun _ _ h => h.elim
      refine (hR.fr fd trivial).U (M := 2147483647) hb fun w1 hR1 f1 => ⟨_, rfl, ?_⟩
      have bx1 := (bx.fr fd trivial trivial trivial).fr f1 (by omega) (by omega) (by omega)
      have hL1 := (hL.fr fd trivial trivial).fr f1 (by omega) (by omega)
      refine ⟨bx1.x2, hR1.U (M := 2147483647) hb fun w2 hR2 f2 => ⟨_, rfl, ?_⟩⟩
      have bx2 := bx1.fr f2 (by omega) (by omega) (by omega)
      have hL2 := hL1.fr f2 (by omega) (by omega)
      have v1 := rdU_le bs st' 2147483647
      have v2 := rdU_le bs (rdU bs st' 2147483647).2 2147483647
      rw [wr31 (by omega), wr31 (by omega)]
      refine ⟨bx2.x2, pushD bx2 hL2 (rdD1 bs st').1 (by omega) fun m' w7 ow7' bx7 hL7 f7 hm' hmd' => ?_⟩
      rw [u64c hkn (by omega)]
      refine ⟨⟨k + 1, by omega, rfl, _, m', (rdD1 bs st').2, ow7', bx7, hR2.fr f7 (by omega), hL7, by omega, by omega, ?_⟩, by simp only [Int.toNat_natCast]; omega⟩
      rw [← hrl, show dd.1 - k = (dd.1 - (k + 1)) + 1 by omega, rdDirty]
    have hke : k = dd.1 := by omega
    subst hke
    rw [Nat.sub_self, rdDirty] at hrl
    rw [← hrl] at hrec
    exact ⟨_, m, _, ow, bx, hR, hL, by omega, by omega, hrec⟩
  · rintro _ we ⟨r, m, st, ow, bx, hR, hL, hml, hmd, hrec⟩ _
    rw [hrec] at hdec
    dsimp only at hdec
    refine hR.E fun wf hRf ff => ⟨rfl, ?_⟩
    refine hRf.F fun n wg fg => ⟨_, _, rfl, ?_⟩
    have bxg := (bx.fr ff (by omega) (by omega) (by omega)).fr fg trivial trivial trivial
    have hLg := (hL.fr ff (by omega) (by omega)).fr fg trivial trivial
    refine cond_ne (fun hne => ?_) (fun he => ?_)
    · refine rec_st bxg.x1 {} {} fun wh hbh kh => rec_rd hbh ?_
      have f : Fro (fun t => t ≠ 1) wg ow wh ow := Fro.of_kp' kh fun b _ hb' hne => hne (by rw [hb']; exact bxg.t1)
      have ho := bxg.old.fr f (by omega)
      have hd : decB bs = ({}, endE bs st) := by rw [hdec, if_pos (by intro hh; exact hne (by simp only [hh]; rfl))]
      exact hfin _ _ hd {} wh ow ho.kp ho (e0 _ _)
    have he0 : endE bs st = 0 := by simpa using he
    rw [if_neg (by omega)] at hdec
    refine rec_rd bxg.x2 (check_c (r := r) (m := m) (hLg.li (by omega) (by omega)) fun wh kh => ⟨_, rfl, ?_⟩)
    have fh : Fro (fun _ => True) wg ow wh ow := Fro.of_kp' kh fun _ _ h => h.elim
    have bxh := bxg.fr fh trivial trivial trivial
    have hLh := hLg.fr fh trivial trivial
    refine cond_ne (fun hne => ?_) (fun he => ?_)
    · refine rec_st bxh.x1 {} {} fun wi hbi ki => rec_rd hbi ?_
      have f : Fro (fun t => t ≠ 1) wh ow wi ow := Fro.of_kp' ki fun b _ hb' hne => hne (by rw [hb']; exact bxh.t1)
      have ho := bxh.old.fr f (by omega)
      have hd : decB bs = ({}, chkN r) := by rw [hdec, if_pos (by omega)]
      exact hfin _ _ hd {} wi ow ho.kp ho (e0 _ _)
    · refine rec_rd bxh.x2 (rec_st bxh.x1 r m fun wi hbi ki => rec_rd hbi ?_)
      have f : Fro (fun t => t ≠ 1) wh ow wi ow := Fro.of_kp' ki fun b _ hb' hne => hne (by rw [hb']; exact bxh.t1)
      have ho := bxh.old.fr f (by omega)
      have hd : decB bs = (r, 0) := by rw [hdec, if_neg (by omega)]
      exact hfin _ _ hd m wi ow ho.kp ho (hLh.fr f (by omega) (by omega))
/-! Plain laws of a record's bytes: there and back, one form, cut. Conditions: none. -/
theorem belB_0 (n : Int) : belB n 0 = true := by unfold belB; simp
theorem liB_all (next lsn : Int) : ∀ (L : List LV) (last : Int), liB next lsn last L = (liB next 0 last L && L.all fun x => belB x.last lsn)
  | [], _ => rfl
  | x :: r, last => by
    rw [liB, liB, liB_all next lsn r, belB_0, List.all_cons]
    cases decide (last < x.tx) <;> cases decide (x.tx < next) <;> cases inB x.last 1 2147483647 <;> cases belB x.last lsn <;> cases x.c && x.u <;> simp
theorem diB_all (lsn : Int) : ∀ (D : List DV) (page : Int), diB lsn page D = (diB 0 page D && D.all fun x => belB x.since lsn)
  | [], _ => rfl
  | x :: r, page => by
    rw [diB, diB, diB_all lsn r, belB_0, List.all_cons]
    cases decide (page < x.page) <;> cases decide (x.page < 64) <;> cases inB x.since 1 2147483647 <;> cases belB x.since lsn <;> simp
theorem zig_unzig (n : Nat) : zig (unzig n) = n := by
  unfold unzig
  split
  · unfold zig
    rw [if_pos (by omega)]
    omega
  · unfold zig
    rw [if_neg (by omega)]
    omega
theorem unzig_bd {n : Nat} (h : n < 18446744073709551616) : i64 (unzig n) := by
  unfold i64 unzig
  split <;> omega
theorem rdU_ok {bs : List UInt8} {at_ m M : Nat} {rest : List UInt8} (hm : m < 18446744073709551616) (hM : m ≤ M) (hd : bs.drop at_ = vform m ++ rest) : rdU bs (at_, 0) M = (m, (at_ + (vform m).length, 0)) := by
  unfold rdU
  rw [if_pos rfl]
  dsimp only
  rw [hd, parse_vform hm]
  dsimp only
  rw [if_pos rfl, if_neg (by omega)]
theorem drop_next {α : Type} {bs x rest : List α} {at_ : Nat} (hd : bs.drop at_ = x ++ rest) : bs.drop (at_ + x.length) = rest := by
  rw [← List.drop_drop, hd, List.drop_left]
theorem rdU_one {bs : List UInt8} {st : Nat × Nat} {M : Nat} (h : (rdU bs st M).2.2 = 0) : st.2 = 0 ∧ bs.drop st.1 = vform (rdU bs st M).1 ++ bs.drop (rdU bs st M).2.1 := by
  unfold rdU at h ⊢
  split at h
  · rename_i h0
    rw [if_pos h0]
    split at h
    · rename_i hp
      rw [if_pos hp]
      split at h
      · cases h
      · rename_i hm
        rw [if_neg hm]
        refine ⟨h0, ?_⟩
        dsimp only
        rw [parse_one hp, ← List.drop_drop, List.take_append_drop]
    · rename_i hp
      exact absurd h hp
  · rename_i h0
    exact absurd h h0
theorem gi_put_same {r : RV} {v : Int} {o : Nat} (ho : o ∈ plc) : (r.put v o).gi o = v := by
  simp only [plc, List.mem_cons, List.mem_nil_iff, or_false] at ho
  rcases ho with rfl | rfl | rfl | rfl | rfl | rfl | rfl | rfl | rfl | rfl | rfl | rfl | rfl <;> rfl
theorem gi_put_ne {r : RV} {v : Int} {o q : Nat} (ho : o ∈ plc) (hq : q ∈ plc) (h : q ≠ o) : (r.put v o).gi q = r.gi q := by
  simp only [plc, List.mem_cons, List.mem_nil_iff, or_false] at ho hq
  rcases ho with rfl | rfl | rfl | rfl | rfl | rfl | rfl | rfl | rfl | rfl | rfl | rfl | rfl <;> rcases hq with rfl | rfl | rfl | rfl | rfl | rfl | rfl | rfl | rfl | rfl | rfl | rfl | rfl <;> first | rfl | exact absurd rfl h
structure Left (l : List Nat) (r0 r1 : RV) (f : Nat → Int) : Prop where
  got : ∀ o ∈ l, r1.gi o = f o
  old : ∀ o ∈ plc, o ∉ l → r1.gi o = r0.gi o
  k : r1.kind = r0.kind ∧ r1.live = r0.live ∧ r1.dirty = r0.dirty ∧ r1.lsn = r0.lsn
theorem Left.cons {o : Nat} {l : List Nat} {r0 r1 : RV} {v : Int} {f : Nat → Int} (ho : o ∈ plc) (hl : ∀ o ∈ l, o ∈ plc) (hnd : o ∉ l) (h : Left l (r0.put v o) r1 f) (hv : v = f o) : Left (o :: l) r0 r1 f := by
  obtain ⟨e1, e2, e3, e4⟩ := put_kind (r := r0) (v := v) ho
  refine ⟨fun q hq => ?_, fun q hq hn => ?_, h.k.1.trans e1, h.k.2.1.trans e2, h.k.2.2.1.trans e3, h.k.2.2.2.trans e4⟩
  · rcases List.mem_cons.1 hq with rfl | hq
    · rw [h.old q ho hnd, gi_put_same ho, hv]
    · exact h.got q hq
  · rw [h.old q hq (fun hh => hn (List.mem_cons_of_mem _ hh)), gi_put_ne ho hq (fun hh => hn (by rw [hh]; exact List.mem_cons_self ..))]
theorem rdInts_ok {bs : List UInt8} {M : Nat} {f : Nat → Nat} {rest : List UInt8} : ∀ (l : List Nat) (r0 : RV) (at_ : Nat), l.Nodup → (∀ o ∈ l, o ∈ plc) → (∀ o ∈ l, f o ≤ M ∧ f o < 18446744073709551616) → bs.drop at_ = l.flatMap (fun o => vform (f o)) ++ rest →
    (rdInts bs M l (r0, (at_, 0))).2 = (at_ + (l.flatMap fun o => vform (f o)).length, 0) ∧ Left l r0 (rdInts bs M l (r0, (at_, 0))).1 fun o => (f o : Int)
  | [], r0, at_, _, _, _, _ => ⟨rfl, ⟨fun o ho => (by cases ho), fun o _ _ => rfl, rfl, rfl, rfl, rfl⟩⟩
  | o :: l, r0, at_, hnd, hp, hf, hd => by
    rw [List.flatMap_cons, List.append_assoc] at hd
    have hu := rdU_ok (hf o (List.mem_cons_self ..)).2 (hf o (List.mem_cons_self ..)).1 hd
    obtain ⟨h1, h2⟩ := rdInts_ok l (r0.put (f o : Int) o) (at_ + (vform (f o)).length) (List.nodup_cons.1 hnd).2 (fun q hq => hp q (List.mem_cons_of_mem _ hq)) (fun q hq => hf q (List.mem_cons_of_mem _ hq)) (drop_next hd)
    rw [rdInts]
    dsimp only
    rw [hu]
    refine ⟨by rw [h1, List.flatMap_cons, List.length_append, Nat.add_assoc], h2.cons (hp o (List.mem_cons_self ..)) (fun q hq => hp q (List.mem_cons_of_mem _ hq)) (List.nodup_cons.1 hnd).1 rfl⟩
theorem rdSgn_ok {bs : List UInt8} {f : Nat → Int} {rest : List UInt8} : ∀ (l : List Nat) (r0 : RV) (at_ : Nat), l.Nodup → (∀ o ∈ l, o ∈ plc) → (∀ o ∈ l, i64 (f o)) → bs.drop at_ = l.flatMap (fun o => vform (zig (f o))) ++ rest →
    (rdSgn bs l (r0, (at_, 0))).2 = (at_ + (l.flatMap fun o => vform (zig (f o))).length, 0) ∧ Left l r0 (rdSgn bs l (r0, (at_, 0))).1 f
  | [], r0, at_, _, _, _, _ => ⟨rfl, ⟨fun o ho => (by cases ho), fun o _ _ => rfl, rfl, rfl, rfl, rfl⟩⟩
  | o :: l, r0, at_, hnd, hp, hf, hd => by
    rw [List.flatMap_cons, List.append_assoc] at hd
    have hi := hf o (List.mem_cons_self ..)
    have hz := zig_lt hi.1 hi.2
    have hu := rdU_ok (M := 18446744073709551615) hz (by omega) hd
    obtain ⟨h1, h2⟩ := rdSgn_ok l (r0.put (f o) o) (at_ + (vform (zig (f o))).length) (List.nodup_cons.1 hnd).2 (fun q hq => hp q (List.mem_cons_of_mem _ hq)) (fun q hq => hf q (List.mem_cons_of_mem _ hq)) (drop_next hd)
    rw [rdSgn]
    dsimp only
    rw [hu]
    dsimp only
    rw [unzig_zig]
    refine ⟨by rw [h1, List.flatMap_cons, List.length_append, Nat.add_assoc], h2.cons (hp o (List.mem_cons_self ..)) (fun q hq => hp q (List.mem_cons_of_mem _ hq)) (List.nodup_cons.1 hnd).1 rfl⟩
theorem rdL1_ok {bs : List UInt8} {x : LV} {at_ : Nat} {rest : List UInt8} (hx : 0 ≤ x.tx ∧ x.tx < 2147483648 ∧ 0 ≤ x.last ∧ x.last < 2147483648) (hcu : ¬ (x.c = true ∧ x.u = true)) (hd : bs.drop at_ = lvB x ++ rest) : rdL1 bs (at_, 0) = (x, (at_ + (lvB x).length, 0)) := by
  unfold lvB at hd ⊢
  simp only [List.append_assoc] at hd
  have hst : stN x ≤ 2 := by unfold stN; split <;> (try split) <;> omega
  have u1 := rdU_ok (M := 2147483647) (by omega) (by omega) hd
  have u2 := rdU_ok (M := 2147483647) (by omega) (by omega) (drop_next hd)
  have u3 := rdU_ok (M := 2) (by omega) (by omega) (drop_next (drop_next hd))
  unfold rdL1
  simp only [u1, u2, u3]
  refine Prod.ext ?_ (by simp only [List.length_append]; refine Prod.ext ?_ rfl; dsimp only; omega)
  obtain ⟨tx, last, c, u⟩ := x
  dsimp only at hx hcu ⊢
  have e1 : ((tx.toNat : Nat) : Int) = tx := by omega
  have e2 : ((last.toNat : Nat) : Int) = last := by omega
  rw [e1, e2]
  cases c <;> cases u <;> simp [stN] at hcu ⊢
theorem rdD1_ok {bs : List UInt8} {x : DV} {at_ : Nat} {rest : List UInt8} (hx : 0 ≤ x.page ∧ x.page < 64 ∧ 0 ≤ x.since ∧ x.since < 2147483648) (hd : bs.drop at_ = dvB x ++ rest) : rdD1 bs (at_, 0) = (x, (at_ + (dvB x).length, 0)) := by
  unfold dvB at hd ⊢
  simp only [List.append_assoc] at hd
  have u1 := rdU_ok (M := 2147483647) (by omega) (by omega) hd
  have u2 := rdU_ok (M := 2147483647) (by omega) (by omega) (drop_next hd)
  unfold rdD1
  simp only [u1, u2]
  refine Prod.ext ?_ (by simp only [List.length_append]; refine Prod.ext ?_ rfl; dsimp only; omega)
  obtain ⟨p, s⟩ := x
  dsimp only at hx ⊢
  have e1 : ((p.toNat : Nat) : Int) = p := by omega
  have e2 : ((s.toNat : Nat) : Int) = s := by omega
  rw [e1, e2]
theorem rdLive_ok {bs : List UInt8} {rest : List UInt8} : ∀ (L A : List LV) (at_ : Nat), (∀ x ∈ L, (0 ≤ x.tx ∧ x.tx < 2147483648 ∧ 0 ≤ x.last ∧ x.last < 2147483648) ∧ ¬ (x.c = true ∧ x.u = true)) → bs.drop at_ = L.flatMap lvB ++ rest → rdLive bs L.length (A, (at_, 0)) = (A ++ L, (at_ + (L.flatMap lvB).length, 0))
  | [], A, at_, _, _ => by simp [rdLive]
  | x :: L, A, at_, hx, hd => by
    rw [List.flatMap_cons, List.append_assoc] at hd
    have h1 := rdL1_ok (hx x (List.mem_cons_self ..)).1 (hx x (List.mem_cons_self ..)).2 hd
    rw [List.length_cons, rdLive]
    dsimp only
    rw [h1]
    dsimp only
    rw [rdLive_ok L _ _ (fun y hy => hx y (List.mem_cons_of_mem _ hy)) (drop_next hd), List.flatMap_cons, List.length_append, List.append_assoc, Nat.add_assoc]
    rfl
theorem rdDirty_ok {bs : List UInt8} {rest : List UInt8} : ∀ (D A : List DV) (at_ : Nat), (∀ x ∈ D, 0 ≤ x.page ∧ x.page < 64 ∧ 0 ≤ x.since ∧ x.since < 2147483648) → bs.drop at_ = D.flatMap dvB ++ rest → rdDirty bs D.length (A, (at_, 0)) = (A ++ D, (at_ + (D.flatMap dvB).length, 0))
  | [], A, at_, _, _ => by simp [rdDirty]
  | x :: D, A, at_, hx, hd => by
    rw [List.flatMap_cons, List.append_assoc] at hd
    have h1 := rdD1_ok (hx x (List.mem_cons_self ..)) hd
    rw [List.length_cons, rdDirty]
    dsimp only
    rw [h1]
    dsimp only
    rw [rdDirty_ok D _ _ (fun y hy => hx y (List.mem_cons_of_mem _ hy)) (drop_next hd), List.flatMap_cons, List.length_append, List.append_assoc, Nat.add_assoc]
    rfl
theorem iof_nodup (k : Int) : (iof k).Nodup := by
  unfold iof
  repeat' (split <;> try decide)
theorem sof_nodup (k : Int) : (sof k).Nodup := by
  unfold sof
  repeat' (split <;> try decide)
theorem iof_sof (k : Int) : ∀ o ∈ iof k, o ∉ sof k := by
  unfold iof sof
  intro o ho
  split at ho
  · rename_i h
    rw [if_pos h]
    revert o; decide
  · rename_i h2
    rw [if_neg h2]
    split at ho
    · rename_i h8
      rw [if_neg (by omega)]
      simp
    · split at ho
      · rename_i h
        rw [if_pos h]
        revert o; decide
      · rename_i h
        rw [if_neg h]
        simp
theorem gi_ext {a b : RV} (hl : a.lsn = b.lsn) (hk : a.kind = b.kind) (h : ∀ o ∈ plc, a.gi o = b.gi o) (hL : a.live = b.live) (hD : a.dirty = b.dirty) : a = b := by
  obtain ⟨a0, a1, a2, a3, a4, a5, a6, a7, a8, a9, a10, a11, a12, a13, a14, aL, aD⟩ := a
  obtain ⟨b0, b1, b2, b3, b4, b5, b6, b7, b8, b9, b10, b11, b12, b13, b14, bL, bD⟩ := b
  have h2 := h 2 (by decide)
  have h3 := h 3 (by decide)
  have h4 := h 4 (by decide)
  have h5 := h 5 (by decide)
  have h6 := h 6 (by decide)
  have h7 := h 7 (by decide)
  have h8 := h 8 (by decide)
  have h9 := h 9 (by decide)
  have h10 := h 10 (by decide)
  have h11 := h 11 (by decide)
  have h12 := h 12 (by decide)
  have h13 := h 13 (by decide)
  have h16 := h 16 (by decide)
  simp only [RV.gi] at *
  subst hl hk h2 h3 h4 h5 h6 h7 h8 h9 h10 h11 h12 h13 h16 hL hD
  rfl
theorem ok_zero {r : RV} (h : okB r = true) (h1 : 1 ≤ r.kind) (h8 : r.kind ≤ 8) : (∀ o ∈ plc, o ∉ iof r.kind → o ∉ sof r.kind → r.gi o = 0) ∧ (r.kind ≠ 8 → r.live = [] ∧ r.dirty = []) := by
  unfold okB at h
  unfold iof sof
  by_cases e2 : r.kind = 2
  · rw [if_pos e2] at h
    simp only [e2, Bool.and_eq_true, decide_eq_true_eq] at h ⊢
    obtain ⟨_, _, hz⟩ := h
    refine ⟨fun o ho hi hs => ?_, fun _ => ⟨List.eq_nil_of_length_eq_zero hz.2.2.2.2.1, List.eq_nil_of_length_eq_zero hz.2.2.2.2.2⟩⟩
    simp only [plc, List.mem_cons, List.mem_nil_iff, or_false] at ho
    rcases ho with rfl | rfl | rfl | rfl | rfl | rfl | rfl | rfl | rfl | rfl | rfl | rfl | rfl <;> first | (simp at hi; done) | (simp at hs; done) | (simp only [RV.gi]; omega)
  · rw [if_neg e2] at h
    rw [if_neg e2, if_neg e2]
    by_cases e8 : r.kind = 8
    · rw [if_pos e8] at h
      rw [if_pos e8, if_neg (by omega)]
      simp only [Bool.and_eq_true, decide_eq_true_eq] at h
      obtain ⟨_, _, hz⟩ := h
      refine ⟨fun o ho hi hs => ?_, fun hh => absurd e8 hh⟩
      simp only [plc, List.mem_cons, List.mem_nil_iff, or_false] at ho
      rcases ho with rfl | rfl | rfl | rfl | rfl | rfl | rfl | rfl | rfl | rfl | rfl | rfl | rfl <;> first | (simp at hi; done) | (simp only [RV.gi]; omega)
    · rw [if_neg e8] at h
      rw [if_neg e8]
      by_cases e34 : r.kind = 3 ∨ r.kind = 4
      · rw [if_pos e34] at h
        rw [if_pos e34, if_pos e34]
        simp only [Bool.and_eq_true, decide_eq_true_eq] at h
        obtain ⟨_, _, hz⟩ := h
        refine ⟨fun o ho hi hs => ?_, fun _ => ⟨List.eq_nil_of_length_eq_zero hz.2.2.2.2.2.1, List.eq_nil_of_length_eq_zero hz.2.2.2.2.2.2⟩⟩
        simp only [plc, List.mem_cons, List.mem_nil_iff, or_false] at ho
        rcases ho with rfl | rfl | rfl | rfl | rfl | rfl | rfl | rfl | rfl | rfl | rfl | rfl | rfl <;> first | (simp at hi; done) | (simp at hs; done) | (simp only [RV.gi]; omega)
      · rw [if_neg e34] at h
        rw [if_neg e34, if_neg e34]
        by_cases e567 : r.kind = 5 ∨ r.kind = 6 ∨ r.kind = 7
        · rw [if_pos e567] at h
          rw [if_pos e567]
          simp only [Bool.and_eq_true, decide_eq_true_eq] at h
          obtain ⟨_, _, hz⟩ := h
          refine ⟨fun o ho hi hs => ?_, fun _ => ⟨List.eq_nil_of_length_eq_zero hz.2.2.2.2.2.2.2.2.2.2.2.1, List.eq_nil_of_length_eq_zero hz.2.2.2.2.2.2.2.2.2.2.2.2⟩⟩
          simp only [plc, List.mem_cons, List.mem_nil_iff, or_false] at ho
          rcases ho with rfl | rfl | rfl | rfl | rfl | rfl | rfl | rfl | rfl | rfl | rfl | rfl | rfl <;> first | (simp at hi; done) | (simp only [RV.gi]; omega)
        · rw [if_neg e567] at h
          rw [if_neg e567]
          simp only [Bool.and_eq_true, decide_eq_true_eq] at h
          obtain ⟨_, _, hz⟩ := h
          refine ⟨fun o ho hi hs => ?_, fun _ => ⟨List.eq_nil_of_length_eq_zero hz.2.2.2.2.2.2.2.2.2.2.2.2.1, List.eq_nil_of_length_eq_zero hz.2.2.2.2.2.2.2.2.2.2.2.2.2⟩⟩
          simp only [plc, List.mem_cons, List.mem_nil_iff, or_false] at ho
          rcases ho with rfl | rfl | rfl | rfl | rfl | rfl | rfl | rfl | rfl | rfl | rfl | rfl | rfl <;> first | (simp at hi; done) | (simp only [RV.gi]; omega)
/-! Plain laws of a record's bytes: there and back, one form, their length. Conditions: none. -/
theorem liB_cu {next lsn : Int} : ∀ {last : Int} {L : List LV}, liB next lsn last L = true → ∀ x ∈ L, ¬ (x.c = true ∧ x.u = true) := by
  intro last L
  induction L generalizing last with
  | nil => intro _ x hx; cases hx
  | cons y t ih =>
    intro h x hx
    simp only [liB, Bool.and_eq_true, Bool.not_eq_true'] at h
    rcases List.mem_cons.1 hx with rfl | hx
    · intro hh
      have := h.1.2
      rw [hh.1, hh.2] at this
      cases this
    · exact ih h.2 x hx
theorem ok_cu {r : RV} (hc : chkN r = 0) (h8 : r.kind = 8) : ∀ x ∈ r.live, ¬ (x.c = true ∧ x.u = true) := by
  obtain ⟨_, _, ho⟩ := chk_kind hc
  unfold okB at ho
  rw [if_neg (by omega), if_pos h8] at ho
  simp only [Bool.and_eq_true, cpB] at ho
  exact liB_cu ho.2.1.1.2
theorem rdRec_ok {r : RV} (hc : chkN r = 0) (h64 : r.w64) {bs rest : List UInt8} {at_ : Nat} (hd : bs.drop at_ = (iof r.kind).flatMap (intB r) ++ ((sof r.kind).flatMap (sgnB r) ++ (tailB r ++ rest))) :
    rdRec bs r.kind (at_, 0) = ({ r with lsn := 0 }, (at_ + ((iof r.kind).flatMap (intB r) ++ ((sof r.kind).flatMap (sgnB r) ++ tailB r)).length, 0)) := by
  obtain ⟨h1, h8, hok⟩ := chk_kind hc
  have hints := ok_ints hc
  have hsg := sgn_64 h64
  obtain ⟨hz, hll⟩ := ok_zero hok h1 h8
  obtain ⟨i1, i2⟩ := rdInts_ok (M := mst r.kind) (f := fun o => (r.gi o).toNat) (iof r.kind) { kind := r.kind } at_ (iof_nodup _) (iof_plc _) (fun o ho => by
    have := hints o ho
    unfold mst
    split
    · omega
    · rename_i hn
      have := this.2.2 hn
      omega) hd
  obtain ⟨j1, j2⟩ := rdSgn_ok (f := r.gi) (sof r.kind) (rdInts bs (mst r.kind) (iof r.kind) ({ kind := r.kind }, (at_, 0))).1 (at_ + ((iof r.kind).flatMap fun o => vform (r.gi o).toNat).length) (sof_nodup _) (sof_plc _) hsg (drop_next hd)
  have hin : rdInts bs (mst r.kind) (iof r.kind) ({ kind := r.kind }, (at_, 0)) = ((rdInts bs (mst r.kind) (iof r.kind) ({ kind := r.kind }, (at_, 0))).1, (at_ + ((iof r.kind).flatMap fun o => vform (r.gi o).toNat).length, 0)) := Prod.ext rfl i1
  unfold rdRec
  rw [hin]
  generalize (rdInts bs (mst r.kind) (iof r.kind) ({ kind := r.kind }, (at_, 0))).1 = ra at *
  have hsn : rdSgn bs (sof r.kind) (ra, (at_ + ((iof r.kind).flatMap fun o => vform (r.gi o).toNat).length, 0)) = ((rdSgn bs (sof r.kind) (ra, (at_ + ((iof r.kind).flatMap fun o => vform (r.gi o).toNat).length, 0))).1, (at_ + ((iof r.kind).flatMap fun o => vform (r.gi o).toNat).length + ((sof r.kind).flatMap fun o => vform (zig (r.gi o))).length, 0)) := Prod.ext rfl j1
  rw [hsn]
  generalize (rdSgn bs (sof r.kind) (ra, (at_ + ((iof r.kind).flatMap fun o => vform (r.gi o).toNat).length, 0))).1 = rb at *
  have hgi : ∀ o ∈ plc, rb.gi o = r.gi o := fun o ho => by
    by_cases hs : o ∈ sof r.kind
    · exact j2.got o hs
    · rw [j2.old o ho hs]
      by_cases hi : o ∈ iof r.kind
      · rw [i2.got o hi]
        have := hints o hi
        omega
      · rw [i2.old o ho hi, hz o ho hi hs]
        simp only [plc, List.mem_cons, List.mem_nil_iff, or_false] at ho
        rcases ho with rfl | rfl | rfl | rfl | rfl | rfl | rfl | rfl | rfl | rfl | rfl | rfl | rfl <;> rfl
  have hkb : rb.kind = r.kind := j2.k.1.trans i2.k.1
  have hlb : rb.live = [] := j2.k.2.1.trans i2.k.2.1
  have hdb : rb.dirty = [] := j2.k.2.2.1.trans i2.k.2.2.1
  have hsb : rb.lsn = 0 := j2.k.2.2.2.trans i2.k.2.2.2
  have gl : ∀ o ∈ plc, ({ r with lsn := 0 } : RV).gi o = r.gi o := fun o ho => by
    simp only [plc, List.mem_cons, List.mem_nil_iff, or_false] at ho
    rcases ho with rfl | rfl | rfl | rfl | rfl | rfl | rfl | rfl | rfl | rfl | rfl | rfl | rfl <;> rfl
  unfold rdTail
  dsimp only
  rw [hkb]
  by_cases e8 : r.kind = 8
  · rw [if_pos e8]
    obtain ⟨hl32, hd16, hL, hD⟩ := ok_lists hc e8
    have hcu := ok_cu hc e8
    have d2 := drop_next (drop_next hd)
    have htail : tailB r = vform r.live.length ++ (r.live.flatMap lvB ++ (vform r.dirty.length ++ r.dirty.flatMap dvB)) := by unfold tailB; rw [if_pos e8]
    rw [htail] at d2 ⊢
    simp only [List.append_assoc] at d2
    unfold rdCp
    dsimp only
    have u1 := rdU_ok (M := 32) (by omega) (by omega) d2
    have d3 := drop_next d2
    have u2 := rdLive_ok r.live [] _ (fun x hx => ⟨hL x hx, hcu x hx⟩) d3
    have d4 := drop_next d3
    have u3 := rdU_ok (M := 16) (by omega) (by omega) d4
    have d5 := drop_next d4
    have u4 := rdDirty_ok r.dirty [] _ hD d5
    rw [hlb, hdb]
    unfold intB sgnB at u1 u2 u3 u4
    simp only [u1, u2, u3, u4, List.nil_append]
    refine Prod.ext ?_ ?_
    · refine gi_ext hsb hkb (fun o ho => ?_) rfl rfl
      rw [gl o ho, ← hgi o ho]
      simp only [plc, List.mem_cons, List.mem_nil_iff, or_false] at ho
      rcases ho with rfl | rfl | rfl | rfl | rfl | rfl | rfl | rfl | rfl | rfl | rfl | rfl | rfl <;> rfl
    · refine Prod.ext ?_ rfl
      simp only [List.length_append]
      unfold intB sgnB
      omega
  · rw [if_neg e8]
    have htail : tailB r = [] := by unfold tailB; rw [if_neg e8]
    obtain ⟨hl0, hd0⟩ := hll e8
    refine Prod.ext ?_ ?_
    · exact gi_ext hsb hkb (fun o ho => by rw [gl o ho]; exact hgi o ho) (by rw [hlb]; exact hl0.symm) (by rw [hdb]; exact hd0.symm)
    · refine Prod.ext ?_ rfl
      rw [htail]
      simp only [List.length_append, List.length_nil]
      unfold intB sgnB
      omega
theorem inB0 : inB 0 0 2147483647 = true := by unfold inB; simp
theorem chk_lsn0 {r : RV} (h : chkN r = 0) : chkN { r with lsn := 0 } = 0 := by
  obtain ⟨h1, h8, hok⟩ := chk_kind h
  unfold chkN
  rw [if_neg (by dsimp only; omega), if_pos]
  unfold okB at hok ⊢
  dsimp only
  simp only [Bool.and_eq_true] at hok
  rw [inB0, Bool.true_and]
  obtain ⟨_, hok⟩ := hok
  by_cases e2 : r.kind = 2
  · rw [if_pos e2] at hok ⊢
    exact hok
  rw [if_neg e2] at hok ⊢
  by_cases e8 : r.kind = 8
  · rw [if_pos e8] at hok ⊢
    simp only [Bool.and_eq_true] at hok ⊢
    refine ⟨?_, hok.2⟩
    have := hok.1
    unfold cpB at this ⊢
    rw [liB_all, diB_all] at this
    simp only [Bool.and_eq_true] at this ⊢
    exact ⟨⟨this.1.1, this.1.2.1⟩, this.2.1⟩
  rw [if_neg e8] at hok ⊢
  by_cases e34 : r.kind = 3 ∨ r.kind = 4
  · rw [if_pos e34] at hok ⊢
    rw [belB_0]
    simp only [Bool.and_eq_true] at hok ⊢
    exact ⟨⟨⟨hok.1.1.1, hok.1.1.2.1, trivial⟩, hok.1.2⟩, hok.2⟩
  rw [if_neg e34] at hok ⊢
  by_cases e567 : r.kind = 5 ∨ r.kind = 6 ∨ r.kind = 7
  · rw [if_pos e567] at hok ⊢
    rw [belB_0]
    simp only [Bool.and_eq_true] at hok ⊢
    exact ⟨⟨⟨hok.1.1.1, trivial⟩, hok.1.2⟩, hok.2⟩
  · rw [if_neg e567] at hok ⊢
    exact hok
theorem flat_congr {α : Type} {f g : α → List UInt8} : ∀ {L : List α}, (∀ x ∈ L, f x = g x) → L.flatMap f = L.flatMap g
  | [], _ => rfl
  | x :: r, h => by rw [List.flatMap_cons, List.flatMap_cons, h x (List.mem_cons_self ..), flat_congr fun y hy => h y (List.mem_cons_of_mem _ hy)]
theorem enc_lsn (r : RV) (n : Int) : encB { r with lsn := n } = encB r := by
  unfold encB tailB
  dsimp only
  have : ∀ o ∈ plc, ({ r with lsn := n } : RV).gi o = r.gi o := fun o ho => by
    simp only [plc, List.mem_cons, List.mem_nil_iff, or_false] at ho
    rcases ho with rfl | rfl | rfl | rfl | rfl | rfl | rfl | rfl | rfl | rfl | rfl | rfl | rfl <;> rfl
  have e1 : (iof r.kind).flatMap (intB { r with lsn := n }) = (iof r.kind).flatMap (intB r) := flat_congr fun o ho => by unfold intB; rw [this o (iof_plc _ o ho)]
  have e2 : (sof r.kind).flatMap (sgnB { r with lsn := n }) = (sof r.kind).flatMap (sgnB r) := flat_congr fun o ho => by unfold sgnB; rw [this o (sof_plc _ o ho)]
  rw [e1, e2]
theorem dec_enc {r : RV} (hc : chkN r = 0) (h64 : r.w64) (more : List UInt8) : decB (encB r ++ more) = if more = [] then ({ r with lsn := 0 }, 0) else ({}, 21) := by
  obtain ⟨h1, h8, hok⟩ := chk_kind hc
  have hd : (encB r ++ more).drop 0 = vform r.kind.toNat ++ ((iof r.kind).flatMap (intB r) ++ ((sof r.kind).flatMap (sgnB r) ++ (tailB r ++ more))) := by
    unfold encB
    simp only [List.drop_zero, List.append_assoc]
  have u := rdU_ok (M := 18446744073709551615) (by omega) (by omega) hd
  have hk : ((r.kind.toNat : Nat) : Int) = r.kind := by omega
  have d1 := drop_next hd
  have hrec := rdRec_ok hc h64 d1
  have hlen : (vform r.kind.toNat).length + ((iof r.kind).flatMap (intB r) ++ ((sof r.kind).flatMap (sgnB r) ++ tailB r)).length = (encB r).length := by
    unfold encB
    simp only [List.length_append]
  unfold decB
  simp only [u, hk]
  rw [if_neg (by omega), if_neg (by omega), hrec]
  dsimp only
  rw [Nat.zero_add, hlen]
  by_cases hm : more = []
  · subst hm
    have e : endE (encB r ++ []) ((encB r).length, 0) = 0 := by
      unfold endE
      dsimp only
      rw [List.append_nil, if_neg (by omega)]
    rw [e, if_neg (by omega), if_pos rfl, chk_lsn0 hc]
    rfl
  · have : 0 < more.length := List.length_pos_iff.2 hm
    have e : endE (encB r ++ more) ((encB r).length, 0) = 21 := by
      unfold endE
      dsimp only
      rw [if_pos ⟨rfl, by rw [List.length_append]; omega⟩]
    rw [e, if_neg hm, if_pos (by omega)]
/-! Plain laws of a record's bytes: one form, cut, length. Conditions: none. -/
theorem rdInts_one {bs : List UInt8} {M : Nat} : ∀ (l : List Nat) (s : RV × (Nat × Nat)), l.Nodup → (∀ o ∈ l, o ∈ plc) → (rdInts bs M l s).2.2 = 0 →
    s.2.2 = 0 ∧ bs.drop s.2.1 = l.flatMap (intB (rdInts bs M l s).1) ++ bs.drop (rdInts bs M l s).2.1 ∧ Left l s.1 (rdInts bs M l s).1 (rdInts bs M l s).1.gi
  | [], s, _, _, h => ⟨h, rfl, ⟨fun o ho => (by cases ho), fun o _ _ => rfl, rfl, rfl, rfl, rfl⟩⟩
  | o :: l, s, hnd, hp, h => by
    rw [rdInts] at h ⊢
    obtain ⟨h1, h2, h3⟩ := rdInts_one l _ (List.nodup_cons.1 hnd).2 (fun q hq => hp q (List.mem_cons_of_mem _ hq)) h
    dsimp only at h1 h2
    obtain ⟨h4, h5⟩ := rdU_one h1
    have hv : (rdInts bs M l (s.1.put ((rdU bs s.2 M).1 : Int) o, (rdU bs s.2 M).2)).1.gi o = ((rdU bs s.2 M).1 : Int) := by
      rw [h3.old o (hp o (List.mem_cons_self ..)) (List.nodup_cons.1 hnd).1, gi_put_same (hp o (List.mem_cons_self ..))]
    refine ⟨h4, ?_, h3.cons (hp o (List.mem_cons_self ..)) (fun q hq => hp q (List.mem_cons_of_mem _ hq)) (List.nodup_cons.1 hnd).1 hv.symm⟩
    rw [h5, h2, List.flatMap_cons, List.append_assoc]
    congr 1
    unfold intB
    rw [hv, Int.toNat_natCast]
theorem rdSgn_one {bs : List UInt8} : ∀ (l : List Nat) (s : RV × (Nat × Nat)), l.Nodup → (∀ o ∈ l, o ∈ plc) → (rdSgn bs l s).2.2 = 0 →
    s.2.2 = 0 ∧ bs.drop s.2.1 = l.flatMap (sgnB (rdSgn bs l s).1) ++ bs.drop (rdSgn bs l s).2.1 ∧ Left l s.1 (rdSgn bs l s).1 (rdSgn bs l s).1.gi ∧ ∀ o ∈ l, i64 ((rdSgn bs l s).1.gi o)
  | [], s, _, _, h => ⟨h, rfl, ⟨fun o ho => (by cases ho), fun o _ _ => rfl, rfl, rfl, rfl, rfl⟩, fun o ho => (by cases ho)⟩
  | o :: l, s, hnd, hp, h => by
    rw [rdSgn] at h ⊢
    obtain ⟨h1, h2, h3, h6⟩ := rdSgn_one l _ (List.nodup_cons.1 hnd).2 (fun q hq => hp q (List.mem_cons_of_mem _ hq)) h
    dsimp only at h1 h2
    obtain ⟨h4, h5⟩ := rdU_one h1
    have hv : (rdSgn bs l (s.1.put (unzig (rdU bs s.2 18446744073709551615).1) o, (rdU bs s.2 18446744073709551615).2)).1.gi o = unzig (rdU bs s.2 18446744073709551615).1 := by
      rw [h3.old o (hp o (List.mem_cons_self ..)) (List.nodup_cons.1 hnd).1, gi_put_same (hp o (List.mem_cons_self ..))]
    refine ⟨h4, ?_, h3.cons (hp o (List.mem_cons_self ..)) (fun q hq => hp q (List.mem_cons_of_mem _ hq)) (List.nodup_cons.1 hnd).1 hv.symm, fun q hq => ?_⟩
    · rw [h5, h2, List.flatMap_cons, List.append_assoc]
      congr 1
      unfold sgnB
      rw [hv, zig_unzig]
    · rcases List.mem_cons.1 hq with rfl | hq
      · rw [hv]
        exact unzig_bd (rdU_lt _ _ _)
      · exact h6 q hq
theorem rdL1_one {bs : List UInt8} {st : Nat × Nat} (h : (rdL1 bs st).2.2 = 0) : st.2 = 0 ∧ bs.drop st.1 = lvB (rdL1 bs st).1 ++ bs.drop (rdL1 bs st).2.1 := by
  unfold rdL1 at h ⊢
  dsimp only at h ⊢
  obtain ⟨h1, e1⟩ := rdU_one h
  obtain ⟨h2, e2⟩ := rdU_one h1
  obtain ⟨h3, e3⟩ := rdU_one h2
  refine ⟨h3, ?_⟩
  rw [e3, e2, e1]
  unfold lvB
  dsimp only
  have hle := rdU_le bs (rdU bs (rdU bs st 2147483647).2 2147483647).2 2
  have hst : stN ⟨((rdU bs st 2147483647).1 : Int), ((rdU bs (rdU bs st 2147483647).2 2147483647).1 : Int), ((rdU bs (rdU bs (rdU bs st 2147483647).2 2147483647).2 2).1 : Int) == 1, ((rdU bs (rdU bs (rdU bs st 2147483647).2 2147483647).2 2).1 : Int) == 2⟩ = (rdU bs (rdU bs (rdU bs st 2147483647).2 2147483647).2 2).1 := by
    unfold stN
    dsimp only
    generalize (rdU bs (rdU bs (rdU bs st 2147483647).2 2147483647).2 2).1 = v at *
    have : v = 0 ∨ v = 1 ∨ v = 2 := by omega
    rcases this with rfl | rfl | rfl <;> rfl
  rw [hst, Int.toNat_natCast, Int.toNat_natCast]
  simp only [List.append_assoc]
theorem rdD1_one {bs : List UInt8} {st : Nat × Nat} (h : (rdD1 bs st).2.2 = 0) : st.2 = 0 ∧ bs.drop st.1 = dvB (rdD1 bs st).1 ++ bs.drop (rdD1 bs st).2.1 := by
  unfold rdD1 at h ⊢
  dsimp only at h ⊢
  obtain ⟨h1, e1⟩ := rdU_one h
  obtain ⟨h2, e2⟩ := rdU_one h1
  refine ⟨h2, ?_⟩
  rw [e2, e1]
  unfold dvB
  dsimp only
  rw [Int.toNat_natCast, Int.toNat_natCast]
  simp only [List.append_assoc]
theorem rdLive_one {bs : List UInt8} : ∀ (n : Nat) (A : List LV) (st : Nat × Nat), (rdLive bs n (A, st)).2.2 = 0 → st.2 = 0 ∧ ∃ L, (rdLive bs n (A, st)).1 = A ++ L ∧ L.length = n ∧ bs.drop st.1 = L.flatMap lvB ++ bs.drop (rdLive bs n (A, st)).2.1
  | 0, A, st, h => ⟨h, [], by simp [rdLive], rfl, rfl⟩
  | n + 1, A, st, h => by
    rw [rdLive] at h ⊢
    dsimp only at h ⊢
    obtain ⟨h1, L, h2, h3, h4⟩ := rdLive_one n _ _ h
    obtain ⟨h5, h6⟩ := rdL1_one h1
    refine ⟨h5, (rdL1 bs st).1 :: L, by rw [h2, List.append_assoc]; rfl, by simp [h3], ?_⟩
    rw [h6, h4, List.flatMap_cons, List.append_assoc]
theorem rdDirty_one {bs : List UInt8} : ∀ (n : Nat) (A : List DV) (st : Nat × Nat), (rdDirty bs n (A, st)).2.2 = 0 → st.2 = 0 ∧ ∃ D, (rdDirty bs n (A, st)).1 = A ++ D ∧ D.length = n ∧ bs.drop st.1 = D.flatMap dvB ++ bs.drop (rdDirty bs n (A, st)).2.1
  | 0, A, st, h => ⟨h, [], by simp [rdDirty], rfl, rfl⟩
  | n + 1, A, st, h => by
    rw [rdDirty] at h ⊢
    dsimp only at h ⊢
    obtain ⟨h1, L, h2, h3, h4⟩ := rdDirty_one n _ _ h
    obtain ⟨h5, h6⟩ := rdD1_one h1
    refine ⟨h5, (rdD1 bs st).1 :: L, by rw [h2, List.append_assoc]; rfl, by simp [h3], ?_⟩
    rw [h6, h4, List.flatMap_cons, List.append_assoc]
theorem rdRec_one {bs : List UInt8} {k : Int} {st : Nat × Nat} (h : (rdRec bs k st).2.2 = 0) : st.2 = 0 ∧ (rdRec bs k st).1.kind = k ∧ (rdRec bs k st).1.lsn = 0 ∧ (∀ o ∈ sof k, i64 ((rdRec bs k st).1.gi o)) ∧
    bs.drop st.1 = (iof k).flatMap (intB (rdRec bs k st).1) ++ ((sof k).flatMap (sgnB (rdRec bs k st).1) ++ (tailB (rdRec bs k st).1 ++ bs.drop (rdRec bs k st).2.1)) := by
  unfold rdRec at h ⊢
  generalize hA : rdInts bs (mst k) (iof k) ({ kind := k }, st) = A at h ⊢
  generalize hB : rdSgn bs (sof k) A = B at h ⊢
  have fin : B.2.2 = 0 → st.2 = 0 ∧ B.1.kind = k ∧ B.1.lsn = 0 ∧ B.1.live = [] ∧ B.1.dirty = [] ∧ (∀ o ∈ sof k, i64 (B.1.gi o)) ∧ bs.drop st.1 = (iof k).flatMap (intB B.1) ++ ((sof k).flatMap (sgnB B.1) ++ bs.drop B.2.1) := fun hz => by
    rw [← hB] at hz
    obtain ⟨j1, j2, j3, j4⟩ := rdSgn_one (sof k) A (sof_nodup k) (sof_plc k) hz
    rw [← hA] at j1
    obtain ⟨i1, i2, i3⟩ := rdInts_one (iof k) ({ kind := k }, st) (iof_nodup k) (iof_plc k) j1
    rw [hA] at i2 i3
    rw [hB] at j2 j3 j4
    refine ⟨i1, j3.k.1.trans i3.k.1, j3.k.2.2.2.trans i3.k.2.2.2, j3.k.2.1.trans i3.k.2.1, j3.k.2.2.1.trans i3.k.2.2.1, j4, ?_⟩
    dsimp only at i2
    rw [i2, j2]
    congr 1
    exact flat_congr fun o ho => by
      unfold intB
      rw [j3.old o (iof_plc k o ho) (iof_sof k o ho)]
  unfold rdTail at h ⊢
  by_cases e8 : B.1.kind = 8
  · rw [if_pos e8] at h ⊢
    unfold rdCp at h ⊢
    dsimp only at h ⊢
    obtain ⟨d1, D, d2, d3, d4⟩ := rdDirty_one _ _ _ h
    obtain ⟨u1, u2⟩ := rdU_one d1
    obtain ⟨l1, L, l2, l3, l4⟩ := rdLive_one _ _ _ u1
    obtain ⟨v1, v2⟩ := rdU_one l1
    obtain ⟨a1, a2, a3, a4, a5, a6, a7⟩ := fin v1
    have l2 := l2.trans (by rw [a4, List.nil_append] : B.1.live ++ L = L)
    have d2 := d2.trans (by rw [a5, List.nil_append] : B.1.dirty ++ D = D)
    have gl : ∀ (L : List LV) (D : List DV), ∀ o ∈ plc, ({ B.1 with live := L, dirty := D } : RV).gi o = B.1.gi o := fun L D o ho => by
      simp only [plc, List.mem_cons, List.mem_nil_iff, or_false] at ho
      rcases ho with rfl | rfl | rfl | rfl | rfl | rfl | rfl | rfl | rfl | rfl | rfl | rfl | rfl <;> rfl
    refine ⟨a1, a2, a3, fun o ho => by rw [gl _ _ o (sof_plc k o ho)]; exact a6 o ho, ?_⟩
    have eI : ∀ L D, (iof k).flatMap (intB { B.1 with live := L, dirty := D }) = (iof k).flatMap (intB B.1) := fun L D => flat_congr fun o ho => by unfold intB; rw [gl _ _ o (iof_plc k o ho)]
    have eS : ∀ L D, (sof k).flatMap (sgnB { B.1 with live := L, dirty := D }) = (sof k).flatMap (sgnB B.1) := fun L D => flat_congr fun o ho => by unfold sgnB; rw [gl _ _ o (sof_plc k o ho)]
    have eT : ∀ L D, tailB { B.1 with live := L, dirty := D } = vform L.length ++ (L.flatMap lvB ++ (vform D.length ++ D.flatMap dvB)) := fun L D => by
      unfold tailB
      rw [if_pos (by exact e8)]
    rw [eI, eS, eT, l2, d2, l3, d3, a7, v2, l4, u2, d4]
    simp only [List.append_assoc]
  · rw [if_neg e8] at h ⊢
    obtain ⟨a1, a2, a3, a4, a5, a6, a7⟩ := fin h
    refine ⟨a1, a2, a3, a6, ?_⟩
    have : tailB B.1 = [] := by unfold tailB; rw [if_neg e8]
    rw [this]
    exact a7
theorem dec_one {bs : List UInt8} (h : (decB bs).2 = 0) : chkN (decB bs).1 = 0 ∧ (decB bs).1.lsn = 0 ∧ (decB bs).1.w64 ∧ encB (decB bs).1 = bs := by
  unfold decB at h ⊢
  dsimp only at h ⊢
  split at h
  · rename_i h1
    exact absurd h h1
  rename_i h1
  rw [if_neg h1]
  split at h
  · cases h
  rename_i h2
  rw [if_neg h2]
  split at h
  · rename_i h3
    exact absurd h h3
  rename_i h3
  rw [if_neg h3]
  split at h
  · rename_i h4
    exact absurd h h4
  rename_i h4
  rw [if_neg h4]
  dsimp only
  have he : endE bs (rdRec bs ((rdU bs (0, 0) 18446744073709551615).1 : Int) (rdU bs (0, 0) 18446744073709551615).2).2 = 0 := Decidable.not_not.1 h3
  have hc : chkN (rdRec bs ((rdU bs (0, 0) 18446744073709551615).1 : Int) (rdU bs (0, 0) 18446744073709551615).2).1 = 0 := Decidable.not_not.1 h4
  obtain ⟨u1, u2⟩ := rdU_one (Decidable.not_not.1 h1)
  generalize rdU bs (0, 0) 18446744073709551615 = a at *
  have hz : (rdRec bs (a.1 : Int) a.2).2.2 = 0 ∧ bs.length ≤ (rdRec bs (a.1 : Int) a.2).2.1 := by
    unfold endE at he
    split at he
    · cases he
    · rename_i hh
      exact ⟨he, by omega⟩
  obtain ⟨r1, r2, r3, r4, r5⟩ := rdRec_one hz.1
  generalize hx : rdRec bs (a.1 : Int) a.2 = x at *
  refine ⟨hc, r3, ?_, ?_⟩
  · obtain ⟨k1, k8, hok⟩ := chk_kind hc
    obtain ⟨hzz, _⟩ := ok_zero hok k1 k8
    rw [r2] at hzz
    have get : ∀ o, o ∈ plc → o ∉ iof (a.1 : Int) → i64 (x.1.gi o) := fun o ho hi => by
      by_cases hs : o ∈ sof (a.1 : Int)
      · exact r4 o hs
      · rw [hzz o ho hi hs]
        unfold i64
        omega
    have ni : ∀ o, o = 8 ∨ o = 11 ∨ o = 12 ∨ o = 13 → o ∉ iof (a.1 : Int) := fun o ho => by
      unfold iof
      rcases ho with rfl | rfl | rfl | rfl <;> (repeat' (split <;> try decide))
    exact ⟨get 8 (by decide) (ni 8 (by simp)), get 11 (by decide) (ni 11 (by simp)), get 12 (by decide) (ni 12 (by simp)), get 13 (by decide) (ni 13 (by simp))⟩
  · unfold encB
    rw [r2, Int.toNat_natCast]
    rw [List.drop_eq_nil_of_le hz.2, List.append_nil] at r5
    rw [← r5, ← u2, List.drop_zero]
/-! Plain laws of a record's bytes: cut anywhere; their length. Conditions: none. -/
theorem vlen_of {n k : Nat} (h : n < 128 ^ (k + 1)) : (vform n).length ≤ k + 1 := vform_len n k h
theorem flat_len_pos {α : Type} {f : α → List UInt8} (h : ∀ x, 0 < (f x).length) : ∀ (L : List α), L.length ≤ (L.flatMap f).length
  | [] => by simp
  | x :: r => by
    have := flat_len_pos h r
    have h1 := h x
    rw [List.flatMap_cons, List.length_append, List.length_cons]
    omega
theorem enc_len {r : RV} (hc : chkN r = 0) (h64 : r.w64) : 2 ≤ (encB r).length ∧ (encB r).length ≤ 502 := by
  obtain ⟨h1, h8, hok⟩ := chk_kind hc
  have hints := ok_ints hc
  have hsg := sgn_64 h64
  have hk := vlen_of (n := r.kind.toNat) (k := 0) (by omega)
  have hkp := vform_pos r.kind.toNat
  have hi := flat_len (f := intB r) (n := 5) (L := iof r.kind) fun o ho => vlen_of (k := 4) (by have := hints o ho; omega)
  have hip := flat_len_pos (f := intB r) (fun o => vform_pos _) (iof r.kind)
  have hs := flat_len (f := sgnB r) (n := 10) (L := sof r.kind) fun o ho => vform_len64 (zig_lt (hsg o ho).1 (hsg o ho).2)
  have hil : 1 ≤ (iof r.kind).length := by
    unfold iof
    repeat' (split <;> try decide)
  have hi7 := iof_len r.kind
  have hs3 := sof_len r.kind
  have ht : (tailB r).length ≤ 350 + 100 := by
    unfold tailB
    split
    · rename_i e8
      obtain ⟨hl, hd, hL, hD⟩ := ok_lists hc e8
      have a1 := vlen_of (n := r.live.length) (k := 0) (by omega)
      have a2 := vlen_of (n := r.dirty.length) (k := 0) (by omega)
      have a3 := flat_len (f := lvB) (n := 11) (L := r.live) fun x hx => by
        have hh := hL x hx
        have b1 := vlen_of (n := x.tx.toNat) (k := 4) (by omega)
        have b2 := vlen_of (n := x.last.toNat) (k := 4) (by omega)
        have b3 := vlen_of (n := stN x) (k := 0) (by unfold stN; split <;> (try split) <;> omega)
        unfold lvB
        simp only [List.length_append]
        omega
      have a4 := flat_len (f := dvB) (n := 6) (L := r.dirty) fun x hx => by
        have hh := hD x hx
        have b1 := vlen_of (n := x.page.toNat) (k := 0) (by omega)
        have b2 := vlen_of (n := x.since.toNat) (k := 4) (by omega)
        unfold dvB
        simp only [List.length_append]
        omega
      simp only [List.length_append]
      omega
    · simp
  have hI : (iof r.kind).length ≤ 1 ∨ tailB r = [] := by
    by_cases e8 : r.kind = 8
    · left
      unfold iof
      rw [if_neg (by omega), if_pos e8]
      simp
    · right
      unfold tailB
      rw [if_neg e8]
  have hS : sof r.kind = [] ∨ tailB r = [] := by
    by_cases e8 : r.kind = 8
    · left
      unfold sof
      rw [if_neg (by omega), if_neg (by omega)]
    · right
      unfold tailB
      rw [if_neg e8]
  unfold encB
  simp only [List.length_append]
  have hS' : (sof r.kind).length = 0 ∨ (tailB r).length = 0 := hS.imp (fun h => by rw [h]; rfl) (fun h => by rw [h]; rfl)
  have hI' : (iof r.kind).length ≤ 1 ∨ (tailB r).length = 0 := hI.imp id (fun h => by rw [h]; rfl)
  omega
section
open Go Go.RowKit Go.ChangeShapes Go.WideShapes
theorem Cl.slc {P : Program} {W : World} {t e : TypeId} {cs : List Value} (ht : P.underlying t = some (.slice e)) (h : Cl P W t cs) : ∃ (a : Option Addr) (l c : Nat), cs = [.slice a l c] := by
  obtain ⟨H, enc, fuel, x, hf⟩ := h
  rcases Deep.open_slice ht hf with ⟨h, _⟩ | ⟨ad, len, cap, m, n, D, Pl, h, _⟩
  · exact ⟨_, _, _, h⟩
  · exact ⟨_, _, _, h⟩
structure LossOk (W : World) (a : Option Addr) (l : Nat) (keep : List Nat) (torn off : Int) : Prop where
  n : keep.length = l
  rd : Rd W a (keep.map u64v)
  lt : ∀ x ∈ keep, x < 18446744073709551616
  ln : l * 8 ≤ 140737488351232
  nn : a = none → l = 0
theorem loss_open' {W : World} {cs : List Value} (h : ClW Tryz.prog W T_api_Loss cs) : ∃ a l c keep torn off, cs = [.slice a l c, .int .i64 torn, .int .i64 off] ∧ LossOk W a l keep torn off := by
  have hl := h.cl.slen (s := 3) (by kernel_rfl)
  have f0 := h.field 0 (e := T_s_uint64) (o := 0) (s := 1) (by kernel_rfl)
  have f1 := h.cl.field 1 (e := T_int) (o := 1) (s := 1) (by kernel_rfl)
  have f2 := h.cl.field 2 (e := T_int) (o := 2) (s := 1) (by kernel_rfl)
  match cs, hl with
  | [x0, x1, x2], _ =>
    simp only [List.drop_zero, List.drop_succ_cons, List.take_succ_cons, List.take_zero] at f0 f1 f2
    obtain ⟨a, l, c, h0⟩ := f0.cl.slc (e := T_uint64) (by kernel_rfl)
    obtain ⟨torn, h1, w1⟩ := f1.int (k := .i64) (by kernel_rfl)
    obtain ⟨off, h2, w2⟩ := f2.int (k := .i64) (by kernel_rfl)
    cases h0; cases h1; cases h2
    have hln := f0.len (e := T_uint64) (by kernel_rfl)
    have b1 : Tryz.prog.bytesOf T_uint64 = 8 := by kernel_rfl
    have hreach : reachBytes = 140737488351232 := by decide
    rw [b1, hreach] at hln
    obtain ⟨hl, hm, hz, css, g1, g2⟩ := f0.cl.cells (e := T_uint64) (s := 1) (by kernel_rfl) (by kernel_rfl) (by omega)
    have each : ∀ i, i < l → ∃ x : Nat, css i = [u64v x] ∧ x < 18446744073709551616 := fun i hi => by
      obtain ⟨n, hn, wn⟩ := (g1 i hi).2.int (k := .u64) (by kernel_rfl)
      obtain ⟨m, rfl, hm⟩ := u64_wf wn
      exact ⟨m, hn, hm⟩
    obtain ⟨f, hf⟩ := Deep.choose_lt (α := Nat) (p := fun i x => css i = [u64v x] ∧ x < 18446744073709551616) each
    refine ⟨a, l, c, (List.range l).map f, torn, off, rfl, by simp, fun i v hv => ?_, fun x hx => ?_, hln, fun h0 => ?_⟩
    · have hil : i < l := by have := (List.getElem?_eq_some_iff.1 hv).1; simpa using this
      have hv' : v = u64v (f i) := by
        rw [List.getElem?_map, List.getElem?_map, List.getElem?_range hil] at hv
        simpa using hv.symm
      subst hv'
      obtain ⟨b, o, ha, hc⟩ := g2 i hil 0 (u64v (f i)) (by rw [(hf i hil).1]; rfl)
      exact ⟨b, o, ha, by simpa using hc⟩
    · simp only [List.mem_map, List.mem_range] at hx
      obtain ⟨i, hi, rfl⟩ := hx
      exact (hf i hi).2
    · by_cases hl0 : l = 0
      · exact hl0
      · obtain ⟨b, o, ha, _⟩ := g2 0 (by omega) 0 (u64v (f 0)) (by rw [(hf 0 (by omega)).1]; rfl)
        rw [h0] at ha
        cases ha
end
section
open Go Go.RowKit Go.ChangeShapes Go.WideShapes
theorem weights_all {H : Type} {P : Program} {e : TypeId} : ∀ {ds : List (DataW H)} {d : DataW H}, d ∈ ds → ∀ n ∈ d.weights P e, n ∈ DataW.weightsAll P e ds
  | d0 :: r, d, hd, n, hn => by
    rw [DataW.weightsAll, List.mem_append]
    rcases List.mem_cons.1 hd with rfl | hd
    · exact .inl hn
    · exact .inr (weights_all hd n hn)
theorem ClW.cells {P : Program} {W : World} {t e : TypeId} {a : Option Addr} {l c : Nat} {s : Nat} (ht : P.underlying t = some (.slice e)) (hs : P.cellsOf e = s) (hs0 : 0 < s) (h : ClW P W t [.slice a l c]) :
    ∃ css : Nat → List Value, (∀ i, i < l → ClW P W e (css i)) ∧ ∀ i, i < l → ∀ (q : Nat) v, (css i)[q]? = some v → ∃ b o, a = some ⟨b, o, none⟩ ∧ W.cell? ⟨b, o + i * s + q, none⟩ = some v := by
  obtain ⟨H, enc, fuel, x, hf, hw⟩ := h
  rcases Deep.open_slice ht hf with ⟨h, _⟩ | ⟨ad, len, cap, m, n, D, Pl, h, _, hl, hm, hmm, hx, hall⟩
  · cases h
    exact ⟨fun _ => [], fun i hi => by omega, fun i hi => by omega⟩
  · cases h
    have each : ∀ i, i < l → ∃ cs : List Value, cs.length = s ∧ (∀ j v, cs[j]? = some v → W.cell? ((ad.add (i * s)).add j) = some v) ∧ ClW P W e cs := fun i hi => by
      obtain ⟨cs, g1, g2⟩ := hall i (by simp only [if_true] at hmm; omega)
      obtain ⟨g3, g4⟩ := cells_row g1
      rw [hs] at g3 g4
      refine ⟨cs, g3, g4, H, enc, n, _, g2, fun k hk => hw k ?_⟩
      subst hx
      simp only [DataW.weights, ht]
      refine List.mem_cons_of_mem _ (List.mem_append.2 (.inl (weights_all (d := D i) ?_ k hk)))
      exact List.mem_map.2 ⟨i, List.mem_range.2 hi, rfl⟩
    obtain ⟨css, hcss⟩ := Deep.choose_lt (α := List Value) (p := fun i cs => cs.length = s ∧ (∀ j v, cs[j]? = some v → W.cell? ((ad.add (i * s)).add j) = some v) ∧ ClW P W e cs) each
    refine ⟨css, fun i hi => (hcss i hi).2.2, fun i hi j v hv => ?_⟩
    have hsp : ad.spot = none := by
      have h0 := hcss 0 (by omega)
      have hlt : 0 < (css 0).length := by omega
      have hc := h0.2.1 0 _ (List.getElem?_eq_getElem hlt)
      rw [Nat.zero_mul] at hc
      have ea : (ad.add 0).add 0 = ad := by simp [Addr.add]
      rw [ea] at hc
      unfold World.cell? at hc
      split at hc
      · cases hs : ad.spot with
        | none => rfl
        | some s => rw [hs] at hc; cases hc
      · cases hc
    obtain ⟨b, o, sp⟩ := ad
    simp only at hsp
    subst hsp
    refine ⟨b, o, rfl, ?_⟩
    have := (hcss i hi).2.1 j v hv
    rwa [add_at, add_at] at this
end
section
open Go Go.RowKit Go.ChangeShapes Go.WideShapes
instance : Inhabited LV := ⟨⟨0, 0, false, false⟩⟩
instance : Inhabited DV := ⟨⟨0, 0⟩⟩
theorem rd_flat {α : Type} {f : α → List Value} {s : Nat} (hs : ∀ x, (f x).length = s) (hs0 : 0 < s) {W : World} {a : Option Addr} {L : List α} (h : ∀ i (hi : i < L.length) q v, (f L[i])[q]? = some v → ∃ b o, a = some ⟨b, o, none⟩ ∧ W.cell? ⟨b, o + i * s + q, none⟩ = some v) : Rd W a (flatV f L) := by
  intro j v hv
  have hj : j < L.length * s := by have := (List.getElem?_eq_some_iff.1 hv).1; rwa [flatV_len hs] at this
  have hq : j % s < s := Nat.mod_lt _ hs0
  have hi : j / s < L.length := Nat.div_lt_of_lt_mul (by rwa [Nat.mul_comm])
  have e : j / s * s + j % s = j := by rw [Nat.mul_comm]; exact Nat.div_add_mod j s
  have hg := flatV_get hs L (j / s) hi (j % s) hq
  rw [e, hv] at hg
  obtain ⟨b, o, ha, hc⟩ := h (j / s) hi (j % s) v hg.symm
  refine ⟨b, o, ha, ?_⟩
  rwa [Nat.add_assoc, e] at hc
theorem live_open {W : World} {a : Option Addr} {l c : Nat} (h : ClW Tryz.prog W T_s_api_Live [.slice a l c]) : l ≤ c ∧ l < 140737488355329 ∧ ∃ L : List LV, L.length = l ∧ Rd W a (flatV LV.cs L) := by
  obtain ⟨hl, hm, h0, css, h1, h2⟩ := h.cl.cells (e := T_api_Live) (s := 4) (by kernel_rfl) (by kernel_rfl) (by omega)
  have hln := h.len (e := T_api_Live) (by kernel_rfl)
  have b1 : Tryz.prog.bytesOf T_api_Live = 24 := by kernel_rfl
  have hreach : reachBytes = 140737488351232 := by decide
  rw [b1, hreach] at hln
  have each : ∀ i, i < l → ∃ x : LV, css i = x.cs := fun i hi => by
    have hc := (h1 i hi).2
    have f0 := hc.field 0 (e := T_int) (o := 0) (s := 1) (by kernel_rfl)
    have f1 := hc.field 1 (e := T_int) (o := 1) (s := 1) (by kernel_rfl)
    have f2 := hc.field 2 (e := T_bool) (o := 2) (s := 1) (by kernel_rfl)
    have f3 := hc.field 3 (e := T_bool) (o := 3) (s := 1) (by kernel_rfl)
    have hsl := (h1 i hi).1
    generalize css i = cs at *
    match cs, hsl with
    | [x0, x1, x2, x3], _ =>
      simp only [List.drop_zero, List.drop_succ_cons, List.take_succ_cons, List.take_zero] at f0 f1 f2 f3
      obtain ⟨n0, e0, _⟩ := f0.int (k := .i64) (by kernel_rfl)
      obtain ⟨n1, e1, _⟩ := f1.int (k := .i64) (by kernel_rfl)
      obtain ⟨q2, e2⟩ := f2.bool (by kernel_rfl)
      obtain ⟨q3, e3⟩ := f3.bool (by kernel_rfl)
      cases e0; cases e1; cases e2; cases e3
      exact ⟨⟨n0, n1, q2, q3⟩, rfl⟩
  obtain ⟨f, hf⟩ := Deep.choose_lt (α := LV) (p := fun i x => css i = x.cs) each
  refine ⟨hl, by omega, (List.range l).map f, by simp, rd_flat LV.csl (by omega) fun i hi q v hv => ?_⟩
  have hil : i < l := by simpa using hi
  have e : ((List.range l).map f)[i] = f i := by simp
  rw [e] at hv
  exact h2 i hil q v (by rw [hf i hil]; exact hv)
theorem dirty_open {W : World} {a : Option Addr} {l c : Nat} (h : ClW Tryz.prog W T_s_api_Dirty [.slice a l c]) : l ≤ c ∧ l < 140737488355329 ∧ ∃ L : List DV, L.length = l ∧ Rd W a (flatV DV.cs L) := by
  obtain ⟨hl, hm, h0, css, h1, h2⟩ := h.cl.cells (e := T_api_Dirty) (s := 2) (by kernel_rfl) (by kernel_rfl) (by omega)
  have hln := h.len (e := T_api_Dirty) (by kernel_rfl)
  have b1 : Tryz.prog.bytesOf T_api_Dirty = 16 := by kernel_rfl
  have hreach : reachBytes = 140737488351232 := by decide
  rw [b1, hreach] at hln
  have each : ∀ i, i < l → ∃ x : DV, css i = x.cs := fun i hi => by
    have hc := (h1 i hi).2
    have f0 := hc.field 0 (e := T_int) (o := 0) (s := 1) (by kernel_rfl)
    have f1 := hc.field 1 (e := T_int) (o := 1) (s := 1) (by kernel_rfl)
    have hsl := (h1 i hi).1
    generalize css i = cs at *
    match cs, hsl with
    | [x0, x1], _ =>
      simp only [List.drop_zero, List.drop_succ_cons, List.take_succ_cons, List.take_zero] at f0 f1
      obtain ⟨n0, e0, _⟩ := f0.int (k := .i64) (by kernel_rfl)
      obtain ⟨n1, e1, _⟩ := f1.int (k := .i64) (by kernel_rfl)
      cases e0; cases e1
      exact ⟨⟨n0, n1⟩, rfl⟩
  obtain ⟨f, hf⟩ := Deep.choose_lt (α := DV) (p := fun i x => css i = x.cs) each
  refine ⟨hl, by omega, (List.range l).map f, by simp, rd_flat DV.csl (by omega) fun i hi q v hv => ?_⟩
  have hil : i < l := by simpa using hi
  have e : ((List.range l).map f)[i] = f i := by simp
  rw [e] at hv
  exact h2 i hil q v (by rw [hf i hil]; exact hv)
structure RV.Wf (r : RV) : Prop where
  lsn : i64 r.lsn
  kind : i64 r.kind
  tx : i64 r.tx
  prev : i64 r.prev
  wp : i64 r.wp
  wi : i64 r.wi
  sp : i64 r.sp
  si : i64 r.si
  delta : i64 r.delta
  id : i64 r.id
  grp : i64 r.grp
  lo : i64 r.lo
  hi : i64 r.hi
  val : i64 r.val
  next : i64 r.next
theorem RV.Wf.w64 {r : RV} (h : r.Wf) : r.w64 := ⟨h.delta, h.lo, h.hi, h.val⟩
structure RArg (w : World) (r : RV) (m : Mm) : Prop where
  li : LiIn w m r.live r.dirty
  wf : r.Wf
  lc : m.ll ≤ m.lc
  dc : m.dl ≤ m.dc
theorem RArg.kp0 {w w' : World} {r : RV} {m : Mm} (h : RArg w r m) (k : Kp no w w') : RArg w' r m := ⟨h.li.kp0 k, h.wf, h.lc, h.dc⟩
theorem rec_open {W : World} {cs : List Value} (h : ClW Tryz.prog W T_api_Record cs) : ∃ r m, cs = (RV.ca r m).toList ∧ RArg W r m := by
  have hl := h.cl.slen (s := 17) (by kernel_rfl)
  have f0 := h.field 0 (e := T_int) (o := 0) (s := 1) (by kernel_rfl)
  have f1 := h.field 1 (e := T_api_Kind) (o := 1) (s := 1) (by kernel_rfl)
  have f2 := h.field 2 (e := T_int) (o := 2) (s := 1) (by kernel_rfl)
  have f3 := h.field 3 (e := T_int) (o := 3) (s := 1) (by kernel_rfl)
  have f4 := h.field 4 (e := T_api_Slot) (o := 4) (s := 2) (by kernel_rfl)
  have f5 := h.field 5 (e := T_api_Slot) (o := 6) (s := 2) (by kernel_rfl)
  have f6 := h.field 6 (e := T_int64) (o := 8) (s := 1) (by kernel_rfl)
  have f7 := h.field 7 (e := T_api_Counter) (o := 9) (s := 5) (by kernel_rfl)
  have f8 := h.field 8 (e := T_api_Points) (o := 14) (s := 3) (by kernel_rfl)
  have f40 := f4.field 0 (e := T_int) (o := 0) (s := 1) (by kernel_rfl)
  have f41 := f4.field 1 (e := T_int) (o := 1) (s := 1) (by kernel_rfl)
  have f50 := f5.field 0 (e := T_int) (o := 0) (s := 1) (by kernel_rfl)
  have f51 := f5.field 1 (e := T_int) (o := 1) (s := 1) (by kernel_rfl)
  have f70 := f7.field 0 (e := T_int) (o := 0) (s := 1) (by kernel_rfl)
  have f71 := f7.field 1 (e := T_int) (o := 1) (s := 1) (by kernel_rfl)
  have f72 := f7.field 2 (e := T_api_Range) (o := 2) (s := 2) (by kernel_rfl)
  have f720 := f72.field 0 (e := T_int64) (o := 0) (s := 1) (by kernel_rfl)
  have f721 := f72.field 1 (e := T_int64) (o := 1) (s := 1) (by kernel_rfl)
  have f73 := f7.field 3 (e := T_int64) (o := 4) (s := 1) (by kernel_rfl)
  have f80 := f8.field 0 (e := T_s_api_Live) (o := 0) (s := 1) (by kernel_rfl)
  have f81 := f8.field 1 (e := T_s_api_Dirty) (o := 1) (s := 1) (by kernel_rfl)
  have f82 := f8.field 2 (e := T_int) (o := 2) (s := 1) (by kernel_rfl)
  match cs, hl with
  | [x0, x1, x2, x3, x4, x5, x6, x7, x8, x9, x10, x11, x12, x13, x14, x15, x16], _ =>
    simp only [List.drop_zero, List.drop_succ_cons, List.take_succ_cons, List.take_zero] at f0 f1 f2 f3 f40 f41 f50 f51 f6 f70 f71 f720 f721 f73 f80 f81 f82
    obtain ⟨n0, e0, w0⟩ := f0.cl.int (k := .i64) (by kernel_rfl)
    obtain ⟨n1, e1, w1⟩ := f1.cl.int (k := .i64) (by kernel_rfl)
    obtain ⟨n2, e2, w2⟩ := f2.cl.int (k := .i64) (by kernel_rfl)
    obtain ⟨n3, e3, w3⟩ := f3.cl.int (k := .i64) (by kernel_rfl)
    obtain ⟨n4, e4, w4⟩ := f40.cl.int (k := .i64) (by kernel_rfl)
    obtain ⟨n5, e5, w5⟩ := f41.cl.int (k := .i64) (by kernel_rfl)
    obtain ⟨n6, e6, w6⟩ := f50.cl.int (k := .i64) (by kernel_rfl)
    obtain ⟨n7, e7, w7⟩ := f51.cl.int (k := .i64) (by kernel_rfl)
    obtain ⟨n8, e8, w8⟩ := f6.cl.int (k := .i64) (by kernel_rfl)
    obtain ⟨n9, e9, w9⟩ := f70.cl.int (k := .i64) (by kernel_rfl)
    obtain ⟨n10, e10, w10⟩ := f71.cl.int (k := .i64) (by kernel_rfl)
    obtain ⟨n11, e11, w11⟩ := f720.cl.int (k := .i64) (by kernel_rfl)
    obtain ⟨n12, e12, w12⟩ := f721.cl.int (k := .i64) (by kernel_rfl)
    obtain ⟨n13, e13, w13⟩ := f73.cl.int (k := .i64) (by kernel_rfl)
    obtain ⟨la, ll, lc, e14⟩ := f80.cl.slc (e := T_api_Live) (by kernel_rfl)
    obtain ⟨da, dl, dc, e15⟩ := f81.cl.slc (e := T_api_Dirty) (by kernel_rfl)
    obtain ⟨n16, e16, w16⟩ := f82.cl.int (k := .i64) (by kernel_rfl)
    cases e0; cases e1; cases e2; cases e3; cases e4; cases e5; cases e6; cases e7; cases e8; cases e9; cases e10; cases e11; cases e12; cases e13; cases e14; cases e15; cases e16
    obtain ⟨hlc, hlb, L, hL, hLr⟩ := live_open f80
    obtain ⟨hdc, hdb, D, hD, hDr⟩ := dirty_open f81
    exact ⟨⟨n0, n1, n2, n3, n4, n5, n6, n7, n8, n9, n10, n11, n12, n13, n16, L, D⟩, ⟨la, ll, lc, da, dl, dc⟩, rfl, ⟨hLr, hL, hlb, hDr, hD, hdb⟩, ⟨i64_wf w0, i64_wf w1, i64_wf w2, i64_wf w3, i64_wf w4, i64_wf w5, i64_wf w6, i64_wf w7, i64_wf w8, i64_wf w9, i64_wf w10, i64_wf w11, i64_wf w12, i64_wf w13, i64_wf w16⟩, hlc, hdc⟩
theorem LiIn.nl {w : World} {m : Mm} {L : List LV} {D : List DV} (h : LiIn w m L D) : (m.la = none → m.ll = 0) ∧ (m.da = none → m.dl = 0) := by
  refine ⟨fun h0 => Decidable.by_contra fun hn => ?_, fun h0 => Decidable.by_contra fun hn => ?_⟩
  · have hx : flatV LV.cs L ≠ [] := fun hx => by
      have := flatV_len LV.csl L
      rw [hx] at this
      have := h.ll
      simp at *
      omega
    obtain ⟨b, o, ha, _⟩ := h.l.addr hx
    rw [h0] at ha
    cases ha
  · have hx : flatV DV.cs D ≠ [] := fun hx => by
      have := flatV_len DV.csl D
      rw [hx] at this
      have := h.dl
      simp at *
      omega
    obtain ⟨b, o, ha, _⟩ := h.d.addr hx
    rw [h0] at ha
    cases ha
theorem num_c {w : World} {n : Int} {R : Po} (h : R (.returned (.int .i64 n)) w) : GoC Tryz.prog F_law06_num #[.int .i64 n] w R := by
  refine S_law06_num ?_
  unfold W_law06_num
  exact h
end
theorem new_slt {w w' : World} {ow : Nat → Nat} {e : TypeId} {s : Nat} {a : Option Addr} {l c : Nat} {xs : List Value} (t : Nat) (hs : Sl w' e s a l c xs) (hf : Fresh w a) : SlT w' (ext ow w.heap.size t) e s a l c xs t := ⟨hs, fun k hk => ext_new (hf k hk)⟩
theorem rsame_c {w : World} {r q : RV} {m n : Mm} {R : Po} (hi : LiIn w m r.live r.dirty) (hj : LiIn w n q.live q.dirty) (h : ∀ w', Kp no w w' → R (.returned (.bool (decide (r = q)))) w') : GoC Tryz.prog F_ref05_Same #[.agg (r.ca m), .agg (q.ca n)] w R := by
  refine S_ref05_Same ?_
  unfold W_ref05_Same
  have hll := hi.ll
  have hdl := hi.dl
  have hlb := hi.lb
  have hdb := hi.db
  have jll := hj.ll
  have jdl := hj.dl
  refine Loc.al (Kp.refl _ w) fun b1 w1 h1 k1 g1 => Loc.al h1.kp fun b2 w2 h2 k2 g2 => ?_
  have h1 : Loc w w2 b1 (r.ca m) T_api_Record := h1.kp' k2
  have h2 : Loc w w2 b2 (q.ca n) T_api_Record := h2
  have no' : ∀ w', Kp no w w' → r ≠ q → R (.returned (.bool false)) w' := fun w' k hne => by
    have := h w' k
    rw [decide_eq_false hne] at this
    exact this
  have no2 : r ≠ q → R (.returned (.bool false)) w2 := no' w2 h2.kp
  refine ⟨_, h1.at rfl rfl, _, h2.at rfl rfl, cond_ne (fun hne => no2 fun hh => hne (by rw [hh])) (fun c0 => ?_)⟩
  refine ⟨_, h1.at rfl rfl, _, h2.at rfl rfl, cond_ne (fun hne => no2 fun hh => hne (by rw [hh])) (fun c1 => ?_)⟩
  refine ⟨_, h1.at rfl rfl, _, h2.at rfl rfl, cond_ne (fun hne => no2 fun hh => hne (by rw [hh])) (fun c2 => ?_)⟩
  refine ⟨_, h1.at rfl rfl, _, h2.at rfl rfl, cond_ne (fun hne => no2 fun hh => hne (by rw [hh])) (fun c3 => ?_)⟩
  refine ⟨_, _, ⟨h1.at rfl rfl, h1.at rfl rfl, trivial⟩, _, _, ⟨h2.at rfl rfl, h2.at rfl rfl, trivial⟩, cond_not (cond_b (fun c4 => ?_) (fun hne => no2 fun hh => by rw [hh] at hne; simp at hne))⟩
  refine ⟨_, _, ⟨h1.at rfl rfl, h1.at rfl rfl, trivial⟩, _, _, ⟨h2.at rfl rfl, h2.at rfl rfl, trivial⟩, cond_not (cond_b (fun c6 => ?_) (fun hne => no2 fun hh => by rw [hh] at hne; simp at hne))⟩
  refine ⟨_, h1.at rfl rfl, _, h2.at rfl rfl, cond_ne (fun hne => no2 fun hh => hne (by rw [hh])) (fun c8 => ?_)⟩
  refine ⟨_, _, _, _, _, ⟨h1.at rfl rfl, h1.at rfl rfl, h1.at rfl rfl, h1.at rfl rfl, h1.at rfl rfl, trivial⟩, _, _, _, _, _, ⟨h2.at rfl rfl, h2.at rfl rfl, h2.at rfl rfl, h2.at rfl rfl, h2.at rfl rfl, trivial⟩, cond_not (cond_b (fun c9 => ?_) (fun hne => no2 fun hh => by rw [hh] at hne; simp at hne))⟩
  refine ⟨_, h1.at rfl rfl, _, h2.at rfl rfl, cond_ne (fun hne => no2 fun hh => hne (by rw [hh])) (fun c16 => ?_)⟩
  refine ⟨_, _, _, h1.at rfl rfl, _, _, _, h2.at rfl rfl, cond_ne (fun hne => no2 fun hh => hne (by have := congrArg (fun x => x.live.length) hh; omega)) (fun c14 => ?_)⟩
  refine ⟨_, _, _, h1.at rfl rfl, _, _, _, h2.at rfl rfl, cond_ne (fun hne => no2 fun hh => hne (by have := congrArg (fun x => x.dirty.length) hh; omega)) (fun c15 => ?_)⟩
  have el : r.live.length = q.live.length := by omega
  have ed : r.dirty.length = q.dirty.length := by omega
  refine loopN (fun s w3 => Kp no w2 w3 ∧ ∃ k : Nat, k ≤ r.live.length ∧ s.1 = (k : Int) ∧ r.live.take k = q.live.take k) (fun s _ => r.live.length - s.1.toNat) ⟨Kp.refl _ _, 0, Nat.zero_le _, rfl, rfl⟩ ?_
  rintro ⟨k0, u⟩ w3 ⟨k3, k, hk, hk0, ht⟩ _
  dsimp only at hk0 ⊢
  subst hk0
  have h13 := h1.kp' k3
  have h23 := h2.kp' k3
  refine ⟨_, _, _, h13.at rfl rfl, cond_d (fun hlt => ?_) (fun hge => ?_)⟩
  · have hkl : k < r.live.length := by omega
    have hkq : k < q.live.length := by omega
    refine ⟨_, _, _, h13.at rfl rfl, rd_el LV.csl (by omega) (hi.kp0 h13.kp).l hkl hll fun b o ha hc => ?_⟩
    have cell : ∀ j v, (r.live[k]).cs[j]? = some v → w3.cell? (Addr.add ((⟨b, o, none⟩ : Addr).add (Int.toNat (k : Int) * 4)) j) = some v := fun j v hv => by
      rw [Int.toNat_natCast, add_at, add_at]; exact hc j v hv
    have cell0 : w3.cell? ((⟨b, o, none⟩ : Addr).add (Int.toNat (k : Int) * 4)) = some (.int .i64 (r.live[k]).tx) := by
      rw [Int.toNat_natCast, add_at]; exact hc 0 _ rfl
    refine ⟨_, _, _, _, ⟨cell0, cell 1 _ rfl, cell 2 _ rfl, cell 3 _ rfl, trivial⟩, ?_⟩
    refine ⟨_, _, _, h23.at rfl rfl, rd_el LV.csl (by omega) (hj.kp0 h23.kp).l hkq jll fun b' o' ha' hc' => ?_⟩
    have cell' : ∀ j v, (q.live[k]).cs[j]? = some v → w3.cell? (Addr.add ((⟨b', o', none⟩ : Addr).add (Int.toNat (k : Int) * 4)) j) = some v := fun j v hv => by
      rw [Int.toNat_natCast, add_at, add_at]; exact hc' j v hv
    have cell0' : w3.cell? ((⟨b', o', none⟩ : Addr).add (Int.toNat (k : Int) * 4)) = some (.int .i64 (q.live[k]).tx) := by
      rw [Int.toNat_natCast, add_at]; exact hc' 0 _ rfl
    refine ⟨_, _, _, _, ⟨cell0', cell' 1 _ rfl, cell' 2 _ rfl, cell' 3 _ rfl, trivial⟩, fun kk => ?_⟩
    refine cond_not (cond_b (fun he => ?_) (fun hne => no' _ ((h13.kp).trans0 (Kp.drew w3 kk)) fun hh => by subst hh; simp at hne))
    have wk : IntKind.wrap .i64 ((k : Int) + 1) = ((k + 1 : Nat) : Int) := by rw [wrap_i64 (by omega) (by omega)]; omega
    refine ⟨⟨k3.trans0 (Kp.drew w3 kk), k + 1, by omega, wk, ?_⟩, by rw [wk]; simp only [Int.toNat_natCast]; omega⟩
    have hx : r.live[k] = q.live[k] := by
      generalize r.live[k] = x at he
      generalize q.live[k] = y at he
      obtain ⟨x1, x2, x3, x4⟩ := x
      obtain ⟨y1, y2, y3, y4⟩ := y
      simp only [Bool.and_true, Bool.and_eq_true, beq_iff_eq] at he
      obtain ⟨e1, e2, e3, e4⟩ := he
      subst e1 e2 e3 e4
      rfl
    rw [take_snoc_get _ k hkl, take_snoc_get _ k hkq, ht, hx]
  have hke : k = r.live.length := by omega
  subst hke
  rw [List.take_length, el, List.take_length] at ht
  refine loopN (fun s w4 => Kp no w2 w4 ∧ ∃ k : Nat, k ≤ r.dirty.length ∧ s.1 = (k : Int) ∧ r.dirty.take k = q.dirty.take k) (fun s _ => r.dirty.length - s.1.toNat) ⟨k3, 0, Nat.zero_le _, rfl, rfl⟩ ?_
  rintro ⟨k0, u⟩ w4 ⟨k4, k, hk, hk0, hd⟩ _
  dsimp only at hk0 ⊢
  subst hk0
  have h14 := h1.kp' k4
  have h24 := h2.kp' k4
  refine ⟨_, _, _, h14.at rfl rfl, cond_d (fun hlt => ?_) (fun hge => ?_)⟩
  · have hkl : k < r.dirty.length := by omega
    have hkq : k < q.dirty.length := by omega
    refine ⟨_, _, _, h14.at rfl rfl, rd_el DV.csl (by omega) (hi.kp0 h14.kp).d hkl hdl fun b o ha hc => ?_⟩
    have cell1 : w4.cell? (Addr.add ((⟨b, o, none⟩ : Addr).add (Int.toNat (k : Int) * 2)) 1) = some (.int .i64 (r.dirty[k]).since) := by
      rw [Int.toNat_natCast, add_at, add_at]; exact hc 1 _ rfl
    have cell0 : w4.cell? ((⟨b, o, none⟩ : Addr).add (Int.toNat (k : Int) * 2)) = some (.int .i64 (r.dirty[k]).page) := by
      rw [Int.toNat_natCast, add_at]; exact hc 0 _ rfl
    refine ⟨_, _, ⟨cell0, cell1, trivial⟩, ?_⟩
    refine ⟨_, _, _, h24.at rfl rfl, rd_el DV.csl (by omega) (hj.kp0 h24.kp).d hkq jdl fun b' o' ha' hc' => ?_⟩
    have cell1' : w4.cell? (Addr.add ((⟨b', o', none⟩ : Addr).add (Int.toNat (k : Int) * 2)) 1) = some (.int .i64 (q.dirty[k]).since) := by
      rw [Int.toNat_natCast, add_at, add_at]; exact hc' 1 _ rfl
    have cell0' : w4.cell? ((⟨b', o', none⟩ : Addr).add (Int.toNat (k : Int) * 2)) = some (.int .i64 (q.dirty[k]).page) := by
      rw [Int.toNat_natCast, add_at]; exact hc' 0 _ rfl
    refine ⟨_, _, ⟨cell0', cell1', trivial⟩, fun kk => ?_⟩
    refine cond_not (cond_b (fun he => ?_) (fun hne => no' _ ((h14.kp).trans0 (Kp.drew w4 kk)) fun hh => by subst hh; simp at hne))
    have wk : IntKind.wrap .i64 ((k : Int) + 1) = ((k + 1 : Nat) : Int) := by rw [wrap_i64 (by omega) (by omega)]; omega
    refine ⟨⟨k4.trans0 (Kp.drew w4 kk), k + 1, by omega, wk, ?_⟩, by rw [wk]; simp only [Int.toNat_natCast]; omega⟩
    have hx : r.dirty[k] = q.dirty[k] := by
      generalize r.dirty[k] = x at he
      generalize q.dirty[k] = y at he
      obtain ⟨x1, x2⟩ := x
      obtain ⟨y1, y2⟩ := y
      simp only [Bool.and_true, Bool.and_eq_true, beq_iff_eq] at he
      obtain ⟨e1, e2⟩ := he
      subst e1 e2
      rfl
    rw [take_snoc_get _ k hkl, take_snoc_get _ k hkq, hd, hx]
  have hke : k = r.dirty.length := by omega
  subst hke
  rw [List.take_length, ed, List.take_length] at hd
  have hrq : r = q := by
    obtain ⟨a0, a1, a2, a3, a4, a5, a6, a7, a8, a9, a10, a11, a12, a13, a14, aL, aD⟩ := r
    obtain ⟨b0, b1, b2, b3, b4, b5, b6, b7, b8, b9, b10, b11, b12, b13, b14, bL, bD⟩ := q
    simp only [Bool.and_true, Bool.and_eq_true, beq_iff_eq] at c0 c1 c2 c3 c4 c6 c8 c9 c16 ht hd
    obtain ⟨c4, c5⟩ := c4
    obtain ⟨c6, c7⟩ := c6
    obtain ⟨c9, c10, ⟨c11, c12⟩, c13⟩ := c9
    subst c0 c1 c2 c3 c4 c5 c6 c7 c8 c9 c10 c11 c12 c13 c16 ht hd
    rfl
  have := h w4 h14.kp
  rw [decide_eq_true hrq] at this
  exact this
def refV (at_ e : Int) : Value := .iface T_log_refusal (.agg #[.int .i64 at_, .int .i64 e])
def gaveL (at_ e : Int) : List PanicEntry := [{ v := refV at_ e, recovered := false }]
def Gv (at_ e : Int) (R : Po) (w : World) : Prop := R (.panicked (gaveL at_ e)) w
theorem asked_c {w : World} {e : Int} {R : Po} (ht : e = 0 → R (.returned (.tuple #[])) w) (hf : e ≠ 0 → Gv 0 e R w) : GoC Tryz.prog F_log_asked #[.int .i64 e] w R := by
  refine S_log_asked ?_
  unfold W_log_asked
  exact cond_ne (fun h => ⟨_, _, rfl, hf h⟩) ht
def ErrV (w : World) (v : Value) (z : ByteArray) (at_ n : Int) : Prop := (n = 0 ∧ v = .nilIface) ∨ (n ≠ 0 ∧ ∃ b, v = .iface T_p_api_Fault (.pointer (some ⟨b, 0, none⟩)) ∧ Blk w b #[.string z, .int .i64 at_, .iface T_api_Errno (.int .i64 n)] T_api_Fault)
def ErrF (w : World) (v : Value) : Prop := ∀ b, v = .iface T_p_api_Fault (.pointer (some ⟨b, 0, none⟩)) → w.heap.size ≤ b
def ErrO (ow : Nat → Nat) (t : Nat) (e : Value) : Prop := ∀ b, e = .iface T_p_api_Fault (.pointer (some ⟨b, 0, none⟩)) → ow b = t
theorem ErrV.kp {S : Nat → Prop} {w w' : World} {v : Value} {z : ByteArray} {a n : Int} (h : ErrV w v z a n) (k : Kp S w w') (hs : ∀ b, v = .iface T_p_api_Fault (.pointer (some ⟨b, 0, none⟩)) → ¬ S b) : ErrV w' v z a n := by
  rcases h with h | ⟨h0, b, hv, hb⟩
  · exact .inl h
  · exact .inr ⟨h0, b, hv, k.blk hb (hs b hv)⟩
theorem ErrV.fr {T : Nat → Prop} {w w' : World} {ow ow' : Nat → Nat} {e : Value} {z : ByteArray} {a n : Int} {t : Nat} (h : ErrV w e z a n) (ho : ErrO ow t e) (f : Fro T w ow w' ow') (hT : T t) : ErrV w' e z a n ∧ ErrO ow' t e := by
  refine ⟨h.kp f.kp fun b hb hh => hh (by rw [ho b hb]; exact hT), fun b hb => ?_⟩
  rcases h with ⟨_, rfl⟩ | ⟨h0, b', rfl, hb'⟩
  · cases hb
  · cases hb
    rw [f.ag _ hb'.lt (by rw [ho _ rfl]; exact hT)]
    exact ho _ rfl
theorem ErrO.nil (ow : Nat → Nat) (t : Nat) : ErrO ow t .nilIface := fun b hb => by cases hb
theorem ErrF.mono {w w1 : World} {v : Value} (h : ErrF w1 v) (hs : w.heap.size ≤ w1.heap.size) : ErrF w v := fun b hb => Nat.le_trans hs (h b hb)
theorem err_nil {w : World} {v : Value} {z : ByteArray} {a n : Int} (h : ErrV w v z a n) {K : Bool → Prop} (hK : K (decide (n = 0))) : IfNil v K := by
  rcases h with ⟨h0, rfl⟩ | ⟨h0, b, rfl, hb⟩
  · rw [decide_eq_true h0] at hK
    exact .inl ⟨rfl, hK⟩
  · rw [decide_eq_false h0] at hK
    exact .inr ⟨_, _, rfl, hK⟩
/-! ### The closure that recovers -/
theorem caught_back {k1 k2 : Nat} {K : World → Prop} {R : Po} {w : World} (h : K w) : DefE Tryz.prog F_log_caught_1 #[.pointer (some ⟨k1, 0, none⟩), .pointer (some ⟨k2, 0, none⟩)] .returning K R w := by
  refine D_log_caught_1_nil (u1 := .returning) (fun c₀ cs hm => .inr ⟨by cases c₀; dsimp only at hm; subst hm; rfl, rfl, rfl⟩) ?_
  unfold W_log_caught_1_nil
  exact .inl ⟨rfl, h⟩
theorem caught_pan {k1 k2 : Nat} {z : ByteArray} {x0 : Value} {a e : Int} {K : World → Prop} {R : Po} {w : World} (he : e ≠ 0) (h1 : Blk w k1 #[.string z] T_string) (h2 : Blk w k2 #[x0] T_error)
    (h : ∀ v' w', ErrV w' v' z a e → ErrF w v' → Blk w' k2 #[v'] T_error → Kp (fun j => j = k2) w w' → K w') :
    PanD Tryz.prog F_log_caught_1 #[.pointer (some ⟨k1, 0, none⟩), .pointer (some ⟨k2, 0, none⟩)] K R (gaveL a e) w := by
  refine D_log_caught_1 (t1 := T_log_refusal) (x1 := .agg #[.int .i64 a, .int .i64 e]) (u1 := .panicking [{ v := refV a e, recovered := true }]) (fun c₀ cs hm => .inl (by cases c₀; dsimp only at hm; subst hm; rfl)) ?_
  unfold W_log_caught_1
  refine .inr ⟨_, _, rfl, cond_t rfl (.inr ⟨_, _, rfl, .inl ⟨rfl, a, e, rfl, ?_⟩⟩)⟩
  refine AlF.intro fun b1 w1 hb1e hb1 k1' _ => StF.at rfl hb1 (by simp) fun w2 hb2 k2' _ => StF.at (add1 _ _) hb2 (by simp) fun w3 hb3 k3' s3 => ?_
  have k03 := kp_blk (kp_blk k1' (by omega) k2') (by omega) k3'
  have sz := k03.size
  have h1' := k03.blk h1 id
  have h2' := k03.blk h2 id
  have l1 := h1.lt
  have l2 := h2.lt
  refine ⟨z, h1'.at rfl rfl, a, hb3.at rfl rfl, e, hb3.at (add1 _ _) rfl, ?_⟩
  refine AlF.intro fun b4 w4 hb4e hb4 k4' _ => StF.at rfl (k4'.blk h2' id) (by simp) fun w5 hb5 k5' _ => ?_
  have hne : b4 ≠ k2 := by omega
  exact h _ w5 (.inr ⟨he, b4, rfl, k5'.blk hb4 hne⟩) (fun b hb => by cases hb; omega) hb5 ((k03.trans0 k4').of_no.trans0 k5')
def fits (len : Nat) (at_ size : Int) : Prop := 1 ≤ size ∧ size ≤ 8 ∧ 0 ≤ at_ ∧ at_ + size ≤ len
instance (len : Nat) (at_ size : Int) : Decidable (fits len at_ size) := by unfold fits; exact inferInstance
theorem place_c {w : World} {len : Nat} {at_ size : Int} {R : Po} (hl : (len : Int) ≤ 9223372036854775807)
    (h : R (.returned (.bool (decide (fits len at_ size)))) w) : GoC Tryz.prog F_field_place #[.int .i64 (len : Int), .int .i64 at_, .int .i64 size] w R := by
  refine S_field_place ?_
  unfold W_field_place
  have no_ : ¬ fits len at_ size → R (.returned (.bool false)) w := fun hn => by rwa [decide_eq_false hn] at h
  refine cond_d (fun h1 => cond_d (fun h2 => cond_d (fun h3 => cond_d (fun h4 => ?_) fun h4 => no_ ?_) fun h3 => no_ ?_) fun h2 => no_ ?_) fun h1 => no_ ?_
  · rw [wrap_i64 (by omega) (by omega)]
    have : decide (at_ ≤ (len : Int) - size) = decide (fits len at_ size) := by
      congr 1
      unfold fits
      apply propext
      constructor
      · intro hh; omega
      · intro hh; omega
    rw [this]
    exact h
  all_goals unfold fits; omega
theorem leB8_get : ∀ s n k, k < s → (leB8 s n)[k]? = some (UInt8.ofNat (n / 256 ^ k % 256))
  | 0, _, _, h => by omega
  | s + 1, n, 0, _ => by simp [leB8]
  | s + 1, n, k + 1, h => by
    simp only [leB8, List.getElem?_cons_succ]
    rw [leB8_get s (n / 256) k (by omega), Nat.div_div_eq_div_mul, Nat.pow_succ, Nat.mul_comm 256]
theorem pow256 (k : Nat) : 256 ^ k = 2 ^ (8 * k) := by rw [Nat.pow_mul]
def over (l : List UInt8) (i : Nat) (x : List UInt8) : List UInt8 := l.take i ++ x ++ l.drop (i + x.length)
theorem over_len {l x : List UInt8} {i : Nat} (h : i + x.length ≤ l.length) : (over l i x).length = l.length := by
  simp [over]; omega
theorem over_set {l x : List UInt8} {i : Nat} {c : UInt8} (h : i + x.length < l.length) : (over l i x).set (i + x.length) c = over l i (x ++ [c]) := by
  unfold over
  have hl : (l.take i ++ x).length = i + x.length := by simp; omega
  rw [List.set_append_right _ _ (by omega), hl, Nat.sub_self]
  have : l.drop (i + x.length) = l[i + x.length] :: l.drop (i + x.length + 1) := List.drop_eq_getElem_cons h
  rw [this]
  simp [Nat.add_assoc]
def getR (bs : List UInt8) (at_ size : Int) : Nat × Nat := if fits bs.length at_ size then (leN ((bs.drop at_.toNat).take size.toNat), 0) else (0, 4)
theorem get_c {w : World} {a : Option Addr} {c : Nat} {bs : List UInt8} {at_ size : Int} {R : Po} (hr : Rd w a (bvs bs)) (hb : bs.length < 70368744177664)
    (h : R (.returned (.tuple #[.int .u64 ((getR bs at_ size).1 : Int), .int .i64 ((getR bs at_ size).2 : Int)])) w) :
    GoC Tryz.prog F_field_Get #[.slice a bs.length c, .int .i64 at_, .int .i64 size] w R := by
  refine S_field_Get ?_
  unfold W_field_Get
  refine place_c (by omega) ⟨_, rfl, ?_⟩
  by_cases hf : fits bs.length at_ size
  · have hf' := hf
    obtain ⟨h1, h2, h3, h4⟩ := hf'
    rw [decide_eq_true hf]
    refine cond_f (t := !true) rfl ?_
    have hR : R (.returned (.tuple #[.int .u64 (leN ((bs.drop at_.toNat).take size.toNat) : Int), .int .i64 0])) w := by
      unfold getR at h
      rw [if_pos hf] at h
      exact h
    obtain ⟨i, rfl⟩ := Int.eq_ofNat_of_zero_le h3
    obtain ⟨s, rfl⟩ := Int.eq_ofNat_of_zero_le (show 0 ≤ size by omega)
    simp only [Int.toNat_natCast] at hR
    refine loopN (fun st w1 => w1 = w ∧ ∃ k : Nat, k ≤ s ∧ st.2.1 = (k : Int) ∧ st.1 = (leN ((bs.drop i).take k) : Int)) (fun st _ => s - st.2.1.toNat) ⟨rfl, 0, Nat.zero_le _, rfl, by simp [leN]⟩ ?_
    rintro ⟨n, kk, u⟩ w1 ⟨rfl, k, hk, hkk, hn⟩ _
    dsimp only at hkk hn ⊢
    subst hkk hn
    refine cond_d (fun hlt => ?_) (fun hge => ?_)
    · have hki : i + k < bs.length := by omega
      have hw1 : IntKind.wrap .i64 ((i : Int) + (k : Int)) = ((i + k : Nat) : Int) := by rw [wrap_i64 (by omega) (by omega)]; omega
      have hw2 : IntKind.wrap .i64 (8 * (k : Int)) = ((8 * k : Nat) : Int) := by rw [wrap_i64 (by omega) (by omega)]; omega
      have hw3 : IntKind.wrap .i64 ((k : Int) + 1) = ((k + 1 : Nat) : Int) := by rw [wrap_i64 (by omega) (by omega)]; omega
      rw [hw1, hw2, hw3]
      refine hr.idx (by omega) (by omega) (by rw [bvs_len]; omega) fun b o hg hc => ?_
      refine ⟨((bs[i + k]).toNat : Int), ?_, by omega, ⟨rfl, k + 1, by omega, rfl, ?_⟩, by simp only [Int.toNat_natCast]; omega⟩
      · rw [Int.toNat_natCast, add_at]
        exact hc _ _ (bvs_get hki)
      · have hx := u8_lt bs[i + k]
        have hlen : ((bs.drop i).take k).length = k := by rw [List.length_take, List.length_drop]; omega
        have hlt2 : leN ((bs.drop i).take k) < 2 ^ (8 * k) := by
          have := leN_lt ((bs.drop i).take k)
          rwa [hlen, pow256] at this
        rw [wrap_nat rfl (by simp only [IntKind.bits]; omega), shlV_nat rfl (by simp only [IntKind.bits]; omega)]
        simp only [IntKind.bits]
        have hs : (bs[i + k]).toNat * 2 ^ (8 * k) < 2 ^ 64 := by
          calc (bs[i + k]).toNat * 2 ^ (8 * k) < 2 ^ 8 * 2 ^ (8 * k) := Nat.mul_lt_mul_of_pos_right hx (Nat.two_pow_pos _)
            _ = 2 ^ (8 + 8 * k) := by rw [Nat.pow_add]
            _ ≤ 2 ^ 64 := Nat.pow_le_pow_right (by omega) (by omega)
        rw [Nat.mod_eq_of_lt hs]
        have h64 : leN ((bs.drop i).take k) < 2 ^ 64 := Nat.lt_of_lt_of_le hlt2 (Nat.pow_le_pow_right (by omega) (by omega))
        rw [orV_nat rfl h64 hs, or_shift hlt2]
        have hd : k < (bs.drop i).length := by rw [List.length_drop]; omega
        rw [take_snoc_get _ k hd, leN_snoc, hlen, pow256]
        simp
    · have hks : k = s := by omega
      subst hks
      exact hR
  · rw [decide_eq_false hf]
    refine cond_t (t := !false) rfl ?_
    unfold getR at h
    rw [if_neg hf] at h
    exact h
def putR (bs : List UInt8) (at_ size : Int) (n : Nat) : List UInt8 × Nat :=
  if fits bs.length at_ size then (if n < 256 ^ size.toNat then (over bs at_.toNat (leB8 size.toNat n), 0) else (bs, 23)) else (bs, 4)
theorem put_c {w : World} {b o c : Nat} {cur : Array Value} {T : TypeId} {bs : List UInt8} {at_ size : Int} {n : Nat} {R : Po} (hblk : Blk w b cur T) (hcur : ∀ i v, (bvs bs)[i]? = some v → cur[o + i]? = some v)
    (hb : bs.length < 70368744177664) (hn : n < 18446744073709551616)
    (h : ∀ cur' w', Blk w' b cur' T → cur'.size = cur.size → (∀ i v, (bvs (putR bs at_ size n).1)[i]? = some v → cur'[o + i]? = some v) → (∀ i, (i < o ∨ o + bs.length ≤ i) → cur'[i]? = cur[i]?) → Kp (fun k => k = b) w w' →
      R (.returned (.int .i64 ((putR bs at_ size n).2 : Int))) w') :
    GoC Tryz.prog F_field_Put #[.slice (some ⟨b, o, none⟩) bs.length c, .int .i64 at_, .int .i64 size, .int .u64 (n : Int)] w R := by
  refine S_field_Put ?_
  unfold W_field_Put
  refine place_c (by omega) ⟨_, rfl, ?_⟩
  by_cases hf : fits bs.length at_ size
  · have hf' := hf
    obtain ⟨h1, h2, h3, h4⟩ := hf'
    rw [decide_eq_true hf]
    refine cond_f (t := !true) rfl ?_
    obtain ⟨i, rfl⟩ := Int.eq_ofNat_of_zero_le h3
    obtain ⟨s, rfl⟩ := Int.eq_ofNat_of_zero_le (show 0 ≤ size by omega)
    have hw8 : IntKind.wrap .i64 (8 * (s : Int)) = ((8 * s : Nat) : Int) := by rw [wrap_i64 (by omega) (by omega)]; omega
    rw [hw8]
    have loop : n < 256 ^ s → LoopF (S := Int × Unit) ((0 : Int), ()) w fun s6 w2 Next6 => ∀ _J : Env, cond (decide (s6.1 < (s : Int))) (NnF (IntKind.wrap .i64 ((8 : Int) * s6.1)) (IdxF (some ⟨b, o, none⟩) (IntKind.wrap .i64 ((i : Int) + s6.1)) bs.length fun d1 =>
        StF w2 (d1.add (Int.toNat (IntKind.wrap .i64 ((i : Int) + s6.1)))) (.int .u8 (IntKind.wrap .u8 (shrV .u64 (n : Int) (IntKind.wrap .i64 ((8 : Int) * s6.1))))) fun w3 => Next6 ((IntKind.wrap .i64 (s6.1 + (1 : Int))), ()) w3)) (R (.returned (.int .i64 (0 : Int))) w2) := by
      intro hns
      have hput : putR bs (i : Int) (s : Int) n = (over bs i (leB8 s n), 0) := by
        unfold putR
        rw [if_pos hf, Int.toNat_natCast, Int.toNat_natCast, if_pos hns]
      rw [hput] at h
      refine loopN (fun st w1 => ∃ k : Nat, k ≤ s ∧ st.1 = (k : Int) ∧ ∃ cur', Blk w1 b cur' T ∧ cur'.size = cur.size ∧ (∀ j v, (bvs (over bs i ((leB8 s n).take k)))[j]? = some v → cur'[o + j]? = some v) ∧ (∀ j, (j < o ∨ o + bs.length ≤ j) → cur'[j]? = cur[j]?) ∧ Kp (fun k => k = b) w w1) (fun st _ => s - st.1.toNat)
        ⟨0, Nat.zero_le _, rfl, cur, hblk, rfl, by simpa [over] using hcur, fun _ _ => rfl, Kp.refl _ _⟩ ?_
      rintro ⟨kk, u⟩ w1 ⟨k, hk, hkk, cur', hb', hsz, hc', hrest, k1⟩ _
      dsimp only at hkk ⊢
      subst hkk
      have hl8 := leB8_len s n
      refine cond_d (fun hlt => ?_) (fun hge => ?_)
      · have hki : i + k < bs.length := by omega
        have hw1 : IntKind.wrap .i64 ((i : Int) + (k : Int)) = ((i + k : Nat) : Int) := by rw [wrap_i64 (by omega) (by omega)]; omega
        have hw2 : IntKind.wrap .i64 (8 * (k : Int)) = ((8 * k : Nat) : Int) := by rw [wrap_i64 (by omega) (by omega)]; omega
        have hw3 : IntKind.wrap .i64 ((k : Int) + 1) = ((k + 1 : Nat) : Int) := by rw [wrap_i64 (by omega) (by omega)]; omega
        rw [hw1, hw2, hw3]
        have htl : ((leB8 s n).take k).length = k := by rw [List.length_take]; omega
        have hol : (over bs i ((leB8 s n).take k)).length = bs.length := over_len (by omega)
        have hin : o + (i + k) < cur'.size := by
          have := hc' (i + k) _ (bvs_get (by rw [hol]; exact hki))
          exact (Array.getElem?_eq_some_iff.1 this).1
        refine ⟨by omega, by omega, by omega, _, rfl, ?_⟩
        dsimp only
        rw [Int.toNat_natCast, add_at]
        have hval : (Value.int .u8 (IntKind.wrap .u8 (shrV .u64 (n : Int) ((8 * k : Nat) : Int)))) = bv (UInt8.ofNat (n / 256 ^ k % 256)) := by
          rw [shrV_nat (by simp only [IntKind.bits]; omega), u8_mod, pow256]
          exact bv_of (by omega)
        rw [hval]
        refine StF.intro hb' hin fun w2 hb2 k2 _ => ⟨⟨k + 1, by omega, rfl, _, hb2, by simpa using hsz, ?_, ?_, k1.trans0 k2⟩, by simp only [Int.toNat_natCast]; omega⟩
        · intro j v hv
          have hk8 : (leB8 s n)[k]? = some (UInt8.ofNat (n / 256 ^ k % 256)) := leB8_get s n k (by omega)
          have htk : (leB8 s n).take (k + 1) = (leB8 s n).take k ++ [UInt8.ofNat (n / 256 ^ k % 256)] := by
            rw [List.take_add_one, hk8]; rfl
          rw [htk, ← over_set (by omega), htl, bvs, List.map_set] at hv
          by_cases hj : j = i + k
          · subst hj
            rw [List.getElem?_set_self (by rw [List.length_map, hol]; exact hki)] at hv
            rw [Array.getElem?_setIfInBounds_self_of_lt hin]
            exact hv
          · rw [List.getElem?_set_ne (by omega)] at hv
            rw [Array.getElem?_setIfInBounds_ne (by omega)]
            exact hc' j v hv
        · intro j hj
          rw [Array.getElem?_setIfInBounds_ne (by omega)]
          exact hrest j hj
      · have hks : k = s := by omega
        subst hks
        rw [List.take_of_length_le (by omega)] at hc'
        exact h cur' w1 hb' hsz hc' hrest k1
    have shr : shrV .u64 (n : Int) ((8 * s : Nat) : Int) = ((n / 256 ^ s : Nat) : Int) := by rw [shrV_nat (by simp only [IntKind.bits]; omega), pow256]
    refine cond_d (fun hs8 => ⟨by omega, ?_⟩) (fun hs8 => loop ?_)
    · rw [shr]
      refine cond_ne (fun hne => ?_) (fun he => loop ?_)
      · have hput : putR bs (i : Int) (s : Int) n = (bs, 23) := by
          unfold putR
          rw [if_pos hf, Int.toNat_natCast, Int.toNat_natCast, if_neg]
          intro hlt
          rw [Nat.div_eq_of_lt hlt] at hne
          exact hne rfl
        rw [hput] at h
        exact h cur w hblk rfl hcur (fun _ _ => rfl) (Kp.refl _ _)
      · have he' : n / 256 ^ s = 0 := by omega
        exact (Nat.div_eq_zero_iff_lt (Nat.pow_pos (by omega))).1 he'
    · have : s = 8 := by omega
      subst this
      exact Nat.lt_of_lt_of_le hn (by decide)
  · rw [decide_eq_false hf]
    refine cond_t (t := !false) rfl ?_
    have hput : putR bs at_ size n = (bs, 4) := by unfold putR; rw [if_neg hf]
    rw [hput] at h
    exact h cur w hblk rfl hcur (fun _ _ => rfl) (Kp.refl _ _)
structure SI where
  a : Option Addr
  l : Nat
  c : Nat
def siV (x : SI) : Value := .slice x.a x.l x.c
def SlQ (w : World) (ow : Nat → Nat) (e : TypeId) (s : Nat) (a : Option Addr) (l c : Nat) (xs : List Value) (t : Nat) : Prop := SlT w ow e s a l c xs t ∨ (c = l ∧ 0 < l ∧ ∃ c', SlT w ow e s a l c' xs t)
theorem SlT.q {w : World} {ow : Nat → Nat} {e : TypeId} {s l c t : Nat} {a : Option Addr} {xs : List Value} (h : SlT w ow e s a l c xs t) : SlQ w ow e s a l c xs t := .inl h
section
variable {w w' : World} {ow ow' : Nat → Nat} {e : TypeId} {s l c t : Nat} {a : Option Addr} {xs : List Value}
theorem SlQ.ex (h : SlQ w ow e s a l c xs t) : ∃ c', SlT w ow e s a l c' xs t := by
  rcases h with h | ⟨_, _, c', h⟩
  · exact ⟨c, h⟩
  · exact ⟨c', h⟩
theorem SlQ.addr (h : SlQ w ow e s a l c xs t) (hl : 0 < l) : ∃ b, a = some ⟨b, 0, none⟩ := by
  obtain ⟨c', h⟩ := h.ex
  obtain ⟨b, cur, ha, _⟩ := h.sl.addr hl
  exact ⟨b, ha⟩
theorem SlQ.put (h : SlQ w ow e s a l c xs t) {i : Nat} (hi : i < l * s) {b o : Nat} (ha : a = Option.some ⟨b, o, none⟩) {v : Value} {ad : Addr} (had : ad = ⟨b, o + i, none⟩) {K : World → Prop}
    (hK : ∀ w', SlQ w' ow e s a l c (xs.set i v) t → Fro (fun u => u ≠ t) w ow w' ow → K w') : StF w ad v K := by
  have h0 : 0 < l := by
    rcases Nat.eq_zero_or_pos l with h0 | h0
    · rw [h0] at hi; simp at hi
    · exact h0
  obtain ⟨b', ha'⟩ := h.addr h0
  rw [ha'] at ha
  cases ha
  subst ha'
  have go : ∀ c'', SlT w ow e s (Option.some ⟨b, 0, none⟩) l c'' xs t → (∀ w', SlT w' ow e s (Option.some ⟨b, 0, none⟩) l c'' (xs.set i v) t → Fro (fun u => u ≠ t) w ow w' ow → K w') → StF w ad v K := fun c'' hx hK' =>
    hx.sl.putv hi (by rw [had, Nat.zero_add]) fun w' hs' k' s' => hK' w' ⟨hs', hx.tg⟩ (Fro.of_kp' k' fun b' _ hb' hne => hne (hx.tg b' hb'))
  rcases h with h | ⟨h1, h2, c', h⟩
  · exact go c h fun w' hx f => hK w' (.inl hx) f
  · exact go c' h fun w' hx f => hK w' (.inr ⟨h1, h2, c', hx⟩) f
end
section
variable {P : Program}
end
section
variable {T : Nat → Prop} {w w' : World} {ow ow' : Nat → Nat} {e : TypeId} {s base : Nat} {G : List SI} {C : Nat → List Value}
end
theorem siA {w : World} {ga : Option Addr} {G : List SI} (h : Rd w ga (G.map siV)) {k : Nat} (hk : k < G.length) : ∃ b o, ga = some ⟨b, o, none⟩ ∧ w.cell? ((⟨b, o, none⟩ : Addr).add k) = some (.slice (G[k]).a (G[k]).l (G[k]).c) := by
  obtain ⟨b, o, ha, hc⟩ := h k (siV G[k]) (by simp [hk])
  exact ⟨b, o, ha, by rw [add_at]; exact hc⟩
theorem siI {w : World} {ga : Option Addr} {G : List SI} (h : Rd w ga (G.map siV)) {k : Nat} (hk : k < G.length) {n : Int} (hn : n = (k : Int)) {l : Nat} (hl : G.length = l) {K : Option Addr → Nat → Nat → Prop} (hK : K (G[k]).a (G[k]).l (G[k]).c) :
    IdxF ga n l fun d => ∃ (a : Option Addr) (l c : Nat), w.cell? (d.add (Int.toNat n)) = some (.slice a l c) ∧ K a l c := by
  subst hn
  obtain ⟨b, o, ha, hc⟩ := siA h hk
  exact ⟨by omega, by omega, _, ha, _, _, _, by rw [Int.toNat_natCast]; exact hc, hK⟩
theorem siIS {S : World → Prop} {w0 : World} (h0 : S w0) {ga : Option Addr} {G : List SI} (h : ∀ w, S w → Rd w ga (G.map siV)) {k : Nat} (hk : k < G.length) {n : Int} (hn : n = (k : Int)) {l : Nat} (hl : G.length = l) {K : Option Addr → Nat → Nat → Prop} (hK : K (G[k]).a (G[k]).l (G[k]).c) :
    IdxF ga n l fun d => ∃ (a : Option Addr) (l c : Nat), (∀ w, S w → w.cell? (d.add (Int.toNat n)) = some (.slice a l c)) ∧ K a l c := by
  subst hn
  obtain ⟨b, o, ha, hc⟩ := siA (h w0 h0) hk
  refine ⟨by omega, by omega, _, ha, _, _, _, fun w hw => ?_, hK⟩
  obtain ⟨b', o', ha', hc'⟩ := siA (h w hw) hk
  rw [ha] at ha'
  cases ha'
  rw [Int.toNat_natCast]
  exact hc'
theorem rdI {w : World} {a : Option Addr} {xs : List Value} (h : Rd w a xs) {i : Nat} {v : Value} (hv : xs[i]? = some v) {n : Int} (hn : n = (i : Int)) {l : Nat} (hi : i < l) {K : Addr → Prop} (hK : ∀ b o, a = some ⟨b, o, none⟩ → w.cell? ((⟨b, o, none⟩ : Addr).add (Int.toNat n)) = some v → K ⟨b, o, none⟩) : IdxF a n l K := by
  subst hn
  obtain ⟨b, o, ha, hc⟩ := h i v hv
  exact ⟨by omega, by omega, _, ha, hK b o ha (by rw [Int.toNat_natCast, add_at]; exact hc)⟩
section
variable {P : Program}
theorem pushT {t e ty : TypeId} {z : Value} {by_ : Nat} (hr : ElemRow P t e z 1 by_) {w : World} {ow : Nat → Nat} {a : Option Addr} {l c u : Nat} {xs : List Value} (hs : SlT w ow e 1 a l c xs u) {v : Value} (hv : v.oneCell' = true)
    (h63 : l + 1 ≤ 9223372036854775807) (hb : (l + 1) * by_ ≤ 140737488355328) {K : Option Addr → Nat → Nat → World → Prop}
    (h : ∀ a' c' w', SlT w' (ext ow w.heap.size u) e 1 a' (l + 1) c' (xs ++ [v]) u → Kp (Is a) w w' → Fro (fun x => x ≠ u) w ow w' (ext ow w.heap.size u) → K a' (l + 1) c' w') :
    AlF w (.cells #[v] e) fun b w2 => RunF P (Builtin.append_ #[t, t] ty #[.slice a l c, .slice (some ⟨b, 0, none⟩) 1 1]) w2 fun r w3 => ∃ (a2 : Option Addr) (l2 c2 : Nat), r = .slice a2 l2 c2 ∧ K a2 l2 c2 w3 := by
  refine push_own hr hs.sl hv h63 hb fun a' c' w' hs' k' hi => h a' c' w' ⟨hs', fun j hj => ?_⟩ k' (Fro.of_kp u k' fun b _ hb' hne => hne (hs.tg b hb'))
  by_cases hl : j < w.heap.size
  · rw [ext_old hl]
    rcases hi j hj with hh | hh
    · exact hs.tg j hh
    · omega
  · exact ext_new (by omega)
end
def B8 (w : World) (b : Nat) (img : List UInt8) : Prop := ∃ cur, Blk w b cur T_uint8 ∧ cur.toList = bvs img
theorem B8.sz {w : World} {b : Nat} {img : List UInt8} {cur : Array Value} (hc : cur.toList = bvs img) : cur.size = img.length := by rw [← Array.length_toList, hc, bvs_len]
theorem B8.sl {w : World} {b : Nat} {img : List UInt8} (h : B8 w b img) : Sl w T_uint8 1 (some ⟨b, 0, none⟩) img.length img.length (bvs img) := by
  obtain ⟨cur, hb, hc⟩ := h
  refine ⟨by rw [bvs_len, Nat.mul_one], Nat.le_refl _, .inr ⟨b, cur, rfl, hb, by rw [B8.sz (w := w) (b := b) hc, Nat.mul_one], ?_⟩⟩
  rw [hc, List.take_of_length_le (by rw [bvs_len]; omega)]
theorem B8.of {w : World} {b : Nat} {img : List UInt8} (h : Sl w T_uint8 1 (some ⟨b, 0, none⟩) img.length img.length (bvs img)) : B8 w b img := by
  obtain ⟨h1, h2, h3⟩ := h
  rcases h3 with ⟨h3, _⟩ | ⟨b', cur, ha, hb, hs, ht⟩
  · cases h3
  cases ha
  refine ⟨cur, hb, ?_⟩
  rw [List.take_of_length_le (by rw [Array.length_toList]; omega)] at ht
  exact ht
theorem B8.st {w : World} {b i : Nat} {img : List UInt8} {x : UInt8} {K : World → Prop} {ad : Addr} (h : B8 w b img) (hi : i < img.length) (had : ad = ⟨b, i, none⟩)
    (hk : ∀ w', B8 w' b (img.set i x) → Kp (fun j => j = b) w w' → K w') : StF w ad (bv x) K := by
  obtain ⟨cur, hb, hc⟩ := h
  refine StF.at had hb (by rw [B8.sz (w := w) (b := b) hc]; exact hi) fun w' hb' k' _ => hk w' ⟨_, hb', ?_⟩ k'
  rw [Array.toList_setIfInBounds, hc, bvs_set]
theorem over_ovr (l : List UInt8) (i : Nat) (x : List UInt8) : over l i x = ovr l i x := rfl
theorem putR_ok {bs : List UInt8} {i s n : Nat} (hs : 1 ≤ s) (hs8 : s ≤ 8) (h : i + s ≤ bs.length) (hn : n < 256 ^ s) : putR bs (i : Int) (s : Int) n = (over bs i (leB8 s n), 0) := by
  unfold putR
  rw [if_pos (by unfold fits; omega), Int.toNat_natCast, Int.toNat_natCast, if_pos hn]
theorem B8.put {w : World} {b i s n l c : Nat} {img : List UInt8} {R : Po} (h : B8 w b img) (hl : img.length = l) (hl2 : l < 1000000) (hs : 1 ≤ s) (hs8 : s ≤ 8) (hi : i + s ≤ l) (hn : n < 256 ^ s) {I S : Int} (hI : I = (i : Int)) (hS : S = (s : Int))
    (hk : ∀ w', B8 w' b (over img i (leB8 s n)) → Kp (fun j => j = b) w w' → R (.returned (.int .i64 0)) w') :
    GoC Tryz.prog F_field_Put #[.slice (some ⟨b, 0, none⟩) l c, .int .i64 I, .int .i64 S, .int .u64 (n : Int)] w R := by
  subst hl hI hS
  obtain ⟨cur, hb, hc⟩ := h
  have hp := putR_ok (bs := img) hs hs8 hi hn
  have hn64 : n < 18446744073709551616 := Nat.lt_of_lt_of_le hn (Nat.le_trans (Nat.pow_le_pow_right (by omega) hs8) (by decide))
  refine put_c (o := 0) hb (fun i v hv => by rw [Nat.zero_add, ← Array.getElem?_toList, hc]; exact hv) (by omega) hn64 fun cur' w' hb' hsz hc' hrest k' => ?_
  rw [hp] at hc' ⊢
  refine hk w' ⟨cur', hb', ?_⟩ k'
  have hol : (over img i (leB8 s n)).length = img.length := over_len (by rw [leB8_len]; exact hi)
  have hsz0 := B8.sz (w := w) (b := b) hc
  apply List.ext_getElem?
  intro j
  by_cases hj : j < img.length
  · rw [bvs_get (by rw [hol]; exact hj), Array.getElem?_toList]
    have := hc' j _ (bvs_get (by dsimp only; rw [hol]; exact hj))
    rwa [Nat.zero_add] at this
  · rw [List.getElem?_eq_none (by rw [Array.length_toList]; omega), List.getElem?_eq_none (by rw [bvs_len]; omega)]
theorem number_c {w : World} {a : Option Addr} {l c i s : Nat} {bs : List UInt8} {I S : Int} {R : Po} (hr : Rd w a (bvs bs)) (hl : bs.length = l) (hl2 : l < 1000000) (hs : 1 ≤ s) (hs4 : s ≤ 4) (hi : i + s ≤ l) (hI : I = (i : Int)) (hS : S = (s : Int))
    (h : R (.returned (.int .i64 ((leN ((bs.drop i).take s) : Nat) : Int))) w) : GoC Tryz.prog F_log_number #[.slice a l c, .int .i64 I, .int .i64 S] w R := by
  subst hl hI hS
  refine S_log_number ?_
  unfold W_log_number
  refine get_c hr (by omega) ⟨_, _, rfl, ?_⟩
  have hg : getR bs (i : Int) (s : Int) = (leN ((bs.drop i).take s), 0) := by
    unfold getR
    rw [if_pos (by unfold fits; omega), Int.toNat_natCast, Int.toNat_natCast]
  rw [hg]
  have hlt := leN_lt ((bs.drop i).take s)
  have h2 : 256 ^ ((bs.drop i).take s).length ≤ 256 ^ 4 := Nat.pow_le_pow_right (by omega) (by rw [List.length_take]; omega)
  have h3 : (256 : Nat) ^ 4 = 4294967296 := by decide
  rw [wrap_i64 (by dsimp only; omega) (by dsimp only; omega)]
  exact h
set_option maxRecDepth 100000 in
theorem lay1 (n m : Nat) : over (over ((List.replicate 512 (0 : UInt8)).set 0 108) 1 (leB8 4 n)) 5 (leB8 2 m) = (108 :: (leB8 4 n ++ leB8 2 m)) ++ List.replicate 505 0 := rfl
theorem lay2 (n : Nat) (bs : List UInt8) (h : bs.length ≤ 502) : (ovr (secH n bs ++ List.replicate 505 0) 7 bs).set 511 165 = secB n bs := by
  have h7 := secH_len n bs
  have e1 : (secH n bs ++ List.replicate 505 (0 : UInt8)).take 7 = secH n bs := by rw [List.take_append_of_le_length (by omega), List.take_of_length_le (by omega)]
  have e2 : (secH n bs ++ List.replicate 505 (0 : UInt8)).drop (7 + bs.length) = List.replicate (504 - bs.length) 0 ++ [0] := by
    rw [← List.drop_drop, List.drop_append_of_le_length (Nat.le_of_eq h7.symm), List.drop_eq_nil_of_le (Nat.le_of_eq h7), List.nil_append, List.drop_replicate, show 505 - bs.length = (504 - bs.length) + 1 by omega, List.replicate_succ']
  unfold ovr secB
  rw [e1, e2, List.append_assoc, ← List.append_assoc bs, ← List.append_assoc (secH n bs), List.set_append_right _ _ (by simp; omega)]
  have e3 : 511 - (secH n bs ++ (bs ++ List.replicate (504 - bs.length) (0 : UInt8))).length = 0 := by simp; omega
  rw [e3, List.set_cons_zero, List.append_assoc, List.append_assoc]
theorem laid_c {w : World} {a : Option Addr} {n l c : Nat} {bs : List UInt8} {R : Po} (hr : Rd w a (bvs bs)) (hl : bs.length = l) (hl2 : l ≤ 502) (h0 : a = none → l = 0) (hn : n < 4294967296)
    (h : ∀ b w', B8 w' b (secB n bs) → Kp no w w' → w.heap.size ≤ b → R (.returned (.slice (some ⟨b, 0, none⟩) 512 512)) w') : GoC Tryz.prog F_log_laid #[.int .i64 (n : Int), .slice a l c] w R := by
  subst hl
  refine S_log_laid ?_
  unfold W_log_laid
  refine make_u8 (n := 512) (by omega) fun b w1 cur hb1 hcur k1 hbe => ⟨_, _, _, rfl, ?_⟩
  have x1 : B8 w1 b (List.replicate 512 0) := ⟨cur, hb1, hcur⟩
  have hge : w.heap.size ≤ b := by omega
  refine ⟨by decide, by decide, _, rfl, ?_⟩
  refine x1.st (i := 0) (x := 108) (by rw [List.length_replicate]; omega) rfl fun w2 x2 k2 => ?_
  have k02 := kp_blk k1 hge k2
  have l2 : ((List.replicate 512 (0 : UInt8)).set 0 108).length = 512 := by rw [List.length_set, List.length_replicate]
  have wn : IntKind.wrap .u64 (n : Int) = (n : Int) := wrap_u64 (by omega) (by omega)
  have wl : IntKind.wrap .u64 (((bs.length : Nat)) : Int) = (bs.length : Int) := wrap_u64 (by omega) (by omega)
  rw [wn, wl]
  refine x2.put (i := 1) (s := 4) l2 (by omega) (by omega) (by omega) (by omega) hn rfl rfl fun w3 x3 k3 => ⟨_, rfl, ?_⟩
  have l3 : (over ((List.replicate 512 (0 : UInt8)).set 0 108) 1 (leB8 4 n)).length = 512 := by rw [over_len (by rw [leB8_len]; omega), l2]
  refine x3.put (i := 5) (s := 2) l3 (by omega) (by omega) (by omega) (by omega) (by omega) rfl rfl fun w4 x4 k4 => ⟨_, rfl, ?_⟩
  have k04 := kp_blk (kp_blk k02 hge k3) hge k4
  rw [lay1] at x4
  have x4 : B8 w4 b (secH n bs ++ List.replicate 505 0) := x4
  have l4 : (secH n bs ++ List.replicate 505 (0 : UInt8)).length = 512 := by rw [List.length_append, secH_len, List.length_replicate]
  have s4 := x4.sl
  rw [l4] at s4
  refine ⟨trivial, by show (0 : Int) ≤ 7 ∧ (7 : Int) ≤ ((512 : Nat) : Int); omega, ?_⟩
  refine copy_own (ow := fun _ => 0) (t := 0) (o := 7) (dl := 505) ⟨s4, fun _ _ => rfl⟩ (hr.kp0 k04) (fun hh => List.eq_nil_of_length_eq_zero (h0 hh)) (by omega) (by omega) fun w5 s5 k5 f5 => ⟨_, rfl, ?_⟩
  have l5 : (ovr (secH n bs ++ List.replicate 505 (0 : UInt8)) 7 bs).length = 512 := by rw [ovr_len (by omega), l4]
  have x5 : B8 w5 b (ovr (secH n bs ++ List.replicate 505 0) 7 bs) := B8.of (by rw [l5]; exact s5.sl)
  have k05 : Kp no w w5 := k04.trans k5 (fun _ _ h => h) fun j hj hh => by obtain ⟨_, he, rfl⟩ := hh; cases he; exact absurd hj (by show ¬ b < w.heap.size; omega)
  refine ⟨by decide, by decide, _, rfl, ?_⟩
  refine x5.st (i := 511) (x := 165) (by omega) (by rw [add_at]; rfl) fun w6 x6 k6 => ?_
  rw [lay2 n bs hl2] at x6
  exact h b w6 x6 (kp_blk k05 hge k6) hge
/-! ### Is a sector blank? -/
theorem index_c {w : World} {a : Option Addr} {l c : Nat} {bs : List UInt8} {f : FuncId} {p : UInt8 → Bool} {R : Po} (hr : Rd w a (bvs bs)) (hl : bs.length = l) (hb : l < 70368744177664)
    (hf : ∀ (x : UInt8) (w : World) (R : Po), R (.returned (.bool (p x))) w → GoC Tryz.prog f #[.int .u8 (x.toNat : Int)] w R)
    (h : ∀ n : Int, (0 ≤ n ↔ bs.any p = true) → R (.returned (.int .i64 n)) w) : GoC Tryz.prog F_slices_IndexFunc_s_byte_byte #[.slice a l c, .func (.func f) #[] #[]] w R := by
  subst hl
  refine S_slices_IndexFunc_s_byte_byte ?_
  unfold W_slices_IndexFunc_s_byte_byte
  refine loopN (fun s w1 => w1 = w ∧ ∃ k : Nat, k ≤ bs.length ∧ s.1 = (k : Int) ∧ (bs.take k).any p = false) (fun s _ => bs.length - s.1.toNat) ⟨rfl, 0, Nat.zero_le _, rfl, rfl⟩ ?_
  rintro ⟨k0, u⟩ w1 ⟨hw1, k, hk, hk0, hany⟩ _
  dsimp only at hk0 ⊢
  subst hk0
  rw [hw1]
  refine cond_d (fun hlt => ?_) (fun hge => ?_)
  · have hkl : k < bs.length := by omega
    refine hr.idx (by omega) hlt (by rw [bvs_len]; omega) fun b o hg hc => ?_
    refine ⟨((bs[k]).toNat : Int), by rw [Int.toNat_natCast, add_at]; exact hc k _ (bvs_get hkl), ?_⟩
    refine hf _ _ _ ⟨_, rfl, cond_b (fun ht => ?_) (fun ht => ?_)⟩
    · refine h _ ⟨fun _ => ?_, fun _ => by omega⟩
      rw [List.any_eq_true]
      exact ⟨bs[k], List.getElem_mem hkl, ht⟩
    · have hwk : IntKind.wrap .i64 ((k : Int) + 1) = ((k + 1 : Nat) : Int) := by rw [wrap_i64 (by omega) (by omega)]; omega
      rw [hwk]
      refine ⟨⟨rfl, k + 1, by omega, rfl, ?_⟩, by simp only [Int.toNat_natCast]; omega⟩
      rw [take_snoc_get _ k hkl, List.any_append, hany]
      simp [ht]
  · have hke : k = bs.length := by omega
    subst hke
    rw [List.take_length] at hany
    exact h _ ⟨fun hh => by omega, fun hh => by rw [hany] at hh; cases hh⟩
theorem lblank_c {w : World} {a : Option Addr} {l c : Nat} {bs : List UInt8} {R : Po} (hr : Rd w a (bvs bs)) (hl : bs.length = l) (hb : l < 70368744177664)
    (h : R (.returned (.bool (zerosB bs))) w) : GoC Tryz.prog F_log_blank #[.slice a l c] w R := by
  refine S_log_blank ?_
  unfold W_log_blank
  refine CallF.intro ?_
  refine S_slices_ContainsFunc_s_byte_byte ?_
  unfold W_slices_ContainsFunc_s_byte_byte
  refine index_c (p := fun x => decide (x.toNat ≠ 0)) hr hl hb (fun x w R hR => S_log_blank_1 ?_) fun n hn => ⟨_, rfl, ?_⟩
  · unfold W_log_blank_1
    have : (((x.toNat : Nat) : Int) != 0) = decide (x.toNat ≠ 0) := by
      by_cases hx : x.toNat = 0 <;> simp [hx]
    rw [this]
    exact hR
  · have : (!decide (n ≥ 0)) = zerosB bs := by
      unfold zerosB
      cases ha : bs.any fun x => decide (x.toNat ≠ 0)
      · have : ¬ (0 ≤ n) := fun hh => by have := hn.1 hh; rw [ha] at this; cases this
        simp [this]
      · have : 0 ≤ n := hn.2 ha
        simp [this]
    refine ⟨_, rfl, ?_⟩
    rw [this]
    exact h
theorem er_ss : ElemRow Tryz.prog T_s_s_uint8 T_s_uint8 (.slice none 0 0) 1 24 := elemRow (by kernel_rfl) (by kernel_rfl) rfl
def foundN : List (List UInt8) → Nat → Nat
  | [], _ => 0
  | s :: r, i => if isSec s (i + 1) then foundN r (i + 1) + 1 else 0
theorem foundN_le : ∀ (S : List (List UInt8)) i, foundN S i ≤ S.length
  | [], _ => Nat.le_refl _
  | s :: r, i => by
    rw [foundN]
    have := foundN_le r (i + 1)
    split
    · simp; omega
    · simp
theorem foundN_drop (S : List (List UInt8)) {k : Nat} (h : k < S.length) : foundN (S.drop k) k = if isSec S[k] (k + 1) then foundN (S.drop (k + 1)) (k + 1) + 1 else 0 := by
  rw [List.drop_eq_getElem_cons h, foundN]
structure Secs (w : World) (G : List SI) (S : List (List UInt8)) : Prop where
  n : G.length = S.length
  rd : ∀ k (h : k < G.length) (h' : k < S.length), Rd w (G[k]).a (bvs S[k])
  l : ∀ s ∈ S, s.length = 512
  gl : ∀ k (h : k < G.length), (G[k]).l = 512 ∧ 512 ≤ (G[k]).c
def cutG (g : SI) (s : List UInt8) : SI := ⟨subA g.a g.c 7 1, bytN s, g.c - 7⟩
def cutS (G : List SI) (S : List (List UInt8)) : List SI := List.zipWith cutG G S
theorem cutS_get {G : List SI} {S : List (List UInt8)} {k : Nat} (h : k < G.length) (h' : k < S.length) : (cutS G S)[k]? = some (cutG G[k] S[k]) := by
  unfold cutS
  rw [List.getElem?_zipWith, List.getElem?_eq_getElem h, List.getElem?_eq_getElem h']
theorem cutS_len {G : List SI} {S : List (List UInt8)} (h : G.length = S.length) : (cutS G S).length = G.length := by
  unfold cutS
  rw [List.length_zipWith]
  omega
theorem rd_u8 {w : World} {a : Option Addr} {bs : List UInt8} (h : Rd w a (bvs bs)) {i l : Nat} (hi : i < bs.length) {n : Int} (hn : n = (i : Int)) (hl : i < l) {K : Addr → Prop} (hK : ∀ d, w.cell? (d.add (Int.toNat n)) = some (.int .u8 ((bs[i]).toNat : Int)) → K d) : IdxF a n l K :=
  rdI h (bvs_get hi) hn hl fun b o _ hc => hK _ hc
theorem getD_of {l : List UInt8} {k : Nat} (h : k < l.length) : l.getD k 0 = l[k] := by simp [h]
set_option maxHeartbeats 1000000 in
theorem found_c {w : World} {ga : Option Addr} {l c : Nat} {G : List SI} {S : List (List UInt8)} {R : Po} (hg : Rd w ga (G.map siV)) (hs : Secs w G S) (hl : G.length = l) (hl2 : l ≤ 8192)
    (h : ∀ a' c' w', Sl w' T_s_uint8 1 a' (foundN S 0) c' (((cutS G S).take (foundN S 0)).map siV) → Kp no w w' → Fresh w a' → R (.returned (.slice a' (foundN S 0) c')) w') : GoC Tryz.prog F_log_found #[.slice ga l c] w R := by
  subst hl
  refine S_log_found ?_
  unfold W_log_found
  have hn := hs.n
  refine loopN (fun s w1 => ∃ ow, Old w w1 ow ∧ ∃ k : Nat, k ≤ G.length ∧ s.2.1 = (k : Int) ∧ foundN S 0 = k + foundN (S.drop k) k ∧ SlT w1 ow T_s_uint8 1 s.1.1 s.1.2.1 s.1.2.2 (((cutS G S).take k).map siV) 5 ∧ s.1.2.1 = k) (fun s _ => G.length - s.2.1.toNat)
    ⟨fun _ => 0, ⟨Kp.refl _ _, fun _ _ => rfl⟩, 0, Nat.zero_le _, rfl, by simp, slt_nil _ _ _ _ _, rfl⟩ ?_
  rintro ⟨⟨a, l, cc⟩, k0, u⟩ w1 ⟨ow, ho, k, hk, hk0, hf, ht, hlk⟩ _
  dsimp only at hk0 ht hlk ⊢
  subst hk0 hlk
  have fin : ∀ w2, Kp no w1 w2 → foundN S 0 = l → R (.returned (.slice a l cc)) w2 := fun w2 k2 e => by
    have hh := h a cc w2
    rw [e] at hh
    refine hh (ht.sl.kp0 k2) (ho.kp.trans0 k2) fun j hj => ?_
    apply Nat.le_of_not_lt
    intro hlt
    have := ho.z j hlt
    rw [ht.tg j hj] at this
    cases this
  refine cond_d (fun hlt => ?_) (fun hge => fin w1 (Kp.refl _ _) (by
    have : S.drop l = [] := List.drop_eq_nil_of_le (by omega)
    rw [hf, this]
    rfl))
  have hkl : l < G.length := by omega
  have hks : l < S.length := by omega
  obtain ⟨gl, gc⟩ := hs.gl l hkl
  have rd := (hs.rd l hkl hks).kp0 ho.kp
  have sl : (S[l]).length = 512 := hs.l _ (List.getElem_mem hks)
  have bad : ∀ w2, Kp no w1 w2 → isSec S[l] (l + 1) = false → R (.returned (.slice a l cc)) w2 := fun w2 k2 hb => fin w2 k2 (by rw [hf, foundN_drop S hks, hb]; rfl)
  have hw7 : ∀ m : Nat, m ≤ 70000 → IntKind.wrap .i64 (7 + (m : Int)) = ((7 + m : Nat) : Int) := fun m hm => by rw [wrap_i64 (by omega) (by omega)]; omega
  refine siI (hg.kp0 ho.kp) hkl rfl rfl ?_
  rw [gl]
  refine number_c rd sl (by omega) (by omega) (by omega) (by omega : 5 + 2 ≤ 512) rfl rfl ⟨_, rfl, ?_⟩
  have hbn : leN ((S[l].drop 5).take 2) = bytN S[l] := rfl
  rw [hbn]
  have hbl : bytN S[l] < 65536 := by
    have := leN_lt ((S[l].drop 5).take 2)
    have h2 : ((S[l].drop 5).take 2).length = 2 := by rw [List.length_take, List.length_drop]; omega
    rw [h2] at this
    unfold bytN
    omega
  refine rd_u8 rd (i := 0) (by omega) rfl (by omega) fun d2 hc2 => ⟨_, hc2, cond_ne (fun h1 => bad w1 (Kp.refl _ _) ?_) (fun h1 => ?_)⟩
  · unfold isSec
    rw [getD_of (by omega), decide_eq_false (by omega)]
    simp
  refine rd_u8 rd (i := 511) (by omega) rfl (by omega) fun d3 hc3 => ⟨_, hc3, cond_ne (fun h2 => bad w1 (Kp.refl _ _) ?_) (fun h2 => ?_)⟩
  · unfold isSec
    rw [getD_of (k := 511) (by omega), decide_eq_false (p := (S[l][511]).toNat = 165) (by omega)]
    simp
  have hwk : IntKind.wrap .i64 ((l : Int) + 1) = ((l + 1 : Nat) : Int) := by rw [wrap_i64 (by omega) (by omega)]; omega
  rw [hwk]
  refine number_c rd sl (by omega) (by omega) (by omega) (by omega : 1 + 4 ≤ 512) rfl rfl ⟨_, rfl, cond_ne (fun h3 => bad w1 (Kp.refl _ _) ?_) (fun h3 => ?_)⟩
  · unfold isSec
    rw [decide_eq_false (p := leN ((S[l].drop 1).take 4) = l + 1) (by omega)]
    simp
  refine cond_d (fun h4 => bad w1 (Kp.refl _ _) ?_) (fun h4 => cond_d (fun h5 => bad w1 (Kp.refl _ _) ?_) (fun h5 => ?_))
  · unfold isSec
    rw [decide_eq_false (p := 1 ≤ bytN S[l]) (by omega)]
    simp
  · unfold isSec
    rw [decide_eq_false (p := bytN S[l] ≤ 502) (by omega)]
    simp
  have hle : bytN S[l] ≤ 502 := by omega
  rw [hw7 _ (by omega)]
  simp only [Int.toNat_natCast]
  have e511 : Int.toNat 511 = 511 := rfl
  have e7 : Int.toNat 7 = 7 := rfl
  rw [e511, e7]
  refine ⟨by show (0 : Int) ≤ 511 ∧ (511 : Int) ≤ (((G[l]).c : Nat) : Int); omega, by show (0 : Int) ≤ ((7 + bytN S[l] : Nat) : Int) ∧ ((7 + bytN S[l] : Nat) : Int) ≤ (((Int.toNat 511 : Nat)) : Int); omega, ?_⟩
  have tail : Rd w1 (subA (G[l]).a (G[l]).c (7 + bytN S[l]) 1) (bvs ((S[l]).drop (7 + bytN S[l]))) := rd_drop rd (by omega)
  have tl : ((S[l]).drop (7 + bytN S[l])).length = 505 - bytN S[l] := by rw [List.length_drop]; omega
  refine loopN (fun s w2 => w2 = w1 ∧ ∃ j : Nat, j ≤ 504 - bytN S[l] ∧ s.1 = (j : Int) ∧ zerosB (((S[l]).drop (7 + bytN S[l])).take j) = true) (fun s _ => 504 - bytN S[l] - s.1.toNat) ⟨rfl, 0, Nat.zero_le _, rfl, rfl⟩ ?_
  rintro ⟨j0, u2⟩ w2 ⟨rfl, j, hj, hj0, hz⟩ _
  dsimp only at hj0 ⊢
  subst hj0
  refine cond_d (fun hjl => ?_) (fun hjl => ?_)
  · have hj5 : j < 504 - bytN S[l] := by omega
    refine rd_u8 tail (i := j) (by omega) rfl (by omega) fun d4 hc4 => ⟨_, hc4, cond_ne (fun hne => bad w2 (Kp.refl _ _) ?_) (fun he => ?_)⟩
    · have hzf : zerosB (((S[l]).drop (7 + bytN S[l])).take (504 - bytN S[l])) = false := by
        unfold zerosB
        simp only [Bool.not_eq_false']
        rw [List.any_eq_true]
        refine ⟨((S[l]).drop (7 + bytN S[l]))[j], ?_, decide_eq_true (by omega)⟩
        rw [List.mem_iff_getElem?]
        exact ⟨j, by rw [List.getElem?_take, if_pos hj5, List.getElem?_eq_getElem (by omega)]⟩
      unfold isSec
      rw [hzf]
      simp
    · have hwj : IntKind.wrap .i64 ((j : Int) + 1) = ((j + 1 : Nat) : Int) := by rw [wrap_i64 (by omega) (by omega)]; omega
      rw [hwj]
      refine ⟨⟨rfl, j + 1, by omega, rfl, ?_⟩, by simp only [Int.toNat_natCast]; omega⟩
      rw [take_snoc_get _ j (by omega)]
      unfold zerosB at hz ⊢
      rw [List.any_append]
      simp only [Bool.not_eq_true'] at hz ⊢
      rw [hz]
      have : (((S[l]).drop (7 + bytN S[l]))[j]'(by omega)).toNat = 0 := by omega
      rw [List.any_cons, this]
      rfl
  have hje : j = 504 - bytN S[l] := by omega
  subst hje
  have good : isSec S[l] (l + 1) = true := by
    unfold isSec
    rw [getD_of (by omega), getD_of (k := 511) (by omega), hz, decide_eq_true (p := (S[l][0]).toNat = 108) (by omega), decide_eq_true (p := (S[l][511]).toNat = 165) (by omega), decide_eq_true (p := leN ((S[l].drop 1).take 4) = l + 1) (by omega), decide_eq_true (p := 1 ≤ bytN S[l]) (by omega), decide_eq_true hle]
    rfl
  refine ⟨by show (0 : Int) ≤ ((7 + bytN S[l] : Nat) : Int) ∧ ((7 + bytN S[l] : Nat) : Int) ≤ (((G[l]).c : Nat) : Int); omega, by show (0 : Int) ≤ 7 ∧ (7 : Int) ≤ (((Int.toNat ((7 + bytN S[l] : Nat) : Int)) : Nat) : Int); omega, ?_⟩
  have e77 : 7 + bytN S[l] - 7 = bytN S[l] := by omega
  rw [e77]
  refine pushT er_ss ht (v := siV (cutG G[l] S[l])) rfl (by omega) (by omega) fun a' c' w3 hs3 k3 f3 => ⟨⟨_, ho.fr f3 (by omega), l + 1, by omega, rfl, ?_, ?_, rfl⟩, by show G.length - (l + 1) < G.length - l; omega⟩
  · rw [hf, foundN_drop S hks, if_pos good]
    omega
  · have e := cutS_get hkl hks
    rw [List.take_add_one, e, List.map_append]
    exact hs3
def SlO (w : World) (e : TypeId) (a : Option Addr) (l c : Nat) (xs : List Value) : Prop :=
  xs.length = l ∧ l ≤ c ∧ ((a = none ∧ c = 0) ∨ ∃ b o cur, a = some ⟨b, o, none⟩ ∧ Blk w b cur e ∧ o + c ≤ cur.size ∧ ∀ i v, xs[i]? = some v → cur[o + i]? = some v)
theorem SlO.nil (w : World) (e : TypeId) : SlO w e none 0 0 [] := ⟨rfl, Nat.le_refl _, .inl ⟨rfl, rfl⟩⟩
theorem SlO.rd {w : World} {e : TypeId} {a : Option Addr} {l c : Nat} {xs : List Value} (h : SlO w e a l c xs) : Rd w a xs := by
  obtain ⟨h1, h2, h3⟩ := h
  rcases h3 with ⟨_, h0⟩ | ⟨b, o, cur, ha, hb, hs, hx⟩
  · have : xs = [] := List.eq_nil_of_length_eq_zero (by omega)
    subst this
    exact Rd.nil _ _
  · intro i v hv
    exact ⟨b, o, ha, by rw [hb.cell]; exact hx i v hv⟩
theorem SlO.lt {w : World} {e : TypeId} {a : Option Addr} {l c : Nat} {xs : List Value} (h : SlO w e a l c xs) : ∀ k, Is a k → k < w.heap.size := by
  obtain ⟨h1, h2, h3⟩ := h
  rintro k ⟨ad, had, rfl⟩
  rcases h3 with ⟨h3, _⟩ | ⟨b, o, cur, ha, hb, hs, hx⟩
  · rw [h3] at had; cases had
  · rw [ha] at had; cases had; exact hb.lt
theorem SlO.kp {S : Nat → Prop} {w w' : World} {e : TypeId} {a : Option Addr} {l c : Nat} {xs : List Value} (h : SlO w e a l c xs) (k : Kp S w w') (hn : ∀ b, Is a b → ¬ S b) : SlO w' e a l c xs := by
  obtain ⟨h1, h2, h3⟩ := h
  rcases h3 with h3 | ⟨b, o, cur, ha, hb, hs, hx⟩
  · exact ⟨h1, h2, .inl h3⟩
  · exact ⟨h1, h2, .inr ⟨b, o, cur, ha, k.blk hb (hn b ⟨_, ha, rfl⟩), hs, hx⟩⟩
theorem SlO.cut {w : World} {e : TypeId} {a : Option Addr} {l c : Nat} {xs : List Value} (h : SlO w e a l c xs) {k : Nat} (hk : k ≤ l) : SlO w e (subA a c k 1) (l - k) (c - k) (xs.drop k) := by
  obtain ⟨h1, h2, h3⟩ := h
  refine ⟨by rw [List.length_drop]; omega, by omega, ?_⟩
  rcases h3 with ⟨h3, h0⟩ | ⟨b, o, cur, ha, hb, hs, hx⟩
  · refine .inl ⟨?_, by omega⟩
    subst h3
    unfold subA
    split <;> rfl
  · by_cases hck : c = k
    · refine .inr ⟨b, o, cur, ?_, hb, by omega, fun i v hv => ?_⟩
      · unfold subA
        rw [if_pos hck, ha]
      · rw [List.drop_eq_nil_of_le (by omega)] at hv
        cases hv
    · refine .inr ⟨b, o + k, cur, ?_, hb, by omega, fun i v hv => ?_⟩
      · unfold subA
        rw [if_neg hck, ha, Option.map_some, Nat.mul_one, add_at]
      · rw [List.getElem?_drop] at hv
        rw [Nat.add_assoc]
        exact hx _ _ hv
theorem Sl.toO {w : World} {e : TypeId} {a : Option Addr} {l c : Nat} {xs : List Value} (h : Sl w e 1 a l c xs) : SlO w e a l c xs := by
  obtain ⟨h1, h2, h3⟩ := h
  refine ⟨by omega, h2, ?_⟩
  rcases h3 with h3 | ⟨b, cur, ha, hb, hs, ht⟩
  · exact .inl h3
  · refine .inr ⟨b, 0, cur, ha, hb, by omega, fun i v hv => ?_⟩
    rw [← ht, List.getElem?_take] at hv
    split at hv
    · rw [Nat.zero_add]; simpa using hv
    · cases hv
theorem is_subA {a : Option Addr} {c k s j : Nat} (h : Is (subA a c k s) j) : Is a j := by
  obtain ⟨ad, had, rfl⟩ := h
  unfold subA at had
  split at had
  · exact ⟨ad, had, rfl⟩
  · cases a with
    | none => cases had
    | some x =>
      cases had
      refine ⟨x, rfl, ?_⟩
      unfold Addr.add
      split <;> rfl
section
variable {P : Program}
theorem pushO {t e ty : TypeId} {z : Value} {by_ : Nat} (hr : ElemRow P t e z 1 by_) {w : World} {a : Option Addr} {l c : Nat} {xs : List Value} (hs : SlO w e a l c xs) {v : Value} (hv : v.oneCell' = true)
    (h63 : l + 1 ≤ 9223372036854775807) (hb : (l + 1) * by_ ≤ 140737488355328) {K : Option Addr → Nat → Nat → World → Prop}
    (h : ∀ a' c' w', SlO w' e a' (l + 1) c' (xs ++ [v]) → Kp (Is a) w w' → (∀ k, Is a' k → Is a k ∨ w.heap.size ≤ k) → K a' (l + 1) c' w') :
    AlF w (.cells #[v] e) fun b w2 => RunF P (Builtin.append_ #[t, t] ty #[.slice a l c, .slice (some ⟨b, 0, none⟩) 1 1]) w2 fun r w3 => ∃ (a2 : Option Addr) (l2 c2 : Nat), r = .slice a2 l2 c2 ∧ K a2 l2 c2 w3 := by
  obtain ⟨h1, h2, h3⟩ := hs
  rcases h3 with ⟨rfl, rfl⟩ | ⟨b, o, cur, rfl, hblk, hsz, hx⟩
  · have hl0 : l = 0 := by omega
    subst hl0
    have hx0 : xs = [] := List.eq_nil_of_length_eq_zero h1
    subst hx0
    exact push_own hr (Sl.nil w e 1) hv h63 hb fun a' c' w' hs' k' hi => h a' c' w' hs'.toO k' hi
  · refine AlF.intro fun b1 w1 hb1e hblk1 k1 _ => ?_
    have hn : Rd w1 (some ⟨b1, 0, none⟩) [v] := Rd.of_blk hblk1 fun i u hu => by rw [Nat.zero_add, ← Array.getElem?_toList]; exact hu
    have hblk' := k1.blk hblk id
    have hne : b1 ≠ b := by have := hblk.lt; omega
    obtain ⟨ht, i, hi, hz, hsi, rfl, hzs⟩ := hr
    have hfc := run_firstCells_some (P := P) w1 i.size 1 ⟨b1, 0, none⟩ 1 1 [v] (by rw [hsi]; rfl) (rd_addr hn)
    by_cases hroom : l + 1 ≤ c
    · have hst : StL w1 (Addr.add ⟨b, o, none⟩ (l * i.size)) 0 [v] fun w' => Blk w' b (cur.setIfInBounds (o + l) v) e ∧ Kp (fun k => k = b) w1 w' :=
        ⟨hv, StF.at (i := o + l) (by rw [hsi, Nat.mul_one, add_at]; rfl) hblk' (by omega) fun w' hb' k' _ => ⟨hb', k'⟩⟩
      obtain ⟨w2, hr2, hb2, k2⟩ := storeCells_run (P := P) [v] 0 w1 hst
      refine ⟨.slice (some ⟨b, o, none⟩) (l + 1) c, w2, ?_, _, _, _, rfl, h _ c w2 ⟨by simp [h1], hroom, .inr ⟨b, o, _, rfl, hb2, by simpa using hsz, ?_⟩⟩ ?_ (fun k hk => .inl hk)⟩
      · simp [Builtin.append_, run_underlying ht, sizeOf, typeInfo, hi, Builtin.lenOf, hroom, hfc, hr2]
      · intro j u hu
        by_cases hj : j = l
        · subst hj
          rw [List.getElem?_append_right (by omega)] at hu
          have : j - xs.length = 0 := by omega
          rw [this] at hu
          cases hu
          rw [Array.getElem?_setIfInBounds_self_of_lt (by omega)]
        · have hjl : j < xs.length := by
            have := (List.getElem?_eq_some_iff.1 hu).1
            simp at this
            omega
          rw [List.getElem?_append_left hjl] at hu
          rw [Array.getElem?_setIfInBounds_ne (by omega)]
          exact hx j u hu
      · exact k1.trans k2 (fun _ _ h => h.elim) fun k _ hk => ⟨_, rfl, hk.symm⟩
    · have hlen : (xs ++ [v]).length = l + 1 := by simp [h1]
      have hold : ∀ j u, xs[j]? = some u → w1.cell? ((⟨b, o, none⟩ : Addr).add j) = some u := fun j u hu => by
        rw [add_at, hblk'.cell]
        exact hx j u hu
      have hrun := run_append_grow (P := P) w1 t ty e i z ht hi hz ⟨b, o, none⟩ l c xs (by rw [hsi]; omega) hold ⟨b1, 0, none⟩ 1 1 [v] (by rw [hsi]; rfl) (rd_addr hn) (by omega) (by omega) (growslice_fits (by omega) hb)
      have hge := grownCap_ge w1 (l + 1) c e
      have kk : Kp no w1 (w1.drew.alloc (.cells (xs.toArray ++ #[v] ++ Builtin.zeroCells z.cells (grownCap w1 (l + 1) c e - (l + 1))) e)) := ⟨rfl, rfl, rfl, by simp, fun k hk _ => Below.heap_alloc w1.drew _ _ hk⟩
      refine ⟨_, _, hrun, _, _, _, rfl, h _ _ _ ⟨hlen, hge, .inr ⟨w1.heap.size, 0, _, rfl, heap_alloc_new w1.drew _, ?_, ?_⟩⟩ (k1.trans0 kk).of_no fun k hk => .inr ?_⟩
      · simp only [Array.size_append, List.size_toArray, zeroCells_size, hzs, h1, List.length_singleton]
        omega
      · intro j u hu
        rw [Nat.zero_add, ← Array.getElem?_toList]
        simp only [Array.toList_append]
        rw [List.getElem?_append_left (by have := (List.getElem?_eq_some_iff.1 hu).1; simpa using this)]
        exact hu
      · obtain ⟨_, he, rfl⟩ := hk
        cases he
        exact k1.size
theorem clone_gen {t e ty : TypeId} {z : Value} {s by_ : Nat} (hr : ElemRow P t e z s by_) {w : World} {a : Option Addr} {l c : Nat} {xs : List Value} (hx : Rd w a xs) (hl : xs.length = l * s) (h0 : a = none → l = 0) (h1 : ∀ u ∈ xs, u.oneCell' = true)
    (hb : l * by_ ≤ 140737488355328) (h63 : l ≤ 9223372036854775807) {K : Value → World → Prop}
    (h : ∀ a' c' w', Sl w' e s a' l c' xs → Kp no w w' → Fresh w a' → K (.slice a' l c') w') :
    cond (Option.isNone a) (K (.slice none 0 0) w) (AlF w (.cells #[] e) fun b w1 => RunF P (Builtin.append_ #[t, t] ty #[.slice (some ⟨b, 0, none⟩) 0 0, .slice a l c]) w1 fun r1 w2 => ∃ (a2 : Option Addr) (l2 c2 : Nat), r1 = .slice a2 l2 c2 ∧ K (.slice a2 l2 c2) w2) := by
  cases a with
  | none =>
    have hl0 := h0 rfl
    subst hl0
    have hbs : xs = [] := List.eq_nil_of_length_eq_zero (by omega)
    subst hbs
    exact h none 0 w (Sl.nil _ _ _) (Kp.refl _ _) (fun k hk => (is_none hk).elim)
  | some ad =>
    refine cond_f rfl (AlF.intro fun b1 w1 hb1e hb1 k1 s1 => ?_)
    have hs1 : Sl w1 e s (some ⟨b1, 0, none⟩) 0 0 [] := ⟨by simp, Nat.le_refl _, .inr ⟨b1, #[], rfl, hb1, by simp, by simp⟩⟩
    refine append_own hr hs1 (hx.kp0 k1) hl (fun h => by cases h) h1 (by omega) (by simpa using hb) fun a' c' w2 hs2 k2 hi2 hroom hgrow => ⟨_, _, _, rfl, ?_⟩
    rw [Nat.zero_add] at hs2 ⊢
    refine h a' c' w2 (by rw [List.nil_append] at hs2; exact hs2) (k1.trans k2 (fun _ _ h => h) fun k hk hh => ?_) (fun k hk => ?_)
    · obtain ⟨_, he, rfl⟩ := hh; cases he; simp at hk; omega
    · rcases hi2 k hk with hh | hh
      · obtain ⟨_, he, rfl⟩ := hh; cases he; simp; omega
      · omega
end
structure OwnL (w w' : World) (r : RV) (m : Mm) : Prop where
  l : Sl w' T_api_Live 4 m.la r.live.length m.lc (flatV LV.cs r.live)
  d : Sl w' T_api_Dirty 2 m.da r.dirty.length m.dc (flatV DV.cs r.dirty)
  ll : m.ll = r.live.length
  dl : m.dl = r.dirty.length
  fl : Fresh w m.la
  fd : Fresh w m.da
  ap : ∀ k, Is m.la k → ¬ Is m.da k
theorem OwnL.kp0 {w w1 w2 : World} {r : RV} {m : Mm} (h : OwnL w w1 r m) (k : Kp no w1 w2) : OwnL w w2 r m := ⟨h.l.kp0 k, h.d.kp0 k, h.ll, h.dl, h.fl, h.fd, h.ap⟩
theorem OwnL.from {w w0 w1 : World} {r : RV} {m : Mm} (h : OwnL w w1 r m) (k : w0.heap.size ≤ w.heap.size) : OwnL w0 w1 r m := ⟨h.l, h.d, h.ll, h.dl, fun j hj => Nat.le_trans k (h.fl j hj), fun j hj => Nat.le_trans k (h.fd j hj), h.ap⟩
theorem cloneL_c {w : World} {a : Option Addr} {l c : Nat} {L : List LV} {R : Po} (hx : Rd w a (flatV LV.cs L)) (hl : L.length = l) (h0 : a = none → l = 0) (hb : l ≤ 1000)
    (h : ∀ a' c' w', Sl w' T_api_Live 4 a' l c' (flatV LV.cs L) → Kp no w w' → Fresh w a' → R (.returned (.slice a' l c')) w') : GoC Tryz.prog F_slices_Clone_s_api_Live_api_Live #[.slice a l c] w R := by
  refine S_slices_Clone_s_api_Live_api_Live ?_
  unfold W_slices_Clone_s_api_Live_api_Live
  exact clone_gen (K := fun v w' => R (.returned v) w') er_lv hx (by rw [flatV_len LV.csl, hl]) h0 (flatV_one LV.cs1 _) (by omega) (by omega) h
theorem cloneD_c {w : World} {a : Option Addr} {l c : Nat} {L : List DV} {R : Po} (hx : Rd w a (flatV DV.cs L)) (hl : L.length = l) (h0 : a = none → l = 0) (hb : l ≤ 1000)
    (h : ∀ a' c' w', Sl w' T_api_Dirty 2 a' l c' (flatV DV.cs L) → Kp no w w' → Fresh w a' → R (.returned (.slice a' l c')) w') : GoC Tryz.prog F_slices_Clone_s_api_Dirty_api_Dirty #[.slice a l c] w R := by
  refine S_slices_Clone_s_api_Dirty_api_Dirty ?_
  unfold W_slices_Clone_s_api_Dirty_api_Dirty
  exact clone_gen (K := fun v w' => R (.returned v) w') er_dv hx (by rw [flatV_len DV.csl, hl]) h0 (flatV_one DV.cs1 _) (by omega) (by omega) h
theorem lown_c {w : World} {r : RV} {m : Mm} {R : Po} (hi : LiIn w m r.live r.dirty) (hl : m.ll ≤ 1000) (hd : m.dl ≤ 1000) (h : ∀ m' w', Kp no w w' → OwnL w w' r m' → R (.returned (.agg (r.ca m'))) w') : GoC Tryz.prog F_log_own #[.agg (r.ca m)] w R := by
  refine S_log_own ?_
  unfold W_log_own
  have hll := hi.ll
  have hdl := hi.dl
  obtain ⟨nl, nd⟩ := hi.nl
  refine Loc.al (Kp.refl _ w) fun b1 w1 h1 k1 g1 => Loc.al h1.kp fun b2 w2 h2 k2 g2 => ?_
  have s0 := h1.blk.lt
  have h1 : Loc w w2 b1 (r.ca m) T_api_Record := h1.kp' k2
  have h2 : Loc w w2 b2 (({} : RV).ca {}) T_api_Record := h2
  have hne : b1 ≠ b2 := by omega
  refine ⟨_, _, _, h1.at rfl rfl, cloneL_c (hi.kp0 h1.kp).l hll nl (by omega) fun a3 c3 w3 hs3 k3 hf3 => ⟨_, _, _, rfl, ?_⟩⟩
  have h13 := h1.kp' k3
  have h23 := h2.kp' k3
  refine h13.st (by rfl) (Nat.le_of_ble_eq_true rfl) fun w4 h14 k4 => ?_
  have h14 : Loc w w4 b1 (r.ca { m with la := a3, lc := c3 }) T_api_Record := h14
  have b1w : ∀ j, j < w3.heap.size → j = b1 → ¬ Is a3 j := fun j _ hj hh => by
    have := hf3 j hh
    have := h1.blk.lt
    omega
  have hs4 : Sl w4 T_api_Live 4 a3 m.ll c3 (flatV LV.cs r.live) := hs3.kp k4 fun j hj hh => b1w j (hs3.lt j hj) hh hj
  have h24 : Loc w w4 b2 (({} : RV).ca {}) T_api_Record := ⟨k4.blk h23.blk fun hh => hne hh.symm, h23.nw, h14.kp⟩
  refine ⟨_, _, _, h14.at rfl rfl, cloneD_c (hi.kp0 h14.kp).d hdl nd (by omega) fun a5 c5 w5 hs5 k5 hf5 => ⟨_, _, _, rfl, ?_⟩⟩
  have h15 := h14.kp' k5
  have h25 := h24.kp' k5
  have hs5l := hs4.kp0 k5
  refine h15.st (by rfl) (Nat.le_of_ble_eq_true rfl) fun w6 h16 k6 => ?_
  have h16 : Loc w w6 b1 (r.ca ⟨a3, m.ll, c3, a5, m.dl, c5⟩) T_api_Record := h16
  have h26 : Loc w w6 b2 (({} : RV).ca {}) T_api_Record := ⟨k6.blk h25.blk fun hh => hne hh.symm, h25.nw, h16.kp⟩
  have s14 := h14.blk.lt
  have s1 := h1.blk.lt
  have hl6 : Sl w6 T_api_Live 4 a3 m.ll c3 (flatV LV.cs r.live) := hs5l.kp k6 fun j hj hh => by have := hf3 j hj; omega
  have hd6 : Sl w6 T_api_Dirty 2 a5 m.dl c5 (flatV DV.cs r.dirty) := hs5.kp k6 fun j hj hh => by have := hf5 j hj; omega
  refine rec_rd h16.blk (rec_st h26.blk r ⟨a3, m.ll, c3, a5, m.dl, c5⟩ fun w7 hb7 k7 => rec_rd hb7 ?_)
  have s2 := h2.blk.lt
  have kk := kp_blk h26.kp h26.nw k7
  have z2 := h2.kp.size
  have z4 := h14.kp.size
  refine h ⟨a3, m.ll, c3, a5, m.dl, c5⟩ w7 kk ⟨?_, ?_, hll.symm, hdl.symm, fun j hj => ?_, fun j hj => ?_, fun j hj hh => ?_⟩
  · rw [hll]
    exact hl6.kp k7 fun j hj hh => by have := hf3 j hj; omega
  · rw [hdl]
    exact hd6.kp k7 fun j hj hh => by have := hf5 j hj; have := k4.size; have := k3.size; omega
  · have := hf3 j hj; omega
  · have := hf5 j hj; omega
  · have := hf5 j hh
    have := hs4.lt j hj
    omega
structure LiT (w : World) (ow : Nat → Nat) (u : Nat) (m : Mm) (r : RV) : Prop where
  l : RdT w ow (fun x => x = u) m.la (flatV LV.cs r.live)
  ll : r.live.length = m.ll
  lb : m.ll ≤ 1000
  d : RdT w ow (fun x => x = u) m.da (flatV DV.cs r.dirty)
  dl : r.dirty.length = m.dl
  db : m.dl ≤ 1000
theorem LiT.fr {T : Nat → Prop} {w w' : World} {ow ow' : Nat → Nat} {u : Nat} {m : Mm} {r : RV} (h : LiT w ow u m r) (f : Fro T w ow w' ow') (hT : T u) : LiT w' ow' u m r :=
  ⟨h.l.fr f fun _ hx => by rw [hx]; exact hT, h.ll, h.lb, h.d.fr f fun _ hx => by rw [hx]; exact hT, h.dl, h.db⟩
theorem LiT.li {w : World} {ow : Nat → Nat} {u : Nat} {m : Mm} {r : RV} (h : LiT w ow u m r) : LiIn w m r.live r.dirty :=
  ⟨h.l.rd, h.ll, by have := h.lb; omega, h.d.rd, h.dl, by have := h.db; omega⟩
theorem rdT_new {w w' : World} {ow : Nat → Nat} {a : Option Addr} {vs : List Value} (u : Nat) (h : Rd w' a vs) (hf : Fresh w a) : RdT w' (ext ow w.heap.size u) (fun x => x = u) a vs := fun i v hv => by
  obtain ⟨b, o, ha, hc⟩ := h i v hv
  exact ⟨b, o, ha, hc, ext_new (hf b ⟨_, ha, rfl⟩)⟩
theorem OwnL.lit {w w' : World} {ow : Nat → Nat} {r : RV} {m : Mm} (u : Nat) (h : OwnL w w' r m) (hl : m.ll ≤ 1000) (hd : m.dl ≤ 1000) : LiT w' (ext ow w.heap.size u) u m r :=
  ⟨rdT_new u h.l.rd h.fl, h.ll.symm, hl, rdT_new u h.d.rd h.fd, h.dl.symm, hd⟩
structure YB (w : World) (ow : Nat → Nat) (u : Nat) (y : SI) (bs : List UInt8) : Prop where
  rd : RdT w ow (fun x => x = u) y.a (bvs bs)
  l : bs.length = y.l
  z : y.a = none → y.l = 0
theorem YB.fr {T : Nat → Prop} {w w' : World} {ow ow' : Nat → Nat} {u : Nat} {y : SI} {bs : List UInt8} (h : YB w ow u y bs) (f : Fro T w ow w' ow') (hT : T u) : YB w' ow' u y bs :=
  ⟨h.rd.fr f fun _ hx => by rw [hx]; exact hT, h.l, h.z⟩
structure Lg where
  first : Nat
  count : Nat
  recs : List RV
  forced : Nat
  err : Nat
structure Lg.Ok (g : Lg) : Prop where
  f : g.forced ≤ g.recs.length
  n : g.recs.length ≤ g.count
  c : g.count ≤ 8192
  p : g.first ≤ 8192
  e : g.err ≤ 100
  r : ∀ k (h : k < g.recs.length), chkN g.recs[k] = 0 ∧ (g.recs[k]).w64 ∧ (g.recs[k]).lsn = ((k + 1 : Nat) : Int)
structure Lh where
  ra : Option Addr
  rc : Nat
  ms : List Mm
  ya : Option Addr
  yc : Nat
  Y : List SI
  ev : Value
def zFo : ByteArray := ByteArray.mk #[70, 111, 114, 99, 101]
def cR (x : RV × Mm) : List Value := (x.1.ca x.2).toList
theorem cR_len (x : RV × Mm) : (cR x).length = 17 := rfl
theorem cR_one (x : RV × Mm) : ∀ u ∈ cR x, u.oneCell' = true := fun u hu => by
  simp only [cR, RV.ca, List.mem_cons, List.not_mem_nil, or_false] at hu
  rcases hu with h | h | h | h | h | h | h | h | h | h | h | h | h | h | h | h | h <;> subst h <;> rfl
def lgc (db : Nat) (H : Lh) (g : Lg) : Array Value := #[.pointer (some ⟨db, 0, none⟩), .int .i64 (g.first : Int), .int .i64 (g.count : Int), .slice H.ra g.recs.length H.rc, .slice H.ya H.Y.length H.yc, .int .i64 (g.forced : Int), H.ev]
structure LX (w : World) (ow : Nat → Nat) (t lb db : Nat) (H : Lh) (g : Lg) : Prop where
  blk : Blk w lb (lgc db H g) T_log_Log
  tb : ow lb = t + 20
  ml : H.ms.length = g.recs.length
  rs : SlT w ow T_api_Record 17 H.ra g.recs.length H.rc (flatV cR (List.zip g.recs H.ms)) (t + 21)
  li : ∀ k (h : k < g.recs.length) (h' : k < H.ms.length), LiT w ow (t + 22) H.ms[k] g.recs[k]
  ys : SlO w T_s_uint8 H.ya H.Y.length H.yc (H.Y.map siV)
  yt : Tg ow (t + 23) (Is H.ya)
  yl : H.Y.length = g.recs.length - g.forced
  yb : ∀ k (h : k < H.Y.length) (h' : g.forced + k < g.recs.length), YB w ow (t + 22) H.Y[k] (encB g.recs[g.forced + k])
  er : ErrV w H.ev zFo 0 (g.err : Int)
  eo : ErrO ow (t + 24) H.ev
  ok : g.Ok
abbrev Tl (t : Nat) : Nat → Prop := fun u => u ≠ t + 20 ∧ u ≠ t + 21 ∧ u ≠ t + 23
theorem LX.fr {T : Nat → Prop} {w w' : World} {ow ow' : Nat → Nat} {t lb db : Nat} {H : Lh} {g : Lg} (h : LX w ow t lb db H g) (f : Fro T w ow w' ow') (h0 : T (t + 20)) (h1 : T (t + 21)) (h2 : T (t + 22)) (h3 : T (t + 23)) (h4 : T (t + 24)) : LX w' ow' t lb db H g := by
  obtain ⟨a, b⟩ := blk_fr h.blk h.tb f h0
  obtain ⟨c, d⟩ := h.er.fr h.eo f h4
  exact ⟨a, b, h.ml, h.rs.fr f h1, fun k h' h'' => (h.li k h' h'').fr f h2, h.ys.kp f.kp fun j hj hn => hn (by rw [h.yt j hj]; exact h3), h.yt.fr f h3 h.ys.lt, h.yl, fun k h' h'' => (h.yb k h' h'').fr f h2, c, d, h.ok⟩
def LG (w : World) (ow : Nat → Nat) (t lb db : Nat) (g : Lg) : Prop := ∃ H, LX w ow t lb db H g
theorem LG.fr {T : Nat → Prop} {w w' : World} {ow ow' : Nat → Nat} {t lb db : Nat} {g : Lg} (h : LG w ow t lb db g) (f : Fro T w ow w' ow') (h0 : T (t + 20)) (h1 : T (t + 21)) (h2 : T (t + 22)) (h3 : T (t + 23)) (h4 : T (t + 24)) : LG w' ow' t lb db g := by
  obtain ⟨H, h⟩ := h
  exact ⟨H, h.fr f h0 h1 h2 h3 h4⟩
theorem LG.kp0 {w w' : World} {ow : Nat → Nat} {t lb db : Nat} {g : Lg} (h : LG w ow t lb db g) (k : Kp no w w') : LG w' ow t lb db g := h.fr (Fro.kp0 k) trivial trivial trivial trivial trivial
theorem LG.ok {w : World} {ow : Nat → Nat} {t lb db : Nat} {g : Lg} (h : LG w ow t lb db g) : g.Ok := by
  obtain ⟨H, h⟩ := h
  exact h.ok
section
variable {w : World} {ow : Nat → Nat} {t lb db : Nat} {g : Lg} {R : Po}
theorem forced_c (h : LG w ow t lb db g) (hK : R (.returned (.int .i64 (g.forced : Int))) w) : GoC Tryz.prog F_log_Log_Forced #[.pointer (some ⟨lb, 0, none⟩)] w R := by
  obtain ⟨H, h⟩ := h
  refine S_log_Log_Forced ?_
  unfold W_log_Log_Forced
  exact NilF.intro rfl ⟨_, h.blk.at (add1 _ _) rfl, hK⟩
theorem last_c (h : LG w ow t lb db g) (hK : R (.returned (.int .i64 (g.recs.length : Int))) w) : GoC Tryz.prog F_log_Log_Last #[.pointer (some ⟨lb, 0, none⟩)] w R := by
  obtain ⟨H, h⟩ := h
  refine S_log_Log_Last ?_
  unfold W_log_Log_Last
  exact NilF.intro rfl ⟨_, _, _, h.blk.at (add1 _ _) rfl, hK⟩
theorem free_c (h : LG w ow t lb db g) (hK : ∀ w', Kp no w w' → R (.returned (.int .i64 ((g.count - g.recs.length : Nat) : Int))) w') : GoC Tryz.prog F_log_Log_Free #[.pointer (some ⟨lb, 0, none⟩)] w R := by
  obtain ⟨H, h⟩ := h
  refine S_log_Log_Free ?_
  unfold W_log_Log_Free
  refine NilF.intro rfl ⟨_, h.blk.at (add1 _ _) rfl, NilF.intro rfl ⟨_, _, _, h.blk.at (add1 _ _) rfl, ?_⟩⟩
  have h1 := h.ok.n
  have h2 := h.ok.c
  have e : IntKind.wrap .i64 ((g.count : Int) - (g.recs.length : Int)) = ((g.count - g.recs.length : Nat) : Int) := by rw [wrap_i64 (by omega) (by omega)]; omega
  intro k
  rw [e]
  exact hK _ (Kp.drew w k)
theorem lerr_c (h : LG w ow t lb db g) (hK : ∀ v, ErrV w v zFo 0 (g.err : Int) → ErrO ow (t + 24) v → R (.returned v) w) : GoC Tryz.prog F_log_Log_Err #[.pointer (some ⟨lb, 0, none⟩)] w R := by
  obtain ⟨H, h⟩ := h
  refine S_log_Log_Err ?_
  unfold W_log_Log_Err
  exact NilF.intro rfl ⟨_, h.blk.at (add1 _ _) rfl, hK _ h.er h.eo⟩
def getG (g : Lg) (n : Int) : RV × Nat := if g.err ≠ 0 then ({}, 40) else if n < 1 then ({}, 4) else if n > (g.recs.length : Int) then ({}, 4) else (g.recs.getD (n.toNat - 1) {}, 0)
theorem OwnL.zero (w w' : World) : OwnL w w' {} {} := ⟨Sl.nil _ _ _, Sl.nil _ _ _, rfl, rfl, fun k hk => (is_none hk).elim, fun k hk => (is_none hk).elim, fun k hk => (is_none hk).elim⟩
theorem LX.recAt {H : Lh} (h : LX w ow t lb db H g) {k : Nat} (hk : k < g.recs.length) : ∃ b, H.ra = some ⟨b, 0, none⟩ ∧ ∃ m, H.ms[k]? = some m ∧ LiT w ow (t + 22) m g.recs[k] ∧ ∀ j v, ((g.recs[k]).ca m).toList[j]? = some v → w.cell? (Addr.add ⟨b, k * 17, none⟩ j) = some v := by
  have hm : k < H.ms.length := by rw [h.ml]; exact hk
  obtain ⟨b, cur, ha, hb, hs, ht⟩ := h.rs.sl.addr (by omega)
  refine ⟨b, ha, H.ms[k], List.getElem?_eq_getElem hm, h.li k hk hm, fun j v hv => ?_⟩
  have hj : j < 17 := (List.getElem?_eq_some_iff.1 hv).1
  have hz : k < (List.zip g.recs H.ms).length := by rw [List.length_zip]; omega
  have e := flatV_get cR_len (List.zip g.recs H.ms) k hz j hj
  have ez : (List.zip g.recs H.ms)[k] = (g.recs[k], H.ms[k]) := List.getElem_zip
  rw [ez] at e
  have hx := h.rs.sl.rd (k * 17 + j) v (by rw [e]; exact hv)
  obtain ⟨b', o', ha', hc⟩ := hx
  rw [ha] at ha'
  cases ha'
  rw [add_at]
  rw [Nat.zero_add] at hc
  exact hc
set_option maxHeartbeats 1000000 in
theorem lget_c {n : Int} (h : LG w ow t lb db g) (hn : i64 n) (hK : ∀ m w', Kp no w w' → OwnL w w' (getG g n).1 m → R (.returned (.tuple #[.agg ((getG g n).1.ca m), .int .i64 ((getG g n).2 : Int)])) w') : GoC Tryz.prog F_log_Log_Get #[.pointer (some ⟨lb, 0, none⟩), .int .i64 n] w R := by
  obtain ⟨H, h⟩ := h
  refine S_log_Log_Get ?_
  unfold W_log_Log_Get
  have hok := h.ok
  refine Loc.al (Kp.refl _ w) fun b1 w1 h1 k1 g1 => ?_
  have h1 : Loc w w1 b1 (({} : RV).ca {}) T_api_Record := h1
  have X := h.fr (Fro.kp0 k1) trivial trivial trivial trivial trivial
  have bad : ∀ e : Nat, getG g n = ({}, e) → ∀ w2, Loc w w2 b1 (({} : RV).ca {}) T_api_Record → R (.returned (.tuple #[.agg (({} : RV).ca {}), .int .i64 (e : Int)])) w2 := fun e he w2 h2 => by
    have := hK {} w2 h2.kp
    rw [he] at this
    exact this (OwnL.zero _ _)
  refine ⟨fun _ w2 => w2 = w1 ∧ 1 ≤ n ∧ n ≤ (g.recs.length : Int) ∧ g.err = 0, NilF.intro rfl ⟨_, X.blk.at (add1 _ _) rfl, err_nil X.er (cond_not (cond_d (fun he => ?_) (fun he => ?_)))⟩, ?_⟩
  · refine cond_d (fun hn1 => ?_) (fun hn1 => NilF.intro rfl ⟨_, _, _, X.blk.at (add1 _ _) rfl, cond_d (fun hn2 => ?_) (fun hn2 => ⟨rfl, by omega, by omega, by omega⟩)⟩)
    · refine rec_st h1.blk {} {} fun w7 hb7 k7 => rec_rd hb7 (bad 4 ?_ w7 ⟨hb7, h1.nw, kp_blk h1.kp h1.nw k7⟩)
      unfold getG
      rw [if_neg (by omega), if_pos hn1]
    · refine rec_st h1.blk {} {} fun w7 hb7 k7 => rec_rd hb7 (bad 4 ?_ w7 ⟨hb7, h1.nw, kp_blk h1.kp h1.nw k7⟩)
      unfold getG
      rw [if_neg (by omega), if_neg hn1, if_pos hn2]
  · refine rec_st h1.blk {} {} fun w7 hb7 k7 => rec_rd hb7 (bad 40 ?_ w7 ⟨hb7, h1.nw, kp_blk h1.kp h1.nw k7⟩)
    unfold getG
    rw [if_pos (by omega)]
  · rintro _ w2 ⟨rfl, hn1, hn2, he⟩ _
    refine NilF.intro rfl ⟨_, _, _, X.blk.at (add1 _ _) rfl, ?_⟩
    obtain ⟨k, rfl⟩ := Int.eq_ofNat_of_zero_le (show 0 ≤ n by omega)
    have hc := hok.c
    have hcn := hok.n
    have e1 : IntKind.wrap .i64 ((k : Int) - 1) = ((k - 1 : Nat) : Int) := by rw [wrap_i64 (by omega) (by omega)]; omega
    rw [e1]
    have hk : k - 1 < g.recs.length := by omega
    obtain ⟨b, ha, m, hm, hli, hcell⟩ := X.recAt hk
    have hg : getG g (k : Int) = (g.recs[k - 1], 0) := by
      unfold getG
      rw [if_neg (by omega), if_neg (by omega), if_neg (by omega), Int.toNat_natCast, List.getD_eq_getElem?_getD, List.getElem?_eq_getElem hk]
      rfl
    rw [hg] at hK
    have e2 : ∀ j, Addr.add ((⟨b, 0, none⟩ : Addr).add ((k - 1) * 17)) j = Addr.add ⟨b, (k - 1) * 17, none⟩ j := fun j => by rw [add_at, add_at, add_at, Nat.zero_add]
    have e3 : ((⟨b, 0, none⟩ : Addr).add ((k - 1) * 17)) = Addr.add ⟨b, (k - 1) * 17, none⟩ 0 := by rw [add_at, add_at, Nat.zero_add]; rfl
    have c0 : ∀ v, ((g.recs[k - 1]).ca m).toList[0]? = some v → w2.cell? ((⟨b, 0, none⟩ : Addr).add ((k - 1) * 17)) = some v := fun v hv => by rw [e3]; exact hcell 0 v hv
    have cj : ∀ j v, ((g.recs[k - 1]).ca m).toList[j]? = some v → w2.cell? (Addr.add ((⟨b, 0, none⟩ : Addr).add ((k - 1) * 17)) j) = some v := fun j v hv => by rw [e2]; exact hcell j v hv
    refine ⟨by omega, by omega, _, ha, ?_⟩
    simp only [Int.toNat_natCast]
    refine ⟨_, _, _, _, _, _, _, _, _, _, _, _, _, _, _, _, _, _, _, _, _, ⟨c0 _ rfl, cj 1 _ rfl, cj 2 _ rfl, cj 3 _ rfl, cj 4 _ rfl, cj 5 _ rfl, cj 6 _ rfl, cj 7 _ rfl, cj 8 _ rfl, cj 9 _ rfl, cj 10 _ rfl, cj 11 _ rfl, cj 12 _ rfl, cj 13 _ rfl, cj 14 _ rfl, cj 15 _ rfl, cj 16 _ rfl, trivial⟩, ?_⟩
    refine lown_c (r := g.recs[k - 1]) (m := m) hli.li hli.lb hli.db fun m' w3 k3 ho => ⟨_, _, _, _, _, _, _, _, _, _, _, _, _, _, _, _, _, _, _, _, _, rfl, ?_⟩
    have h13 := h1.kp' k3
    refine rec_st h13.blk g.recs[k - 1] m' fun w7 hb7 k7 => rec_rd hb7 (hK m' w7 (kp_blk h13.kp h13.nw k7) ?_)
    have s1 := h1.blk.lt
    have hb1 := h1.nw
    exact ⟨ho.l.kp k7 fun j hj hh => by have := ho.fl j hj; omega, ho.d.kp k7 fun j hj hh => by have := ho.fd j hj; omega, ho.ll, ho.dl, fun j hj => Nat.le_trans h1.kp.size (ho.fl j hj), fun j hj => Nat.le_trans h1.kp.size (ho.fd j hj), ho.ap⟩
end
theorem er_rec : ElemRow Tryz.prog T_s_api_Record T_api_Record (.agg (({} : RV).ca {})) 17 168 := elemRow (by kernel_rfl) (by kernel_rfl) rfl
theorem chk_short {r : RV} (h : chkN r = 0) : r.live.length ≤ 32 ∧ r.dirty.length ≤ 16 := by
  by_cases e8 : r.kind = 8
  · have := ok_lists h e8
    omega
  · obtain ⟨k1, k8, hok⟩ := chk_kind h
    obtain ⟨e1, e2⟩ := (ok_zero hok k1 k8).2 e8
    rw [e1, e2]
    simp
def Lg.add (g : Lg) (q : RV) : Lg := { g with recs := g.recs ++ [q] }
def nxtR (g : Lg) (r : RV) : RV := { r with lsn := ((g.recs.length + 1 : Nat) : Int) }
def appR (g : Lg) (r : RV) : (Nat × Nat) × Lg :=
  if g.err ≠ 0 then ((0, 40), g) else if chkN (nxtR g r) ≠ 0 then ((0, chkN (nxtR g r)), g) else if g.count - g.recs.length = 0 then ((0, 6), g) else ((g.recs.length + 1, 0), g.add (nxtR g r))
theorem Lg.Ok.add {g : Lg} (h : g.Ok) {q : RV} (hn : g.recs.length < g.count) (hc : chkN q = 0) (h64 : q.w64) (hl : q.lsn = ((g.recs.length + 1 : Nat) : Int)) : (g.add q).Ok := by
  have h1 := h.f
  have h2 := h.n
  refine ⟨by simp [Lg.add]; omega, by simp [Lg.add]; omega, h.c, h.p, h.e, fun k hk => ?_⟩
  by_cases hkl : k < g.recs.length
  · have e : (g.add q).recs[k] = g.recs[k] := List.getElem_append_left hkl
    rw [e]
    exact h.r k hkl
  · have hke : k = g.recs.length := by simp [Lg.add] at hk; omega
    subst hke
    have e : (g.add q).recs[g.recs.length] = q := by simp [Lg.add]
    rw [e]
    exact ⟨hc, h64, hl⟩
def Lh.add (H : Lh) (ra : Option Addr) (rc : Nat) (m : Mm) (ya : Option Addr) (yc : Nat) (y : SI) : Lh := { H with ra := ra, rc := rc, ms := H.ms ++ [m], ya := ya, yc := yc, Y := H.Y ++ [y] }
section
variable {w : World} {ow : Nat → Nat} {t lb db : Nat} {g : Lg} {R : Po}
set_option maxHeartbeats 2000000 in
theorem append_c {r : RV} {m : Mm} (h : LG w ow t lb db g) (hi : LiIn w m r.live r.dirty) (h64 : r.w64)
    (hK : ∀ w' ow', LG w' ow' t lb db (appR g r).2 → Fro (Tl t) w ow w' ow' → R (.returned (.tuple #[.int .i64 ((appR g r).1.1 : Int), .int .i64 ((appR g r).1.2 : Int)])) w') :
    GoC Tryz.prog F_log_Log_Append #[.pointer (some ⟨lb, 0, none⟩), .agg (r.ca m)] w R := by
  obtain ⟨H, h⟩ := h
  refine S_log_Log_Append ?_
  unfold W_log_Log_Append
  have hok := h.ok
  have okf := hok.f
  have okn := hok.n
  have okc := hok.c
  refine AlF.intro fun b1 w1 hb1e hb1 k1 _ => ?_
  have hge : w.heap.size ≤ b1 := by omega
  have f1 : Fro (fun _ => True) w ow w1 (ext ow w.heap.size (t + 26)) := Fro.of_kp0 (t + 26) k1
  have t1 : ext ow w.heap.size (t + 26) b1 = t + 26 := ext_new hge
  have F1 : Fro (Tl t) w ow w1 (ext ow w.heap.size (t + 26)) := f1.mono fun _ _ => trivial
  have X1 := h.fr f1 trivial trivial trivial trivial trivial
  generalize ext ow w.heap.size (t + 26) = ow1 at *
  have hb1 : Blk w1 b1 (r.ca m) T_api_Record := hb1
  refine NilF.intro rfl ⟨_, X1.blk.at (add1 _ _) rfl, err_nil X1.er (cond_not (cond_d (fun he => ?_) (fun he => ?_)))⟩
  rotate_left
  · have hk := hK w1 ow1
    unfold appR at hk
    rw [if_pos (by omega)] at hk
    exact hk ⟨H, X1⟩ F1
  have he0 : g.err = 0 := by omega
  refine NilF.intro rfl ⟨_, _, _, X1.blk.at (add1 _ _) rfl, ?_⟩
  have e1 : IntKind.wrap .i64 (((g.recs.length : Nat) : Int) + 1) = ((g.recs.length + 1 : Nat) : Int) := by rw [wrap_i64 (by omega) (by omega)]; omega
  rw [e1]
  refine StF.at rfl hb1 (Nat.le_of_ble_eq_true rfl) fun w2 hb2 k2 _ => ?_
  have hb2 : Blk w2 b1 ((nxtR g r).ca m) T_api_Record := hb2
  have k02 := kp_blk k1 hge k2
  have f2 : Fro (fun u => u ≠ t + 26) w1 ow1 w2 ow1 := Fro.of_kp' k2 fun j _ hj hne => hne (by rw [hj]; exact t1)
  have F2 : Fro (Tl t) w ow w2 ow1 := ⟨k02.of_no, F1.ag⟩
  have X2 := X1.fr f2 (by omega) (by omega) (by omega) (by omega) (by omega)
  have hi2 : LiIn w2 m (nxtR g r).live (nxtR g r).dirty := hi.kp0 k02
  refine rec_rd hb2 (check_c (r := nxtR g r) (m := m) hi2 fun w3 k3 => ⟨_, rfl, cond_ne (fun hc => ?_) (fun hc => ?_)⟩)
  · have hk := hK w3 ow1
    unfold appR at hk
    rw [if_neg (by omega), if_pos (by omega)] at hk
    exact hk ⟨H, X2.fr (Fro.kp0 k3) trivial trivial trivial trivial trivial⟩ (F2.trans ((Fro.kp0 k3).mono fun _ _ => trivial))
  have hc0 : chkN (nxtR g r) = 0 := by omega
  have X3 := X2.fr (Fro.kp0 k3) trivial trivial trivial trivial trivial
  refine free_c ⟨H, X3⟩ fun w4 k4 => ⟨_, rfl, cond_eq (fun hz => ?_) (fun hz => ?_)⟩
  · have hk := hK w4 ow1
    unfold appR at hk
    rw [if_neg (by omega), if_neg (by omega), if_pos (by omega)] at hk
    exact hk ⟨H, X3.fr (Fro.kp0 k4) trivial trivial trivial trivial trivial⟩ (F2.trans ((Fro.kp0 (k3.trans0 k4)).mono fun _ _ => trivial))
  have k34 := k3.trans0 k4
  have X4 := X3.fr (Fro.kp0 k4) trivial trivial trivial trivial trivial
  have F4 : Fro (Tl t) w ow w4 ow1 := F2.trans ((Fro.kp0 k34).mono fun _ _ => trivial)
  have hb4 := k34.blk hb2 id
  obtain ⟨en1, en2⟩ := enc_len hc0 (show (nxtR g r).w64 from h64)
  obtain ⟨cl1, cl2⟩ := chk_short hc0
  refine rec_rd hb4 (encode_c (r := nxtR g r) (m := m) (hi2.kp0 k34) h64 (fun hne => absurd hc0 hne) (fun _ a c w5 k5 hs5 fr5 => ⟨_, _, _, _, rfl, cond_ne (fun hh => absurd rfl hh) fun _ => ?_⟩))
  have f5 : Fro (fun _ => True) w4 ow1 w5 (ext ow1 w4.heap.size (t + 22)) := Fro.of_kp0 (t + 22) k5
  have X5 := X4.fr f5 trivial trivial trivial trivial trivial
  have y5 : YB w5 (ext ow1 w4.heap.size (t + 22)) (t + 22) ⟨a, (encB (nxtR g r)).length, c⟩ (encB (nxtR g r)) := ⟨rdT_new (t + 22) hs5.rd fr5, rfl, sl_some' hs5⟩
  have F5 : Fro (Tl t) w ow w5 (ext ow1 w4.heap.size (t + 22)) := F4.trans (f5.mono fun _ _ => trivial)
  obtain ⟨hb5, t5⟩ := blk_fr hb4 t1 f5 trivial
  have hi5 := (hi2.kp0 k34).kp0 k5
  generalize ext ow1 w4.heap.size (t + 22) = ow5 at *
  have kd : Kp no w5 w5.drew := Kp.drew w5 1
  have X5d := X5.fr (Fro.kp0 kd) trivial trivial trivial trivial trivial
  have hbd := kd.blk hb5 id
  refine ⟨fun w' => Blk w' lb (lgc db H g) T_log_Log ∧ Blk w' b1 ((nxtR g r).ca m) T_api_Record, ⟨X5d.blk, hbd⟩, NilF.intro rfl ⟨_, _, _, fun w' hw => hw.1.at (add1 _ _) rfl, ?_⟩⟩
  refine ⟨_, _, _, _, _, _, _, _, _, _, _, _, _, _, _, _, _, _, _, _, _, fun w' hw => ⟨hw.2.at rfl rfl, hw.2.at rfl rfl, hw.2.at rfl rfl, hw.2.at rfl rfl, hw.2.at rfl rfl, hw.2.at rfl rfl, hw.2.at rfl rfl, hw.2.at rfl rfl, hw.2.at rfl rfl, hw.2.at rfl rfl, hw.2.at rfl rfl, hw.2.at rfl rfl, hw.2.at rfl rfl, hw.2.at rfl rfl, hw.2.at rfl rfl, hw.2.at rfl rfl, hw.2.at rfl rfl, trivial⟩, ?_⟩
  have hmll : m.ll ≤ 1000 := by have := hi2.ll; omega
  have hmdl : m.dl ≤ 1000 := by have := hi2.dl; omega
  refine lown_c (r := nxtR g r) (m := m) (hi5.kp0 kd) hmll hmdl fun m' w6 k6 o6 => ⟨_, _, _, _, _, _, _, _, _, _, _, _, _, _, _, _, _, _, _, _, _, rfl, ?_⟩
  have f6 : Fro (fun _ => True) w5.drew ow5 w6 (ext ow5 w5.drew.heap.size (t + 22)) := Fro.of_kp0 (t + 22) k6
  have l6 : LiT w6 (ext ow5 w5.drew.heap.size (t + 22)) (t + 22) m' (nxtR g r) := o6.lit (t + 22) (by rw [o6.ll]; omega) (by rw [o6.dl]; omega)
  have fd : Fro (fun _ => True) w5 ow5 w5.drew ow5 := Fro.kp0 kd
  have X6 := X5d.fr f6 trivial trivial trivial trivial trivial
  have y6 := (y5.fr fd trivial).fr f6 trivial
  have F6 : Fro (Tl t) w ow w6 (ext ow5 w5.drew.heap.size (t + 22)) := (F5.trans (fd.mono fun _ _ => trivial)).trans (f6.mono fun _ _ => trivial)
  obtain ⟨hb6, t6⟩ := blk_fr hbd t5 f6 trivial
  generalize ext ow5 w5.drew.heap.size (t + 22) = ow6 at *
  refine ⟨⟨X6.blk, hb6⟩, AlF.intro fun b2 w7 hb2e hb27 k7 _ => ?_⟩
  have f7 : Fro (fun _ => True) w6 ow6 w7 (ext ow6 w6.heap.size (t + 26)) := Fro.of_kp0 (t + 26) k7
  have X7 := X6.fr f7 trivial trivial trivial trivial trivial
  have l7 := l6.fr f7 trivial
  have y7 := y6.fr f7 trivial
  have F7 := F6.trans (f7.mono fun _ _ => trivial)
  obtain ⟨hb7, t7⟩ := blk_fr hb6 t6 f7 trivial
  generalize ext ow6 w6.heap.size (t + 26) = ow7 at *
  refine ⟨⟨X7.blk, hb7⟩, ?_⟩
  have hb27 : Blk w7 b2 ((nxtR g r).ca m') T_api_Record := hb27
  refine app_c er_rec X7.rs (rd_cells hb27 (rfl : _ = cR (nxtR g r, m'))) (by rfl) (fun h => by cases h) (cR_one _) (by omega) (by omega) fun a' c' w8 hs8 k8 f8 => ⟨_, _, _, rfl, ?_⟩
  have nl : ∀ j, Is H.ra j → j ≠ lb ∧ j ≠ b1 := fun j hj => ⟨fun hh => by have := X7.rs.tg j hj; rw [hh, X7.tb] at this; omega, fun hh => by have := X7.rs.tg j hj; rw [hh, t7] at this; omega⟩
  obtain ⟨x8, tx8⟩ := blk_fr X7.blk X7.tb f8 (by omega)
  obtain ⟨hb8, t8⟩ := blk_fr hb7 t7 f8 (by omega)
  have F8 := F7.trans (f8.mono fun u hu => hu.2.1)
  have l8 := l7.fr f8 (by omega)
  have y8 := y7.fr f8 (by omega)
  have ys8 : SlO w8 T_s_uint8 H.ya H.Y.length H.yc (H.Y.map siV) := X7.ys.kp f8.kp fun j hj hn => hn (by rw [X7.yt j hj]; omega)
  have yt8 := X7.yt.fr f8 (by omega) X7.ys.lt
  obtain ⟨er8, eo8⟩ := X7.er.fr X7.eo f8 (by omega)
  have li8 := fun k h' h'' => (X7.li k h' h'').fr f8 (by omega)
  have yb8 := fun k h' h'' => (X7.yb k h' h'').fr f8 (by omega)
  generalize ext ow7 w7.heap.size (t + 21) = ow8 at *
  refine ⟨⟨x8, hb8⟩, NilF.intro rfl ?_⟩
  refine StF.at (add1 _ _) x8 (Nat.le_of_ble_eq_true rfl) fun w9 x9 k9 _ => ?_
  have f9 : Fro (fun u => u ≠ t + 20) w8 ow8 w9 ow8 := Fro.of_kp' k9 fun j _ hj hne => hne (by rw [hj]; exact tx8)
  have x9 : Blk w9 lb #[.pointer (some ⟨db, 0, none⟩), .int .i64 (g.first : Int), .int .i64 (g.count : Int), .slice a' (g.recs.length + 1) c', .slice H.ya H.Y.length H.yc, .int .i64 (g.forced : Int), H.ev] T_log_Log := x9
  have F9 := F8.trans (f9.mono fun u hu => hu.1)
  have l9 := l8.fr f9 (by omega)
  have y9 := y8.fr f9 (by omega)
  have hs9 := hs8.fr f9 (by omega)
  have ys9 : SlO w9 T_s_uint8 H.ya H.Y.length H.yc (H.Y.map siV) := ys8.kp f9.kp fun j hj hn => hn (by rw [yt8 j hj]; omega)
  have yt9 := yt8.fr f9 (by omega) ys8.lt
  obtain ⟨er9, eo9⟩ := er8.fr eo8 f9 (by omega)
  obtain ⟨hb9, t9⟩ := blk_fr hb8 t8 f9 (by omega)
  have li9 := fun k h' h'' => (li8 k h' h'').fr f9 (by omega)
  have yb9 := fun k h' h'' => (yb8 k h' h'').fr f9 (by omega)
  have ylen := X7.yl
  refine NilF.intro rfl ⟨_, _, _, x9.at (add1 _ _) rfl, pushO er_ss ys9 (v := siV ⟨a, (encB (nxtR g r)).length, c⟩) rfl (by omega) (by omega) fun ya yc w11 ys11 k11 is11 => NilF.intro rfl ?_⟩
  have f11 : Fro (fun u => u ≠ t + 23) w9 ow8 w11 (ext ow8 w9.heap.size (t + 23)) := Fro.of_kp (t + 23) k11 fun j _ hj hne => hne (yt9 j hj)
  have yt11 : Tg (ext ow8 w9.heap.size (t + 23)) (t + 23) (Is ya) := fun j hj => by
    by_cases hl : j < w9.heap.size
    · rw [ext_old hl]
      rcases is11 j hj with hh | hh
      · exact yt9 j hh
      · omega
    · exact ext_new (by omega)
  obtain ⟨x11, tx11⟩ := blk_fr x9 tx8 f11 (by omega)
  have F11 := F9.trans (f11.mono fun u hu => hu.2.2)
  have l11 := l9.fr f11 (by omega)
  have y11 := y9.fr f11 (by omega)
  have hs11 := hs9.fr f11 (by omega)
  obtain ⟨er11, eo11⟩ := er9.fr eo9 f11 (by omega)
  obtain ⟨hb11, t11⟩ := blk_fr hb9 t9 f11 (by omega)
  have li11 := fun k h' h'' => (li9 k h' h'').fr f11 (by omega)
  have yb11 := fun k h' h'' => (yb9 k h' h'').fr f11 (by omega)
  generalize ext ow8 w9.heap.size (t + 23) = ow11 at *
  refine StF.at (add1 _ _) x11 (Nat.le_of_ble_eq_true rfl) fun w12 x12 k12 _ => ?_
  have f12 : Fro (fun u => u ≠ t + 20) w11 ow11 w12 ow11 := Fro.of_kp' k12 fun j _ hj hne => hne (by rw [hj]; exact tx11)
  have F12 := F11.trans (f12.mono fun u hu => hu.1)
  have l12 := l11.fr f12 (by omega)
  have y12 := y11.fr f12 (by omega)
  have hs12 := hs11.fr f12 (by omega)
  obtain ⟨er12, eo12⟩ := er11.fr eo11 f12 (by omega)
  obtain ⟨hb12, t12⟩ := blk_fr hb11 t11 f12 (by omega)
  have li12 := fun k h' h'' => (li11 k h' h'').fr f12 (by omega)
  have yb12 := fun k h' h'' => (yb11 k h' h'').fr f12 (by omega)
  have ys12 := ys11.kp f12.kp fun j hj hn => hn (by rw [yt11 j hj]; omega)
  have yt12 := yt11.fr f12 (by omega) ys11.lt
  refine ⟨_, hb12.at rfl rfl, ?_⟩
  have hk := hK w12 ow11
  unfold appR at hk
  rw [if_neg (by omega), if_neg (by omega), if_neg (by omega)] at hk
  have elen : (g.recs ++ [nxtR g r]).length = g.recs.length + 1 := by simp
  have ylen2 : (H.Y ++ [(⟨a, (encB (nxtR g r)).length, c⟩ : SI)]).length = H.Y.length + 1 := by simp
  refine hk ⟨H.add a' c' m' ya yc ⟨a, (encB (nxtR g r)).length, c⟩, ⟨?_, tx11, ?_, ?_, ?_, ?_, yt12, ?_, ?_, er12, eo12, hok.add (by omega) hc0 h64 rfl⟩⟩ F12
  · show Blk w12 lb #[.pointer (some ⟨db, 0, none⟩), .int .i64 (g.first : Int), .int .i64 (g.count : Int), .slice a' (g.recs ++ [nxtR g r]).length c', .slice ya (H.Y ++ [(⟨a, (encB (nxtR g r)).length, c⟩ : SI)]).length yc, .int .i64 (g.forced : Int), H.ev] T_log_Log
    rw [elen, ylen2]
    exact x12
  · show (H.ms ++ [m']).length = (g.recs ++ [nxtR g r]).length
    rw [List.length_append, List.length_append, h.ml]
    rfl
  · show SlT w12 ow11 T_api_Record 17 a' (g.recs ++ [nxtR g r]).length c' (flatV cR (List.zip (g.recs ++ [nxtR g r]) (H.ms ++ [m']))) (t + 21)
    rw [elen, List.zip_append h.ml.symm, flatV_app]
    have e : flatV cR (List.zip [nxtR g r] [m']) = cR (nxtR g r, m') := by simp [flatV]
    rw [e]
    exact hs12
  · intro k hk1 hk2
    by_cases hkl : k < g.recs.length
    · have ea : (g.add (nxtR g r)).recs[k] = g.recs[k] := List.getElem_append_left hkl
      have eb : (H.add a' c' m' ya yc ⟨a, (encB (nxtR g r)).length, c⟩).ms[k] = H.ms[k]'(by rw [h.ml]; exact hkl) := List.getElem_append_left (by rw [h.ml]; exact hkl)
      rw [ea, eb]
      exact li12 k hkl _
    · have hke : k = g.recs.length := by simp [Lg.add] at hk1; omega
      subst hke
      have ea : (g.add (nxtR g r)).recs[g.recs.length] = nxtR g r := by simp [Lg.add]
      have eb : (H.add a' c' m' ya yc ⟨a, (encB (nxtR g r)).length, c⟩).ms[g.recs.length] = m' := by simp [Lh.add, ← h.ml]
      rw [ea, eb]
      exact l12
  · show SlO w12 T_s_uint8 ya (H.Y ++ [(⟨a, (encB (nxtR g r)).length, c⟩ : SI)]).length yc ((H.Y ++ [(⟨a, (encB (nxtR g r)).length, c⟩ : SI)]).map siV)
    rw [ylen2, List.map_append]
    exact ys12
  · show (H.Y ++ [(⟨a, (encB (nxtR g r)).length, c⟩ : SI)]).length = (g.recs ++ [nxtR g r]).length - g.forced
    rw [elen, ylen2]
    omega
  · intro k hk1 hk2
    by_cases hkl : k < H.Y.length
    · have ea : (g.add (nxtR g r)).recs[(g.add (nxtR g r)).forced + k] = g.recs[g.forced + k]'(by omega) := List.getElem_append_left (by show g.forced + k < g.recs.length; omega)
      have eb : (H.add a' c' m' ya yc ⟨a, (encB (nxtR g r)).length, c⟩).Y[k] = H.Y[k] := List.getElem_append_left hkl
      rw [ea, eb]
      exact yb12 k hkl (by omega)
    · have hke : k = H.Y.length := by simp [Lh.add] at hk1; omega
      subst hke
      have ef : g.forced + H.Y.length = g.recs.length := by omega
      have ea : (g.add (nxtR g r)).recs[(g.add (nxtR g r)).forced + H.Y.length] = nxtR g r := by simp [Lg.add, ef]
      have eb : (H.add a' c' m' ya yc ⟨a, (encB (nxtR g r)).length, c⟩).Y[H.Y.length] = ⟨a, (encB (nxtR g r)).length, c⟩ := by simp [Lh.add]
      rw [ea, eb]
      exact y12
end
def secL : Nat → List RV → List (List UInt8)
  | _, [] => []
  | k, r :: l => secB (k + 1) (encB r) :: secL (k + 1) l
theorem secL_len : ∀ (k : Nat) (l : List RV), (secL k l).length = l.length
  | _, [] => rfl
  | k, r :: l => by rw [secL, List.length_cons, secL_len, List.length_cons]
theorem Dv.write_100 (v : Dv) (i : Int) (b : List UInt8) : (v.write i b).1 ≤ 100 := by
  unfold Dv.write
  repeat' split
  all_goals (dsimp only; omega)
theorem Dv.sync_100 (v : Dv) : v.sync.1 ≤ 100 := by
  unfold Dv.sync
  repeat' split
  all_goals (dsimp only; omega)
theorem putL_100 : ∀ (l : List (List UInt8)) (v : Dv) (i : Int), (putL v i l).1 ≤ 100
  | [], v, i => v.sync_100
  | b :: r, v, i => by
    rw [putL]
    split
    · exact v.write_100 i b
    · exact putL_100 r _ _
def frcL (g : Lg) (n : Nat) : List (List UInt8) := secL g.forced ((g.recs.drop g.forced).take (n - g.forced))
theorem Td_of {t u : Nat} (h : t + 3 ≤ u) : Td t u := ⟨by omega, by omega, by omega⟩
theorem B8.bs {w : World} {ow : Nat → Nat} {t u b : Nat} {img : List UInt8} (h : B8 w b img) (hu : ow b = u) (ht : Td t u) (hl : img.length ≤ 100000) : Bs w ow t (some ⟨b, 0, none⟩) img := by
  obtain ⟨cur, hb, hc⟩ := h
  refine ⟨fun i v hv => ⟨b, 0, rfl, ?_, by rw [hu]; exact ht⟩, by omega, fun hh => by cases hh⟩
  rw [Nat.zero_add, hb.cell]
  rw [← hc] at hv
  simpa using hv
section
variable {w : World} {ow : Nat → Nat} {t lb db : Nat} {g : Lg} {R : Po}
theorem write_l {w : World} {ow : Nat → Nat} {t b : Nat} {v : Dv} {R : Po} {i : Int} {a : Option Addr} {l c : Nat} {bs : List UInt8} (hl : bs.length = l) (h : DX w ow t b v) (hr : Bs w ow t a bs) (hq : v.q.length ≤ 999999) (hln : v.keep.length * 8 ≤ 140737488355328)
    (hK : ∀ w' ow', DX w' ow' t b (v.write i bs).2 → Fro (Td t) w ow w' ow' → R (.returned (.int .i64 ((v.write i bs).1 : Int))) w') :
    GoC Tryz.prog F_sectors_Device_Write #[.pointer (some ⟨b, 0, none⟩), .int .i64 i, .slice a l c] w R := by
  subst hl
  exact write_c h hr hq hln hK
set_option maxHeartbeats 2000000 in
theorem force1_c {H : Lh} {v : Dv} {k1 k2 n : Nat} (h : LX w ow t lb db H g) (hd : DX w ow t db v) (hs : v.Sm 800000) (b1 : Blk w k1 #[.pointer (some ⟨lb, 0, none⟩)] T_p_log_Log) (t1 : ow k1 = t + 26) (b2 : Blk w k2 #[.int .i64 (n : Int)] T_int) (t2 : ow k2 = t + 26)
    (hf : g.forced < n) (hn : n ≤ g.recs.length)
    (hK : ∀ w' ow', DX w' ow' t db (putL v ((g.first + g.forced : Nat) : Int) (frcL g n)).2 → Fro (Td t) w ow w' ow' → ((putL v ((g.first + g.forced : Nat) : Int) (frcL g n)).1 = 0 → R (.returned (.tuple #[])) w') ∧ ((putL v ((g.first + g.forced : Nat) : Int) (frcL g n)).1 ≠ 0 → Gv 0 ((putL v ((g.first + g.forced : Nat) : Int) (frcL g n)).1 : Int) R w')) :
    GoC Tryz.prog F_log_Log_Force_1 #[.pointer (some ⟨k1, 0, none⟩), .pointer (some ⟨k2, 0, none⟩)] w R := by
  refine S_log_Log_Force_1 ?_
  unfold W_log_Log_Force_1
  have hok := h.ok
  have okf := hok.f
  have okn := hok.n
  have okc := hok.c
  have okp := hok.p
  have yl := h.yl
  have Ltot : ((g.recs.drop g.forced).take (n - g.forced)).length = n - g.forced := by rw [List.length_take, List.length_drop]; omega
  have wi : ∀ x : Nat, x ≤ 100000 → IntKind.wrap .i64 ((x : Int) + 1) = ((x + 1 : Nat) : Int) := fun x hx => by rw [wrap_i64 (by omega) (by omega)]; omega
  refine ⟨_, b1.at rfl rfl, NilF.intro rfl ⟨_, h.blk.at (add1 _ _) rfl, ?_⟩⟩
  refine loopN (fun st w' => ∃ j : Nat, j ≤ n - g.forced ∧ st.1 = ((g.forced + j + 1 : Nat) : Int) ∧ ∃ v' ow', DX w' ow' t db v' ∧ v'.Sm (800000 + j) ∧ Fro (Td t) w ow w' ow' ∧ putL v ((g.first + g.forced : Nat) : Int) (frcL g n) = putL v' ((g.first + g.forced + j : Nat) : Int) (secL (g.forced + j) (((g.recs.drop g.forced).take (n - g.forced)).drop j))) (fun st _ => n + 1 - st.1.toNat)
    ⟨0, by omega, by rw [wi _ (by omega)], v, ow, hd, hs, ⟨Kp.refl _ _, fun _ _ _ => rfl⟩, by simp [frcL]⟩ ?_
  rintro ⟨j0, u⟩ w1 ⟨j, hj, hj0, v', ow1, h1, sm1, f1, e1⟩ _
  dsimp only at hj0 ⊢
  subst hj0
  have X1 := h.fr f1 (Td_of (by omega)) (Td_of (by omega)) (Td_of (by omega)) (Td_of (by omega)) (Td_of (by omega))
  obtain ⟨c1, tc1⟩ := blk_fr b1 t1 f1 (Td_of (by omega))
  obtain ⟨c2, tc2⟩ := blk_fr b2 t2 f1 (Td_of (by omega))
  refine ⟨_, c2.at rfl rfl, cond_d (fun hlt => ?_) (fun hge => ?_)⟩
  · have hjl : j < n - g.forced := by omega
    have hjY : j < H.Y.length := by omega
    have hjr : g.forced + j < g.recs.length := by omega
    have yb := X1.yb j hjY hjr
    have m1 : IntKind.wrap .i64 (((g.forced + j + 1 : Nat) : Int) - (g.forced : Int)) = ((j + 1 : Nat) : Int) := by rw [wrap_i64 (by omega) (by omega)]; omega
    have m2 : IntKind.wrap .i64 (((j + 1 : Nat) : Int) - 1) = ((j : Nat) : Int) := by rw [wrap_i64 (by omega) (by omega)]; omega
    have m3 : IntKind.wrap .i64 (IntKind.wrap .i64 ((g.first : Int) + ((g.forced + j + 1 : Nat) : Int)) - 1) = ((g.first + g.forced + j : Nat) : Int) := by
      rw [wrap_i64 (x := (g.first : Int) + ((g.forced + j + 1 : Nat) : Int)) (by omega) (by omega), wrap_i64 (by omega) (by omega)]; omega
    have kd : Kp no w1 w1.drew := Kp.drew w1 1
    have Xd := X1.fr (Fro.kp0 kd) trivial trivial trivial trivial trivial
    refine ⟨fun w' => Blk w' k1 #[.pointer (some ⟨lb, 0, none⟩)] T_p_log_Log ∧ Blk w' lb (lgc db H g) T_log_Log ∧ Rd w' H.ya (H.Y.map siV), ⟨kd.blk c1 id, Xd.blk, Xd.ys.rd⟩, ?_⟩
    refine ⟨_, fun w' hw => hw.1.at rfl rfl, NilF.intro rfl ⟨_, fun w' hw => hw.2.1.at rfl rfl, _, fun w' hw => hw.1.at rfl rfl, NilF.intro rfl ⟨_, fun w' hw => hw.2.1.at (add1 _ _) rfl, _, fun w' hw => hw.1.at rfl rfl, NilF.intro rfl ⟨_, _, _, fun w' hw => hw.2.1.at (add1 _ _) rfl, _, fun w' hw => hw.1.at rfl rfl, NilF.intro rfl ⟨_, fun w' hw => hw.2.1.at (add1 _ _) rfl, ?_⟩⟩⟩⟩⟩
    rw [m1, m2, m3]
    refine siIS (S := fun w' => Blk w' k1 #[.pointer (some ⟨lb, 0, none⟩)] T_p_log_Log ∧ Blk w' lb (lgc db H g) T_log_Log ∧ Rd w' H.ya (H.Y.map siV)) (w0 := w1.drew) ⟨kd.blk c1 id, Xd.blk, Xd.ys.rd⟩ (fun w' hw => hw.2.2) hjY rfl rfl ?_
    obtain ⟨rc0, rc1, rc2⟩ := hok.r (g.forced + j) hjr
    obtain ⟨en1, en2⟩ := enc_len rc0 rc1
    have ybl := yb.l
    refine laid_c (n := g.forced + j + 1) ((yb.fr (Fro.kp0 kd) trivial).rd.rd) ybl (by omega) yb.z (by omega) fun b w2 hb8 k2 hge2 => ⟨_, _, _, rfl, ?_⟩
    have k12 := kd.trans0 k2
    have f2 : Fro (fun _ => True) w1 ow1 w2 (ext ow1 w1.heap.size (t + 26)) := Fro.of_kp0 (t + 26) k12
    have tb : ext ow1 w1.heap.size (t + 26) b = t + 26 := ext_new (by have := kd.size; omega)
    have h2 := h1.fr f2 trivial trivial trivial trivial
    have F2 := f1.trans (f2.mono fun _ _ => trivial)
    have X2 := X1.fr f2 trivial trivial trivial trivial trivial
    obtain ⟨d1, td1⟩ := blk_fr c1 tc1 f2 trivial
    generalize ext ow1 w1.heap.size (t + 26) = ow2 at *
    have sl : (secB (g.forced + j + 1) (encB g.recs[g.forced + j])).length = 512 := secB_len (by omega)
    have hB : Bs w2 ow2 t (some ⟨b, 0, none⟩) (secB (g.forced + j + 1) (encB g.recs[g.forced + j])) := hb8.bs tb (Td_of (by omega)) (by omega)
    refine ⟨⟨d1, X2.blk, X2.ys.rd⟩, ?_⟩
    refine write_l sl h2 hB (by have := sm1.q; omega) sm1.k fun w3 ow3 h3 f3 => ⟨_, rfl, ?_⟩
    have F3 := F2.trans f3
    have X3 := X2.fr f3 (Td_of (by omega)) (Td_of (by omega)) (Td_of (by omega)) (Td_of (by omega)) (Td_of (by omega))
    obtain ⟨e1', te1⟩ := blk_fr d1 td1 f3 (Td_of (by omega))
    refine ⟨⟨e1', X3.blk, X3.ys.rd⟩, ?_⟩
    have step : secL (g.forced + j) (((g.recs.drop g.forced).take (n - g.forced)).drop j) = secB (g.forced + j + 1) (encB g.recs[g.forced + j]) :: secL (g.forced + j + 1) (((g.recs.drop g.forced).take (n - g.forced)).drop (j + 1)) := by
      have hjj : j < ((g.recs.drop g.forced).take (n - g.forced)).length := by rw [Ltot]; exact hjl
      rw [List.drop_eq_getElem_cons hjj, secL]
      congr 3
      rw [List.getElem_take, List.getElem_drop]
    rw [step, putL] at e1
    refine asked_c (fun h0 => ⟨rfl, ⟨e1', X3.blk, X3.ys.rd⟩, ⟨j + 1, by omega, by rw [wi _ (by omega)]; rfl, _, ow3, h3, (Dv.write_sm sm1).mono (by omega), F3, ?_⟩, ?_⟩) (fun h0 => ?_)
    · rw [if_neg (by omega)] at e1
      rw [e1]
      congr 1
    · show n + 1 - (IntKind.wrap .i64 (((g.forced + j + 1 : Nat) : Int) + 1)).toNat < n + 1 - (((g.forced + j + 1 : Nat) : Int)).toNat
      rw [wi _ (by omega)]
      simp only [Int.toNat_natCast]
      omega
    · rw [if_pos (by omega)] at e1
      have hk := hK w3 ow3
      rw [e1] at hk
      exact (hk h3 F3).2 (by omega)
  · have hje : j = n - g.forced := by omega
    have en : ((g.recs.drop g.forced).take (n - g.forced)).drop j = [] := List.drop_eq_nil_of_le (by rw [Ltot]; omega)
    rw [en, secL, putL] at e1
    refine ⟨_, c1.at rfl rfl, NilF.intro rfl ⟨_, X1.blk.at rfl rfl, ?_⟩⟩
    refine sync_c h1 (by have := sm1.q; omega) sm1.k fun w3 ow3 h3 f3 => ⟨_, rfl, ?_⟩
    have F3 := f1.trans f3
    have hk := hK w3 ow3
    rw [e1] at hk
    refine asked_c (fun h0 => ⟨rfl, (hk h3 F3).1 (by omega)⟩) (fun h0 => (hk h3 F3).2 (by omega))
end
def frcP (v : Dv) (g : Lg) (n : Nat) : Nat × Dv := putL v ((g.first + g.forced : Nat) : Int) (frcL g n)
def frcR (v : Dv) (g : Lg) (n : Int) : Nat × Dv × Lg :=
  if g.err ≠ 0 then (40, v, g) else if n < 0 then (4, v, g) else if n > (g.recs.length : Int) then (4, v, g) else if n ≤ (g.forced : Int) then (0, v, g)
  else if (frcP v g n.toNat).1 ≠ 0 then ((frcP v g n.toNat).1, (frcP v g n.toNat).2, { g with err := (frcP v g n.toNat).1 }) else (0, (frcP v g n.toNat).2, { g with forced := n.toNat })
abbrev Tf (t : Nat) : Nat → Prop := fun u => Td t u ∧ u ≠ t + 20
section
variable {w : World} {ow : Nat → Nat} {t lb db : Nat} {g : Lg} {R : Po}
set_option maxHeartbeats 2000000 in
theorem force_cO {v : Dv} {n : Int} (h : LG w ow t lb db g) (hd : DX w ow t db v) (hs : v.Sm 800000) (hn : i64 n)
    (hK : ∀ e w' ow', DX w' ow' t db (frcR v g n).2.1 → LG w' ow' t lb db (frcR v g n).2.2 → Fro (Tf t) w ow w' ow' → ErrV w' e zFo 0 ((frcR v g n).1 : Int) → ErrO ow' (t + 24) e → R (.returned e) w') :
    GoC Tryz.prog F_log_Log_Force #[.pointer (some ⟨lb, 0, none⟩), .int .i64 n] w R := by
  obtain ⟨H, h⟩ := h
  refine S_log_Log_Force ?_
  unfold W_log_Log_Force
  have hok := h.ok
  have okf := hok.f
  have okn := hok.n
  have okc := hok.c
  have okp := hok.p
  have yl := h.yl
  refine AlF.intro fun b1 w1 hb1e hb1 ka _ => AlF.intro fun b2 w2 hb2e hb2 kb _ => ?_
  have k12 := ka.trans0 kb
  have hb1 := kb.blk hb1 id
  have f2 : Fro (fun _ => True) w ow w2 (ext ow w.heap.size (t + 26)) := Fro.of_kp0 (t + 26) k12
  have t1 : ext ow w.heap.size (t + 26) b1 = t + 26 := ext_new (by omega)
  have t2 : ext ow w.heap.size (t + 26) b2 = t + 26 := ext_new (by have := ka.size; omega)
  have hge1 : w.heap.size ≤ b1 := by omega
  have hge2 : w.heap.size ≤ b2 := by have := ka.size; omega
  have X := h.fr f2 trivial trivial trivial trivial trivial
  have D := hd.fr f2 trivial trivial trivial trivial
  have F : Fro (Tf t) w ow w2 (ext ow w.heap.size (t + 26)) := f2.mono fun _ _ => trivial
  generalize ext ow w.heap.size (t + 26) = ow2 at *
  -- an error that is made at once
  have bad : ∀ (e : Int) (w0 : World), Kp no w2 w0 → e ≠ 0 → frcR v g n = (e.toNat, v, g) → 0 ≤ e → AlF w0 (.cells #[.string zFo, .int .i64 0, .iface T_api_Errno (.int .i64 e)] T_api_Fault) fun b w3 => R (.returned (.iface T_p_api_Fault (.pointer (some ⟨b, 0, none⟩)))) w3 := fun e w0 k0 he hr h0 =>
    AlF.intro fun b3 w3 hb3e hb3 k3 _ => by
      have k := k0.trans0 k3
      have f : Fro (fun _ => True) w2 ow2 w3 (ext ow2 w2.heap.size (t + 24)) := Fro.of_kp0 (t + 24) k
      have hk := hK (.iface T_p_api_Fault (.pointer (some ⟨b3, 0, none⟩))) w3 (ext ow2 w2.heap.size (t + 24))
      rw [hr] at hk
      refine hk (D.fr f trivial trivial trivial trivial) ⟨H, X.fr f trivial trivial trivial trivial trivial⟩ (F.trans (f.mono fun _ _ => trivial)) (.inr ⟨?_, b3, rfl, ?_⟩) (fun b hb => by cases hb; exact ext_new (by have := k0.size; omega))
      · show ((e.toNat : Nat) : Int) ≠ 0
        omega
      · have : ((e.toNat : Nat) : Int) = e := by omega
        show Blk w3 b3 #[.string zFo, .int .i64 0, .iface T_api_Errno (.int .i64 ((e.toNat : Nat) : Int))] T_api_Fault
        rw [this]
        exact hb3
  refine ⟨_, hb1.at rfl rfl, NilF.intro rfl ⟨_, X.blk.at (add1 _ _) rfl, err_nil X.er (cond_not (cond_d (fun he => ?_) (fun he => ?_)))⟩⟩
  rotate_left
  · exact bad 40 w2 (Kp.refl _ _) (by decide) (by unfold frcR; rw [if_pos (by omega)]; rfl) (by decide)
  refine ⟨_, hb2.at rfl rfl, cond_d (fun h0 => fun kk => bad 4 _ (Kp.drew w2 kk) (by decide) (by unfold frcR; rw [if_neg (by omega), if_pos h0]; rfl) (by decide)) (fun h0 => ?_)⟩
  refine ⟨_, hb2.at rfl rfl, _, hb1.at rfl rfl, NilF.intro rfl ⟨_, _, _, X.blk.at (add1 _ _) rfl, fun kk => cond_d (fun h1 => bad 4 _ (Kp.drew w2 kk) (by decide) (by unfold frcR; rw [if_neg (by omega), if_neg h0, if_pos h1]; rfl) (by decide)) (fun h1 => ?_)⟩⟩
  have kd := Kp.drew w2 kk
  have hb1d := kd.blk hb1 id
  have hb2d := kd.blk hb2 id
  have fd : Fro (fun _ => True) w2 ow2 (w2.drewN kk) ow2 := Fro.kp0 kd
  have Xd := X.fr fd trivial trivial trivial trivial trivial
  have Dd := D.fr fd trivial trivial trivial trivial
  have Fd := F.trans (fd.mono fun _ _ => trivial)
  refine ⟨_, hb2d.at rfl rfl, _, hb1d.at rfl rfl, NilF.intro rfl ⟨_, Xd.blk.at (add1 _ _) rfl, fun k2 => cond_d (fun h2 => ?_) (fun h2 => ?_)⟩⟩
  · have ke := Kp.drew (w2.drewN kk) k2
    have fe : Fro (fun _ => True) (w2.drewN kk) ow2 ((w2.drewN kk).drewN k2) ow2 := Fro.kp0 ke
    have hr : frcR v g n = (0, v, g) := by unfold frcR; rw [if_neg (by omega), if_neg h0, if_neg h1, if_pos h2]
    have hk := hK .nilIface ((w2.drewN kk).drewN k2) ow2
    rw [hr] at hk
    exact hk (Dd.fr fe trivial trivial trivial trivial) ⟨H, Xd.fr fe trivial trivial trivial trivial trivial⟩ (Fd.trans (fe.mono fun _ _ => trivial)) (.inl ⟨rfl, rfl⟩) (ErrO.nil _ _)
  -- records are written
  obtain ⟨m, rfl⟩ := Int.eq_ofNat_of_zero_le (show 0 ≤ n by omega)
  have ke := Kp.drew (w2.drewN kk) k2
  have fe : Fro (fun _ => True) (w2.drewN kk) ow2 ((w2.drewN kk).drewN k2) ow2 := Fro.kp0 ke
  have Xe := Xd.fr fe trivial trivial trivial trivial trivial
  have De := Dd.fr fe trivial trivial trivial trivial
  have Fe := Fd.trans (fe.mono fun _ _ => trivial)
  have hb1e := ke.blk hb1d id
  have hb2e := ke.blk hb2d id
  generalize (w2.drewN kk).drewN k2 = w3 at *
  have hrn : frcR v g (m : Int) = if (frcP v g m).1 ≠ 0 then ((frcP v g m).1, (frcP v g m).2, { g with err := (frcP v g m).1 }) else (0, (frcP v g m).2, { g with forced := m }) := by
    unfold frcR
    rw [if_neg (by omega), if_neg h0, if_neg h1, if_neg h2, Int.toNat_natCast]
  refine CallF.intro (S_log_caught_Force ?_)
  unfold W_log_caught_Force
  refine AlF.intro fun c1 w4 hc1e hc1 kc _ => AlF.intro fun c2 w5 hc2e hc2 kd' _ => ?_
  have kcd := kc.trans0 kd'
  have hc1 := kd'.blk hc1 id
  have f5 : Fro (fun _ => True) w3 ow2 w5 (ext ow2 w3.heap.size (t + 27)) := Fro.of_kp0 (t + 27) kcd
  have tc1 : ext ow2 w3.heap.size (t + 27) c1 = t + 27 := ext_new (by omega)
  have tc2 : ext ow2 w3.heap.size (t + 27) c2 = t + 27 := ext_new (by have := kc.size; omega)
  have X5 := Xe.fr f5 trivial trivial trivial trivial trivial
  have D5 := De.fr f5 trivial trivial trivial trivial
  have F5 := Fe.trans (f5.mono fun _ _ => trivial)
  obtain ⟨g1, tg1⟩ := blk_fr hb1e t1 f5 trivial
  obtain ⟨g2, tg2⟩ := blk_fr hb2e t2 f5 trivial
  generalize ext ow2 w3.heap.size (t + 27) = ow5 at *
  refine force1_c X5 D5 hs g1 tg1 g2 tg2 (by omega) (by omega) fun w6 ow6 D6 f6 => ⟨fun hz => ⟨rfl, ?_⟩, fun hz => ?_⟩
  · -- all is written
    have X6 := X5.fr f6 (Td_of (by omega)) (Td_of (by omega)) (Td_of (by omega)) (Td_of (by omega)) (Td_of (by omega))
    have F6 := F5.trans (f6.mono fun _ hu => hu.1)
    obtain ⟨g1', tg1'⟩ := blk_fr g1 tg1 f6 (Td_of (by omega))
    obtain ⟨g2', tg2'⟩ := blk_fr g2 tg2 f6 (Td_of (by omega))
    obtain ⟨hc2', tc2'⟩ := blk_fr hc2 tc2 f6 (Td_of (by omega))
    refine StF.at rfl hc2' (by simp) fun w7 hc27 k7 _ => caught_back ⟨_, hc27.at rfl rfl, ?_⟩
    have f7 : Fro (fun u => u ≠ t + 27) w6 ow6 w7 ow6 := Fro.of_kp' k7 fun j _ hj hne => hne (by rw [hj]; exact tc2')
    have X7 := X6.fr f7 (by omega) (by omega) (by omega) (by omega) (by omega)
    have D7 := D6.fr f7 (by omega) (by omega) (by omega) (by omega)
    have F7 : Fro (Tf t) w ow w7 ow6 := ⟨F6.kp.trans k7 (fun _ _ h => h) (fun j hj hh => by have := F5.kp.size; have := kc.size; have := Fe.kp.size; omega), F6.ag⟩
    obtain ⟨g17, tg17⟩ := blk_fr g1' tg1' f7 (by omega)
    obtain ⟨g27, tg27⟩ := blk_fr g2' tg2' f7 (by omega)
    refine ⟨_, rfl, .inl ⟨rfl, ?_⟩⟩
    have kd8 : Kp no w7 w7.drew := Kp.drew w7 1
    have f8 : Fro (fun _ => True) w7 ow6 w7.drew ow6 := Fro.kp0 kd8
    have X8 := X7.fr f8 trivial trivial trivial trivial trivial
    have D8 := D7.fr f8 trivial trivial trivial trivial
    have F8 := F7.trans (f8.mono fun _ _ => trivial)
    have g18 := kd8.blk g17 id
    have g28 := kd8.blk g27 id
    have mw : IntKind.wrap .i64 ((m : Int) - (g.forced : Int)) = ((m - g.forced : Nat) : Int) := by rw [wrap_i64 (by omega) (by omega)]; omega
    refine ⟨_, g18.at rfl rfl, _, g18.at rfl rfl, NilF.intro rfl ⟨_, _, _, X8.blk.at (add1 _ _) rfl, _, g28.at rfl rfl, _, g18.at rfl rfl, NilF.intro rfl ⟨_, X8.blk.at (add1 _ _) rfl, ?_⟩⟩⟩
    rw [mw]
    have hyl : m - g.forced ≤ H.Y.length := by omega
    refine ⟨trivial, ⟨by omega, by show ((m - g.forced : Nat) : Int) ≤ ((H.Y.length : Nat) : Int); omega⟩, NilF.intro rfl ?_⟩
    simp only [Int.toNat_natCast]
    refine StF.at (add1 _ _) X8.blk (Nat.le_of_ble_eq_true rfl) fun w9 x9 k9 _ => ?_
    have f9 : Fro (fun u => u ≠ t + 20) w7.drew ow6 w9 ow6 := Fro.of_kp' k9 fun j _ hj hne => hne (by rw [hj]; exact X8.tb)
    obtain ⟨g19, tg19⟩ := blk_fr g18 tg17 f9 (by omega)
    obtain ⟨g29, tg29⟩ := blk_fr g28 tg27 f9 (by omega)
    refine ⟨_, g19.at rfl rfl, _, g29.at rfl rfl, NilF.intro rfl ?_⟩
    refine StF.at (add1 _ _) x9 (Nat.le_of_ble_eq_true rfl) fun w10 x10 k10 _ => ?_
    have f10 : Fro (fun u => u ≠ t + 20) w9 ow6 w10 ow6 := Fro.of_kp' k10 fun j _ hj hne => hne (by rw [hj]; exact X8.tb)
    have f810 := f9.trans f10
    have F10 := F8.trans (f810.mono fun u hu => hu.2)
    have hk := hK .nilIface w10 ow6
    rw [hrn, if_neg (by unfold frcP; omega)] at hk
    have ylen : (H.Y.drop (m - g.forced)).length = H.Y.length - (m - g.forced) := by rw [List.length_drop]
    obtain ⟨er, eo⟩ := X8.er.fr X8.eo f810 (by omega)
    refine hk (D8.fr f810 (by omega) (by omega) (by omega) (by omega)) ⟨{ H with ya := subA H.ya H.yc (m - g.forced) 1, yc := H.yc - (m - g.forced), Y := H.Y.drop (m - g.forced) }, ⟨?_, X8.tb, X8.ml, X8.rs.fr f810 (by omega), fun k h' h'' => (X8.li k h' h'').fr f810 (by omega), ?_, ?_, ?_, ?_, er, eo, ?_⟩⟩ F10 (.inl ⟨rfl, rfl⟩) (ErrO.nil _ _)
    · show Blk w10 lb #[.pointer (some ⟨db, 0, none⟩), .int .i64 (g.first : Int), .int .i64 (g.count : Int), .slice H.ra g.recs.length H.rc, .slice (subA H.ya H.yc (m - g.forced) 1) (H.Y.drop (m - g.forced)).length (H.yc - (m - g.forced)), .int .i64 (m : Int), H.ev] T_log_Log
      rw [ylen]
      exact x10
    · show SlO w10 T_s_uint8 (subA H.ya H.yc (m - g.forced) 1) (H.Y.drop (m - g.forced)).length (H.yc - (m - g.forced)) ((H.Y.drop (m - g.forced)).map siV)
      rw [ylen, List.map_drop]
      exact (X8.ys.cut hyl).kp f810.kp fun j hj hn => hn (by rw [X8.yt j (is_subA hj)]; omega)
    · intro j hj
      exact X8.yt j (is_subA hj)
    · show (H.Y.drop (m - g.forced)).length = g.recs.length - m
      rw [ylen]
      omega
    · intro k hk1 hk2
      have hk1' : k < (H.Y.drop (m - g.forced)).length := hk1
      rw [ylen] at hk1'
      have y := (X8.yb (m - g.forced + k) (by omega) (by omega)).fr f810 (by omega)
      have ea : (H.Y.drop (m - g.forced))[k]'hk1 = H.Y[m - g.forced + k]'(by omega) := by rw [List.getElem_drop]
      show YB w10 ow6 (t + 22) ((H.Y.drop (m - g.forced))[k]'hk1) (encB (g.recs[m + k]'hk2))
      rw [ea]
      have eb : g.recs[g.forced + (m - g.forced + k)]'(by omega) = g.recs[m + k]'hk2 := by congr 1; omega
      rw [eb] at y
      exact y
    · exact ⟨by show m ≤ g.recs.length; omega, okn, okc, okp, hok.e, hok.r⟩
  · -- the disk gave up
    have X6 := X5.fr f6 (Td_of (by omega)) (Td_of (by omega)) (Td_of (by omega)) (Td_of (by omega)) (Td_of (by omega))
    have F6 := F5.trans (f6.mono fun _ hu => hu.1)
    obtain ⟨g1', tg1'⟩ := blk_fr g1 tg1 f6 (Td_of (by omega))
    obtain ⟨hc1', tc1'⟩ := blk_fr hc1 tc1 f6 (Td_of (by omega))
    obtain ⟨hc2', tc2'⟩ := blk_fr hc2 tc2 f6 (Td_of (by omega))
    refine caught_pan (z := zFo) (a := 0) (by omega) hc1' hc2' fun v' w7 ev ef hc27 k7 => ⟨_, hc27.at rfl rfl, _, rfl, ?_⟩
    have f7 : Fro (fun u => u ≠ t + 27) w6 ow6 w7 (ext ow6 w6.heap.size (t + 24)) := Fro.of_kp (t + 24) k7 fun j _ hj hne => hne (by rw [hj]; exact tc2')
    have X7 := X6.fr f7 (by omega) (by omega) (by omega) (by omega) (by omega)
    have D7 := D6.fr f7 (by omega) (by omega) (by omega) (by omega)
    have hs6 := F6.kp.size
    have F7 : Fro (Tf t) w ow w7 (ext ow6 w6.heap.size (t + 24)) := ⟨F6.kp.trans k7 (fun _ _ h => h) (fun j hj hh => by have := F5.kp.size; have := kc.size; have := Fe.kp.size; omega), fun j hj hu => by rw [ext_old (by omega)]; exact F6.ag j hj hu⟩
    obtain ⟨g17, tg17⟩ := blk_fr g1' tg1' f7 (by omega)
    have eo : ErrO (ext ow6 w6.heap.size (t + 24)) (t + 24) v' := fun b hb => ext_new (ef b hb)
    generalize ext ow6 w6.heap.size (t + 24) = ow7 at *
    have p100 := putL_100 (frcL g m) v ((g.first + g.forced : Nat) : Int)
    have hk := fun e w' => hK e w' ow7
    rw [hrn, if_pos (by unfold frcP; omega)] at hk
    rcases ev with ⟨hz0, _⟩ | ⟨hne, b, rfl, hb⟩
    · exact absurd (by omega) hz
    refine .inr ⟨_, _, rfl, ⟨_, g17.at rfl rfl, NilF.intro rfl ?_⟩⟩
    refine StF.at (v := .iface T_p_api_Fault (.pointer (some ⟨b, 0, none⟩))) (add1 _ _) X7.blk (Nat.le_of_ble_eq_true rfl) fun w8 x8 k8 _ => ?_
    have f8 : Fro (fun u => u ≠ t + 20) w7 ow7 w8 ow7 := Fro.of_kp' k8 fun j _ hj hne => hne (by rw [hj]; exact X7.tb)
    have F8 := F7.trans (f8.mono fun u hu => hu.2)
    have ev8 : ErrV w8 (.iface T_p_api_Fault (.pointer (some ⟨b, 0, none⟩))) zFo 0 ((frcP v g m).1 : Int) := .inr ⟨hne, b, rfl, (blk_fr hb (eo b rfl) f8 (by omega)).1⟩
    refine hk _ w8 (D7.fr f8 (by omega) (by omega) (by omega) (by omega)) ⟨{ H with ev := .iface T_p_api_Fault (.pointer (some ⟨b, 0, none⟩)) }, ⟨x8, X7.tb, X7.ml, X7.rs.fr f8 (by omega), fun k h' h'' => (X7.li k h' h'').fr f8 (by omega), X7.ys.kp f8.kp fun j hj hn => hn (by rw [X7.yt j hj]; omega), X7.yt, X7.yl, fun k h' h'' => (X7.yb k h' h'').fr f8 (by omega), ev8, eo, ⟨okf, okn, okc, okp, p100, hok.r⟩⟩⟩ F8 ev8 eo
theorem force_c {v : Dv} {n : Int} (h : LG w ow t lb db g) (hd : DX w ow t db v) (hs : v.Sm 800000) (hn : i64 n)
    (hK : ∀ e w' ow', DX w' ow' t db (frcR v g n).2.1 → LG w' ow' t lb db (frcR v g n).2.2 → Fro (Tf t) w ow w' ow' → ErrV w' e zFo 0 ((frcR v g n).1 : Int) → R (.returned e) w') :
    GoC Tryz.prog F_log_Log_Force #[.pointer (some ⟨lb, 0, none⟩), .int .i64 n] w R :=
  force_cO h hd hs hn fun e w' ow' a b c d _ => hK e w' ow' a b c d
end
def recOf (b : List UInt8) (i : Nat) : RV := { (decB b).1 with lsn := ((i + 1 : Nat) : Int) }
def recE (b : List UInt8) (i : Nat) : Nat := if (decB b).2 = 0 then chkN (recOf b i) else (decB b).2
def readR : List (List UInt8) → Nat → Nat × List RV
  | [], _ => (0, [])
  | b :: r, i => if recE b i ≠ 0 then (i + 1, []) else ((readR r (i + 1)).1, recOf b i :: (readR r (i + 1)).2)
theorem recE_ok {b : List UInt8} {i : Nat} (h : recE b i = 0) : chkN (recOf b i) = 0 ∧ (recOf b i).w64 ∧ (recOf b i).lsn = ((i + 1 : Nat) : Int) ∧ encB (recOf b i) = b := by
  unfold recE at h
  by_cases h0 : (decB b).2 = 0
  · rw [if_pos h0] at h
    obtain ⟨h1, h2, h3, h4⟩ := dec_one h0
    exact ⟨h, h3, rfl, (enc_lsn (decB b).1 _).trans h4⟩
  · rw [if_neg h0] at h
    exact absurd h h0
theorem dec_short (b : List UInt8) : (decB b).1.live.length ≤ 32 ∧ (decB b).1.dirty.length ≤ 16 := by
  by_cases h0 : (decB b).2 = 0
  · exact chk_short (dec_one h0).1
  · unfold decB at h0 ⊢
    dsimp only at h0 ⊢
    split
    · simp
    · rename_i h1
      rw [if_neg h1] at h0
      split
      · simp
      · rename_i h2
        rw [if_neg h2] at h0
        split
        · simp
        · rename_i h3
          rw [if_neg h3] at h0
          split
          · simp
          · rename_i h4
            rw [if_neg h4] at h0
            exact absurd rfl h0
theorem LsR.own {w w' : World} {ow : Nat → Nat} {r : RV} {m : Mm} (h : LsR w' ow r m) (o : Old w w' ow) : OwnL w w' r m := by
  have nw : ∀ (a : Option Addr) (t : Nat), t ≠ 0 → Tg ow t (Is a) → Fresh w a := fun a t h0 ht k hk => by
    apply Nat.le_of_not_lt
    intro hlt
    have := o.z k hlt
    rw [ht k hk] at this
    exact h0 this
  refine ⟨?_, ?_, h.ll.symm, h.dl.symm, nw _ 4 (by decide) h.lv.tg, nw _ 5 (by decide) h.dv.tg, fun k h1 h2 => ?_⟩
  · rw [h.ll]; exact h.lv.sl
  · rw [h.dl]; exact h.dv.sl
  · have := h.lv.tg k h1
    have := h.dv.tg k h2
    omega
structure LP (w : World) (ow : Nat → Nat) (t lb db f c : Nat) (ra : Option Addr) (rc : Nat) (ms : List Mm) (recs : List RV) : Prop where
  blk : Blk w lb #[.pointer (some ⟨db, 0, none⟩), .int .i64 (f : Int), .int .i64 (c : Int), .slice ra recs.length rc, .slice none 0 0, .int .i64 0, .nilIface] T_log_Log
  tb : ow lb = t + 20
  ml : ms.length = recs.length
  rs : SlT w ow T_api_Record 17 ra recs.length rc (flatV cR (List.zip recs ms)) (t + 21)
  li : ∀ k (h : k < recs.length) (h' : k < ms.length), LiT w ow (t + 22) ms[k] recs[k]
  r : ∀ k (h : k < recs.length), chkN recs[k] = 0 ∧ (recs[k]).w64 ∧ (recs[k]).lsn = ((k + 1 : Nat) : Int)
theorem LP.fr {T : Nat → Prop} {w w' : World} {ow ow' : Nat → Nat} {t lb db f c : Nat} {ra : Option Addr} {rc : Nat} {ms : List Mm} {recs : List RV} (h : LP w ow t lb db f c ra rc ms recs) (fr : Fro T w ow w' ow') (h0 : T (t + 20)) (h1 : T (t + 21)) (h2 : T (t + 22)) : LP w' ow' t lb db f c ra rc ms recs := by
  obtain ⟨a, b⟩ := blk_fr h.blk h.tb fr h0
  exact ⟨a, b, h.ml, h.rs.fr fr h1, fun k h' h'' => (h.li k h' h'').fr fr h2, h.r⟩
structure BsL (w : World) (ow : Nat → Nat) (u : Nat) (a : Option Addr) (G : List SI) (B : List (List UInt8)) : Prop where
  g : RdT w ow (fun x => x = u) a (G.map siV)
  n : G.length = B.length
  b : ∀ k (h : k < G.length) (h' : k < B.length), YB w ow (u + 1) G[k] B[k]
  s : ∀ b ∈ B, b.length ≤ 100000
theorem BsL.fr {T : Nat → Prop} {w w' : World} {ow ow' : Nat → Nat} {u : Nat} {a : Option Addr} {G : List SI} {B : List (List UInt8)} (h : BsL w ow u a G B) (f : Fro T w ow w' ow') (h0 : T u) (h1 : T (u + 1)) : BsL w' ow' u a G B :=
  ⟨h.g.fr f fun _ hx => by rw [hx]; exact h0, h.n, fun k h' h'' => (h.b k h' h'').fr f h1, h.s⟩
abbrev Tr (t : Nat) : Nat → Prop := fun u => u ≠ t + 20 ∧ u ≠ t + 21
section
variable {w : World} {ow : Nat → Nat} {t lb db f c : Nat} {R : Po}
set_option maxHeartbeats 4000000 in
theorem lread_c {ga : Option Addr} {gl gc : Nat} {G : List SI} {B : List (List UInt8)} (h : LP w ow t lb db f c none 0 [] []) (hg : BsL w ow (t + 28) ga G B) (hl : G.length = gl) (hc : c ≤ 8192) (hf : f ≤ 8192) (hgc : gl ≤ c)
    (hbad : (readR B 0).1 ≠ 0 → ∀ w' ow', Fro (Tr t) w ow w' ow' → Gv ((readR B 0).1 : Int) 60 R w')
    (hok : (readR B 0).1 = 0 → ∀ w' ow', LG w' ow' t lb db ⟨f, c, (readR B 0).2, (readR B 0).2.length, 0⟩ → Fro (Tr t) w ow w' ow' → R (.returned (.tuple #[])) w') :
    GoC Tryz.prog F_log_Log_read #[.pointer (some ⟨lb, 0, none⟩), .slice ga gl gc] w R := by
  subst hl
  refine S_log_Log_read ?_
  unfold W_log_Log_read
  have gn := hg.n
  have wi : ∀ x : Nat, x ≤ 100000 → IntKind.wrap .i64 ((x : Int) + 1) = ((x + 1 : Nat) : Int) := fun x hx => by rw [wrap_i64 (by omega) (by omega)]; omega
  refine loopN (fun st w' => ∃ k : Nat, k ≤ G.length ∧ st.1 = (k : Int) ∧ ∃ ow' ra rc ms recs, LP w' ow' t lb db f c ra rc ms recs ∧ recs.length = k ∧ Fro (Tr t) w ow w' ow' ∧ (readR B 0).1 = (readR (B.drop k) k).1 ∧ (readR B 0).2 = recs ++ (readR (B.drop k) k).2) (fun st _ => G.length - st.1.toNat)
    ⟨0, by omega, rfl, ow, none, 0, [], [], h, rfl, ⟨Kp.refl _ _, fun _ _ _ => rfl⟩, rfl, rfl⟩ ?_
  rintro ⟨k0, u⟩ w1 ⟨k, hk, hk0, ow1, ra, rc, ms, recs, P1, hrl, F1, e1, e2⟩ _
  dsimp only at hk0 ⊢
  subst hk0
  refine cond_d (fun hlt => ?_) (fun hge => ?_)
  rotate_left
  · -- the end
    have hke : k = G.length := by omega
    have hd : B.drop k = [] := List.drop_eq_nil_of_le (by omega)
    rw [hd] at e1 e2
    have e2' : (readR B 0).2 = recs := by rw [e2]; simp [readR]
    refine NilF.intro rfl ⟨_, _, _, P1.blk.at (add1 _ _) rfl, NilF.intro rfl (StF.at (add1 _ _) P1.blk (Nat.le_of_ble_eq_true rfl) fun w2 x2 k2 _ => ?_)⟩
    have f2 : Fro (fun u => u ≠ t + 20) w1 ow1 w2 ow1 := Fro.of_kp' k2 fun j _ hj hne => hne (by rw [hj]; exact P1.tb)
    refine hok (by rw [e1]; rfl) w2 ow1 ?_ (F1.trans (f2.mono fun u hu => hu.1))
    rw [e2']
    refine ⟨⟨ra, rc, ms, none, 0, [], .nilIface⟩, ⟨x2, P1.tb, P1.ml, P1.rs.fr f2 (by omega), fun k h' h'' => (P1.li k h' h'').fr f2 (by omega), SlO.nil _ _, fun j hj => (is_none hj).elim, ?_, fun k h' => absurd h' (by simp), .inl ⟨rfl, rfl⟩, ErrO.nil _ _, ⟨Nat.le_refl _, by show recs.length ≤ c; omega, hc, hf, by show 0 ≤ 100; omega, P1.r⟩⟩⟩
    show 0 = recs.length - recs.length
    omega
  have hkl : k < G.length := by omega
  have hkb : k < B.length := by omega
  have g1 := hg.fr F1 (by omega) (by omega)
  have yb := g1.b k hkl hkb
  have bl := hg.s _ (List.getElem_mem hkb)
  have ybl := yb.l
  have hdr : B.drop k = B[k] :: B.drop (k + 1) := List.drop_eq_getElem_cons hkb
  rw [hdr] at e1 e2
  obtain ⟨sh1, sh2⟩ := dec_short B[k]
  refine siI g1.g.rd hkl rfl rfl ?_
  refine decode_c yb.rd.rd ybl yb.z (by omega) fun m w2 ow2 k2 o2 l2 => ⟨_, _, _, _, _, _, _, _, _, _, _, _, _, _, _, _, _, _, _, _, _, _, rfl, ?_⟩
  have own2 := l2.own o2
  refine rec_cp (decB B[k]).1 m fun b1 w3 h3 => ?_
  rw [wi k (by omega)]
  refine h3.st rfl (Nat.le_of_ble_eq_true rfl) fun w4 h4 k4 => ?_
  have h4 : Loc w2 w4 b1 ((recOf B[k] k).ca m) T_api_Record := h4
  have hrl' : recs.length ≤ 8192 := by omega
  have s3 := h3.nw
  have own4 : OwnL w1 w4 (recOf B[k] k) m := by
    have e := (own2.kp0 h3.kp)
    have nl : ∀ j, j < w2.heap.size → j ≠ b1 := fun j hj hh => by omega
    exact ⟨e.l.kp k4 fun j hj hh => nl j (own2.l.lt j hj) hh, e.d.kp k4 fun j hj hh => nl j (own2.d.lt j hj) hh, e.ll, e.dl, e.fl, e.fd, e.ap⟩
  have k14 := k2.trans0 h4.kp
  have hll : m.ll = (decB B[k]).1.live.length := own2.ll
  have hdl : m.dl = (decB B[k]).1.dirty.length := own2.dl
  have lin4 : LiIn w4 m (recOf B[k] k).live (recOf B[k] k).dirty := ⟨own4.l.rd, hll.symm, by omega, own4.d.rd, hdl.symm, by omega⟩
  refine ⟨fun s w5 => Kp no w4 w5 ∧ s.1 = (recE B[k] k : Int), cond_eq (fun h0 => ?_) (fun h0 => ⟨Kp.refl _ _, ?_⟩), ?_⟩
  · refine rec_rd h4.blk (check_c (r := recOf B[k] k) (m := m) lin4 fun w5 k5 => ⟨_, rfl, k5, ?_⟩)
    show ((chkN (recOf B[k] k) : Nat) : Int) = _
    unfold recE
    rw [if_pos (by omega)]
  · show (((decB B[k]).2 : Nat) : Int) = _
    unfold recE
    rw [if_neg (by omega)]
  rintro ⟨n0, u0⟩ w5 ⟨k45, hn0⟩ _
  dsimp only at hn0 ⊢
  subst hn0
  have k15 := k14.trans0 k45
  refine cond_ne (fun hne => ⟨_, _, rfl, ?_⟩) (fun he => ?_)
  · have e1' : (readR B 0).1 = k + 1 := by
      rw [e1, readR, if_pos (by omega)]
    have hb := hbad (by omega) w5 ow1 (F1.trans ((Fro.kp0 k15).mono fun _ _ => trivial))
    rw [e1'] at hb
    exact hb
  have hE : recE B[k] k = 0 := by omega
  obtain ⟨c1, c2, c3, c4⟩ := recE_ok hE
  rw [readR, if_neg (by omega)] at e1 e2
  dsimp only at e1 e2
  -- it is taken
  have f5 : Fro (fun _ => True) w1 ow1 w5 (ext ow1 w1.heap.size (t + 22)) := Fro.of_kp0 (t + 22) k15
  have P5 := P1.fr f5 trivial trivial trivial
  have F5 := F1.trans (f5.mono fun _ _ => trivial)
  have own5 := own4.kp0 k45
  have l5 : LiT w5 (ext ow1 w1.heap.size (t + 22)) (t + 22) m (recOf B[k] k) := own5.lit (t + 22) (by omega) (by omega)
  have hb5 := k45.blk h4.blk id
  have tb1 : ext ow1 w1.heap.size (t + 22) b1 = t + 22 := ext_new (by have := k2.size; omega)
  generalize ext ow1 w1.heap.size (t + 22) = ow5 at *
  have kd : Kp no w5 w5.drew := Kp.drew w5 1
  have fd : Fro (fun _ => True) w5 ow5 w5.drew ow5 := Fro.kp0 kd
  have P6 := P5.fr fd trivial trivial trivial
  have l6 := l5.fr fd trivial
  have F6 := F5.trans (fd.mono fun _ _ => trivial)
  have hb6 := kd.blk hb5 id
  refine ⟨fun w' => Blk w' lb #[.pointer (some ⟨db, 0, none⟩), .int .i64 (f : Int), .int .i64 (c : Int), .slice ra recs.length rc, .slice none 0 0, .int .i64 0, .nilIface] T_log_Log ∧ Blk w' b1 ((recOf B[k] k).ca m) T_api_Record, ⟨P6.blk, hb6⟩, NilF.intro rfl ⟨_, _, _, fun w' hw => hw.1.at (add1 _ _) rfl, ?_⟩⟩
  refine ⟨_, _, _, _, _, _, _, _, _, _, _, _, _, _, _, _, _, _, _, _, _, fun w' hw => ⟨hw.2.at rfl rfl, hw.2.at rfl rfl, hw.2.at rfl rfl, hw.2.at rfl rfl, hw.2.at rfl rfl, hw.2.at rfl rfl, hw.2.at rfl rfl, hw.2.at rfl rfl, hw.2.at rfl rfl, hw.2.at rfl rfl, hw.2.at rfl rfl, hw.2.at rfl rfl, hw.2.at rfl rfl, hw.2.at rfl rfl, hw.2.at rfl rfl, hw.2.at rfl rfl, hw.2.at rfl rfl, trivial⟩, ?_⟩
  generalize w5.drew = w6 at *
  refine AlF.intro fun b2 w7 hb2e hb27 k7 _ => ?_
  have f7 : Fro (fun _ => True) w6 ow5 w7 (ext ow5 w6.heap.size (t + 26)) := Fro.of_kp0 (t + 26) k7
  have P7 := P6.fr f7 trivial trivial trivial
  have l7 := l6.fr f7 trivial
  have F7 := F6.trans (f7.mono fun _ _ => trivial)
  obtain ⟨hb7, tb7⟩ := blk_fr hb6 tb1 f7 trivial
  generalize ext ow5 w6.heap.size (t + 26) = ow7 at *
  have hb27 : Blk w7 b2 ((recOf B[k] k).ca m) T_api_Record := hb27
  refine ⟨⟨P7.blk, hb7⟩, app_c er_rec P7.rs (rd_cells hb27 (rfl : _ = cR (recOf B[k] k, m))) (by rfl) (fun h => by cases h) (cR_one _) (by omega) (by omega) fun a' c' w8 hs8 k8 f8 => ⟨_, _, _, rfl, ?_⟩⟩
  obtain ⟨x8, tx8⟩ := blk_fr P7.blk P7.tb f8 (by omega)
  obtain ⟨hb8, tb8⟩ := blk_fr hb7 tb7 f8 (by omega)
  have F8 := F7.trans (f8.mono fun u hu => hu.2)
  have l8 := l7.fr f8 (by omega)
  have li8 := fun k h' h'' => (P7.li k h' h'').fr f8 (by omega)
  generalize ext ow7 w7.heap.size (t + 21) = ow8 at *
  refine ⟨⟨x8, hb8⟩, NilF.intro rfl (StF.at (add1 _ _) x8 (Nat.le_of_ble_eq_true rfl) fun w9 x9 k9 _ => ?_)⟩
  have f9 : Fro (fun u => u ≠ t + 20) w8 ow8 w9 ow8 := Fro.of_kp' k9 fun j _ hj hne => hne (by rw [hj]; exact tx8)
  have F9 := F8.trans (f9.mono fun u hu => hu.1)
  have l9 := l8.fr f9 (by omega)
  have hs9 := hs8.fr f9 (by omega)
  have li9 := fun k h' h'' => (li8 k h' h'').fr f9 (by omega)
  have elen : (recs ++ [recOf B[k] k]).length = recs.length + 1 := by simp
  refine ⟨⟨k + 1, by omega, rfl, ow8, a', c', ms ++ [m], recs ++ [recOf B[k] k], ⟨?_, tx8, ?_, ?_, ?_, ?_⟩, by rw [elen]; omega, F9, e1, by rw [e2]; simp⟩, ?_⟩
  · rw [elen]
    exact x9
  · rw [List.length_append, List.length_append, P1.ml]
    rfl
  · rw [elen, List.zip_append P1.ml.symm, flatV_app]
    have e : flatV cR (List.zip [recOf B[k] k] [m]) = cR (recOf B[k] k, m) := by simp [flatV]
    rw [e]
    exact hs9
  · intro j hj1 hj2
    by_cases hjl : j < recs.length
    · have ea : (recs ++ [recOf B[k] k])[j] = recs[j] := List.getElem_append_left hjl
      have eb : (ms ++ [m])[j] = ms[j]'(by rw [P1.ml]; exact hjl) := List.getElem_append_left (by rw [P1.ml]; exact hjl)
      rw [ea, eb]
      exact li9 j hjl _
    · have hje : j = recs.length := by simp at hj1; omega
      subst hje
      have ea : (recs ++ [recOf B[k] k])[recs.length] = recOf B[k] k := by simp
      have eb : (ms ++ [m])[recs.length] = m := by simp [← P1.ml]
      rw [ea, eb]
      exact l9
  · intro j hj1
    by_cases hjl : j < recs.length
    · have ea : (recs ++ [recOf B[k] k])[j] = recs[j] := List.getElem_append_left hjl
      rw [ea]
      exact P1.r j hjl
    · have hje : j = recs.length := by simp at hj1; omega
      subst hje
      have ea : (recs ++ [recOf B[k] k])[recs.length] = recOf B[k] k := by simp
      rw [ea]
      refine ⟨c1, c2, ?_⟩
      rw [c3, hrl]
  · show G.length - (((k + 1 : Nat) : Int)).toNat < G.length - ((k : Nat) : Int).toNat
    simp only [Int.toNat_natCast]
    omega
end
theorem take_map {α β : Type} (f : α → β) (l : List α) (k : Nat) (h : k < l.length) : (l.map f).take (k + 1) = (l.map f).take k ++ [f l[k]] := by
  rw [take_snoc_get _ k (by simpa using h)]
  simp
structure Ca (w0 w : World) (a : Option Addr) (n c : Nat) (X : List PD) : Prop where
  k : Kp no w0 w
  s : Sl w T_api_Pending 2 a n c (fP X)
  n : X.length = n
  f : Fresh w0 a
  x : ∀ x ∈ X, Sl w T_uint8 1 x.a x.bs.length x.c (bvs x.bs) ∧ Fresh w0 x.a ∧ ∀ j, Is x.a j → ¬ Is a j
  d : X.Pairwise fun x y => ∀ j, Is x.a j → ¬ Is y.a j
section
variable {w : World} {ow : Nat → Nat} {t b : Nat} {v : Dv} {R : Po}
set_option maxRecDepth 100000 in
theorem cache_c (h : DX w ow t b v) (hq : v.q.length ≤ 1000000) (hK : ∀ a c X w', Ca w w' a v.q.length c X → X.map PD.v = v.q → R (.returned (.slice a v.q.length c)) w') : GoC Tryz.prog F_sectors_Device_Cache #[.pointer (some ⟨b, 0, none⟩)] w R := by
  obtain ⟨H, Q, ka, kc, h⟩ := h
  have hql : v.q.length = Q.length := by rw [h.l.qv]; simp
  have hok := h.l.ok
  refine S_sectors_Device_Cache ?_
  unfold W_sectors_Device_Cache
  refine ⟨_, _, _, cN h.hb rfl, ?_⟩
  refine loopN (fun s w' => ∃ (k : Nat) (a : Option Addr) (c : Nat) (X : List PD), s = ((a, k, c), (k : Int), ()) ∧ k ≤ Q.length ∧ Ca w w' a k c X ∧ X.map PD.v = v.q.take k) (fun s _ => Q.length - s.2.1.toNat)
    ⟨0, none, 0, [], rfl, by omega, ⟨Kp.refl _ _, Sl.nil _ _ _, rfl, fun k hk => (is_none hk).elim, fun x hx => absurd hx (by simp), List.Pairwise.nil⟩, by simp⟩ ?_
  rintro s w1 ⟨k, a, c, X, rfl, hk, hC, hX⟩ _
  dsimp only
  refine cond_d (fun hlt => ?_) (fun hge => ?_)
  rotate_left
  · have hke : k = Q.length := by omega
    subst hke
    have := hK a c X w1 (by rw [hql]; exact hC) (by rw [hX, ← hql, List.take_length])
    rw [hql] at this
    exact this
  have hkl : k < Q.length := by omega
  have hkw : IntKind.wrap .i64 ((k : Int) + 1) = ((k + 1 : Nat) : Int) := by rw [wrap_i64 (by omega) (by omega)]; omega
  rw [hkw]
  have h1 := h.kp0 hC.k
  refine pdI h1.l.pl.sl.rd hkl rfl rfl ?_
  have hpb := h1.l.pb _ (List.getElem_mem hkl)
  have hvk : v.q.take (k + 1) = v.q.take k ++ [(Q[k]).v] := by rw [h.l.qv]; exact take_map PD.v Q k hkl
  have hqk := hok.q (Q[k]).v (by rw [h.l.qv]; exact List.mem_map_of_mem (List.getElem_mem hkl))
  generalize Q[k] = x at *
  refine AlF.intro fun b1 w2 hb1e hb1 k2 s2 => st2 hb1 fun w4 hb4 k4 s4 => ?_
  have k14 : Kp no w1 w4 := kp_blk k2 (by omega) k4
  have kd : Kp no w4 w4.drew := Kp.drew w4 1
  have la := hC.s.lt
  have nb1 : ¬ Is a b1 := fun hh => by have := la b1 hh; omega
  refine ⟨fun w' => Kp (Is a) w4 w', kd.of_no, _, fun w' kz => c0 (kz.blk hb4 nb1) rfl, _, _, _, fun w' kz => cN (kz.blk hb4 nb1) rfl, ?_⟩
  have hx0 : x.a = none → x.bs.length = 0 := fun h0 => sl_some' hpb.sl h0
  refine clone_c ((hpb.sl.rd.kp0 k14).kp0 kd) rfl hx0 (by have := hqk.2.2; show x.bs.length ≤ _; have e : x.v.2.length = x.bs.length := rfl; omega) fun a4 c4 w5 hs5 k5 fr5 _ => ⟨_, _, _, rfl, (kd.trans0 k5).of_no, ?_⟩
  refine AlF.intro fun b2 w6 hb2e hb2 k6 s6 => ⟨((kd.trans0 k5).trans0 k6).of_no, ?_⟩
  have k46 := (kd.trans0 k5).trans0 k6
  have k16 := k14.trans0 k46
  have sz0 := hC.k.size
  have sz1 := k14.size
  have sz5 := k5.size
  have szd := kd.size
  refine append_own er_pd (hC.s.kp0 k16) (rd_cells (xs := PD.cs ⟨x.sec, a4, c4, x.bs⟩) hb2 rfl) rfl (fun h => by cases h) (fun u hu => by
    simp only [PD.cs, List.mem_cons, List.not_mem_nil, or_false] at hu
    rcases hu with rfl | rfl <;> rfl) (by omega) (by omega) fun a5 c5 w7 hs7 k7 hi7 _ _ => ⟨_, _, _, rfl, k46.of_no.trans0 k7, ?_⟩
  have la4 := hs5.lt
  refine ⟨⟨k + 1, a5, c5, X ++ [⟨x.sec, a4, c4, x.bs⟩], rfl, by omega, ⟨?_, ?_, by simp [hC.n], fun j hj => ?_, fun y hy => ?_, List.pairwise_append.2 ⟨hC.d, List.pairwise_singleton _ _, fun y hy z hz j hj hj' => ?_⟩⟩, ?_⟩, by simp only [Int.toNat_natCast]; omega⟩
  · exact (hC.k.trans0 k16).trans k7 (fun _ _ h => h) fun j hj hh => by have := hC.f j hh; omega
  · have e : fP (X ++ [⟨x.sec, a4, c4, x.bs⟩]) = fP X ++ PD.cs ⟨x.sec, a4, c4, x.bs⟩ := by unfold fP; rw [flatV_app]; simp [flatV]
    rw [e]
    exact hs7
  · rcases hi7 j hj with hh | hh
    · exact hC.f j hh
    · have := k6.size; omega
  · rcases List.mem_append.1 hy with hy | hy
    · obtain ⟨q1, q2, q3⟩ := hC.x y hy
      refine ⟨(q1.kp0 k16).kp k7 q3, q2, fun j hj hh => ?_⟩
      have := q1.lt j hj
      rcases hi7 j hh with h' | h'
      · exact q3 j hj h'
      · have := k6.size; omega
    · rw [List.mem_singleton] at hy
      subst hy
      refine ⟨(hs5.kp0 k6).kp k7 fun j hj hh => ?_, fun j hj => ?_, fun j hj hh => ?_⟩
      · have := fr5 j hj; have := la j hh; omega
      · have := fr5 j hj; omega
      · have q1 := fr5 j hj
        have q2 := la4 j hj
        rcases hi7 j hh with h' | h'
        · have := la j h'; omega
        · have := k6.size; omega
  · rw [List.mem_singleton] at hz
    subst hz
    have := (hC.x y hy).1.lt j hj
    have := fr5 j hj'
    have := k14.size; omega
  · rw [hvk, List.map_append, hX]
    rfl
end
def zer512 : List UInt8 := List.replicate 512 0
def wipeL : Dv → Int → List (List UInt8) → Bool → Nat × Dv
  | v, _, [], q => if q then v.sync else (0, v)
  | v, i, s :: r, q => if zerosB s then wipeL v (i + 1) r q else if (v.write i zer512).1 ≠ 0 then v.write i zer512 else wipeL (v.write i zer512).2 (i + 1) r true
theorem wipeL_sm : ∀ (l : List (List UInt8)) {v : Dv} {i : Int} {q : Bool} {m : Nat}, v.Sm m → (wipeL v i l q).2.Sm (m + l.length)
  | [], v, i, q, m, h => by
    rw [wipeL]
    split
    · exact Dv.sync_sm h
    · exact h
  | s :: r, v, i, q, m, h => by
    rw [wipeL]
    have h1 := Dv.write_sm (i := i) (b := zer512) h
    split
    · have := wipeL_sm r (i := i + 1) (q := q) h
      exact this.mono (by simp only [List.length_cons]; omega)
    split
    · exact h1.mono (by simp only [List.length_cons]; omega)
    · have := wipeL_sm r (i := i + 1) (q := true) h1
      exact this.mono (by simp only [List.length_cons]; omega)
theorem foundN_sec : ∀ (S : List (List UInt8)) (i k : Nat) (h : k < S.length), k < foundN S i → isSec S[k] (i + k + 1) = true
  | [], _, _, h, _ => absurd h (by simp)
  | s :: r, i, 0, _, hk => by
    rw [foundN] at hk
    split at hk
    · rename_i h; exact h
    · omega
  | s :: r, i, k + 1, h, hk => by
    rw [foundN] at hk
    split at hk
    · have := foundN_sec r (i + 1) k (by simpa using h) (by omega)
      rw [show i + 1 + k + 1 = i + (k + 1) + 1 by omega] at this
      exact this
    · omega
theorem isSec_n {s : List UInt8} {n : Nat} (h : isSec s n = true) : 1 ≤ bytN s ∧ bytN s ≤ 502 := by
  unfold isSec at h
  simp only [Bool.and_eq_true, decide_eq_true_eq] at h
  omega
theorem RdT.sub {w : World} {ow : Nat → Nat} {U : Nat → Prop} {a : Option Addr} {c lo n : Nat} {bs : List UInt8} (h : RdT w ow U a (bvs bs)) (hn : lo < bs.length) (hc : lo < c) : RdT w ow U (subA a c lo 1) (bvs ((bs.drop lo).take n)) := fun i v hv => by
  unfold bvs at hv
  rw [List.getElem?_map, List.getElem?_take] at hv
  split at hv
  · rw [List.getElem?_drop] at hv
    obtain ⟨b, o, ha, hcell, hu⟩ := h (lo + i) v (by unfold bvs; rw [List.getElem?_map]; exact hv)
    subst ha
    refine ⟨b, o + lo, ?_, by rw [Nat.add_assoc]; exact hcell, hu⟩
    unfold subA
    rw [if_neg (by omega)]
    simp [Addr.add]
  · cases hv
structure SecT (w : World) (ow : Nat → Nat) (u : Nat) (a : Option Addr) (G : List SI) (S : List (List UInt8)) : Prop where
  b : BsL w ow u a G S
  l : ∀ s ∈ S, s.length = 512
  c : ∀ k (h : k < G.length), 512 ≤ (G[k]).c
theorem SecT.fr {T : Nat → Prop} {w w' : World} {ow ow' : Nat → Nat} {u : Nat} {a : Option Addr} {G : List SI} {S : List (List UInt8)} (h : SecT w ow u a G S) (f : Fro T w ow w' ow') (h0 : T u) (h1 : T (u + 1)) : SecT w' ow' u a G S := ⟨h.b.fr f h0 h1, h.l, h.c⟩
theorem SecT.gl {w : World} {ow : Nat → Nat} {u : Nat} {a : Option Addr} {G : List SI} {S : List (List UInt8)} (h : SecT w ow u a G S) {k : Nat} (hk : k < G.length) : (G[k]).l = 512 := by
  have hn := h.b.n
  have := (h.b.b k hk (by omega)).l
  rw [← this]
  exact h.l _ (List.getElem_mem _)
theorem SecT.secs {w : World} {ow : Nat → Nat} {u : Nat} {a : Option Addr} {G : List SI} {S : List (List UInt8)} (h : SecT w ow u a G S) : Secs w G S :=
  ⟨h.b.n, fun k h1 h2 => (h.b.b k h1 h2).rd.rd, h.l, fun k hk => ⟨h.gl hk, h.c k hk⟩⟩
theorem SecT.cut {w w' : World} {ow : Nat → Nat} {t : Nat} {a : Option Addr} {G : List SI} {S : List (List UInt8)} (h : SecT w ow (t + 28) a G S) {a' : Option Addr} {c' : Nat} (hs : Sl w' T_s_uint8 1 a' (foundN S 0) c' (((cutS G S).take (foundN S 0)).map siV)) (k : Kp no w w') (hf : Fresh w a') :
    BsL w' (ext ow w.heap.size (t + 28)) (t + 28) a' ((cutS G S).take (foundN S 0)) ((S.take (foundN S 0)).map bytB) := by
  have hn := h.b.n
  have hle := foundN_le S 0
  have hcl := cutS_len hn
  have f : Fro (fun _ => True) w ow w' (ext ow w.heap.size (t + 28)) := Fro.of_kp0 (t + 28) k
  refine ⟨rdT_new (t + 28) hs.rd hf, by simp [hcl]; omega, fun j h1 h2 => ?_, fun b hb => ?_⟩
  · have hjl : j < foundN S 0 := by simp at h2; omega
    have hjs : j < S.length := by omega
    have hjg : j < G.length := by omega
    have e1 : ((cutS G S).take (foundN S 0))[j] = cutG G[j] S[j] := by
      rw [List.getElem_take]
      have := cutS_get hjg hjs
      rw [List.getElem?_eq_getElem (by omega)] at this
      exact Option.some.inj this
    have e2 : ((S.take (foundN S 0)).map bytB)[j] = bytB S[j] := by rw [List.getElem_map, List.getElem_take]
    rw [e1, e2]
    obtain ⟨n1, n2⟩ := isSec_n (foundN_sec S 0 j hjs hjl)
    have sl : (S[j]).length = 512 := h.l _ (List.getElem_mem _)
    have rd := (h.b.b j hjg hjs).rd
    have rd' : RdT w' (ext ow w.heap.size (t + 28)) (fun x => x = t + 28 + 1) (G[j]).a (bvs S[j]) := rd.fr f fun _ _ => trivial
    refine ⟨rd'.sub (by omega) (by have := h.c j hjg; omega), ?_, fun hz => ?_⟩
    · unfold bytB cutG
      rw [List.length_take, List.length_drop]
      dsimp only
      omega
    · exfalso
      obtain ⟨b, o, ha, _⟩ := rd 0 _ (bvs_get (by omega : 0 < (S[j]).length))
      unfold cutG at hz
      dsimp only at hz
      rw [ha] at hz
      unfold subA at hz
      split at hz <;> cases hz
  · obtain ⟨s, hs', rfl⟩ := List.mem_map.1 hb
    have := h.l s (List.mem_of_mem_take hs')
    unfold bytB
    rw [List.length_take, List.length_drop]
    omega
section
variable {w : World} {ow : Nat → Nat} {t lb db : Nat} {g : Lg} {R : Po}
set_option maxHeartbeats 2000000 in
theorem lwipe_c {ga : Option Addr} {gl gc : Nat} {G : List SI} {S : List (List UInt8)} {v : Dv} (h : LG w ow t lb db g) (hd : DX w ow t db v) (hs : v.Sm 700000) (hg : SecT w ow (t + 28) ga G S) (hl : G.length = gl) (hc : gl = g.count)
    (hK : ∀ w' ow', DX w' ow' t db (wipeL v ((g.first + g.recs.length : Nat) : Int) (S.drop g.recs.length) false).2 → Fro (Td t) w ow w' ow' →
      ((wipeL v ((g.first + g.recs.length : Nat) : Int) (S.drop g.recs.length) false).1 = 0 → R (.returned (.tuple #[])) w') ∧ ((wipeL v ((g.first + g.recs.length : Nat) : Int) (S.drop g.recs.length) false).1 ≠ 0 → Gv 0 ((wipeL v ((g.first + g.recs.length : Nat) : Int) (S.drop g.recs.length) false).1 : Int) R w')) :
    GoC Tryz.prog F_log_Log_wipe #[.pointer (some ⟨lb, 0, none⟩), .slice ga gl gc] w R := by
  subst hl
  obtain ⟨H, h⟩ := h
  refine S_log_Log_wipe ?_
  unfold W_log_Log_wipe
  have hok := h.ok
  have okn := hok.n
  have okc := hok.c
  have okp := hok.p
  have gn := hg.b.n
  have wi : ∀ x : Nat, x ≤ 100000 → IntKind.wrap .i64 ((x : Int) + 1) = ((x + 1 : Nat) : Int) := fun x hx => by rw [wrap_i64 (by omega) (by omega)]; omega
  refine NilF.intro rfl ⟨_, _, _, h.blk.at (add1 _ _) rfl, ?_⟩
  generalize hP : wipeL v ((g.first + g.recs.length : Nat) : Int) (S.drop g.recs.length) false = p at hK
  refine loopN (fun st w' => ∃ i : Nat, i ≤ g.count ∧ st.2.1 = (i : Int) ∧ ∃ v' ow', DX w' ow' t db v' ∧ v'.Sm (700000 + i) ∧ Fro (Td t) w ow w' ow' ∧ wipeL v' ((g.first + i : Nat) : Int) (S.drop i) st.1 = p) (fun st _ => g.count - st.2.1.toNat)
    ⟨g.recs.length, okn, rfl, v, ow, hd, hs.mono (by omega), ⟨Kp.refl _ _, fun _ _ _ => rfl⟩, hP⟩ ?_
  rintro ⟨q, i0, u⟩ w1 ⟨i, hi, hi0, v', ow1, h1, sm1, f1, e1⟩ _
  dsimp only at hi0 e1 ⊢
  subst hi0
  have X1 := h.fr f1 (Td_of (by omega)) (Td_of (by omega)) (Td_of (by omega)) (Td_of (by omega)) (Td_of (by omega))
  have g1 := hg.fr f1 (Td_of (by omega)) (Td_of (by omega))
  refine NilF.intro rfl ⟨_, X1.blk.at (add1 _ _) rfl, cond_d (fun hlt => ?_) (fun hge => ?_)⟩
  · have hil : i < G.length := by omega
    have his : i < S.length := by omega
    have sl : (S[i]).length = 512 := hg.l _ (List.getElem_mem _)
    have hdr : S.drop i = S[i] :: S.drop (i + 1) := List.drop_eq_getElem_cons his
    rw [hdr, wipeL] at e1
    refine siI g1.b.g.rd hil rfl rfl ?_
    rw [hg.gl hil]
    refine lblank_c ((g1.b.b i hil his).rd.rd) sl (by omega) ⟨_, rfl, cond_not (cond_b (fun hz => ?_) (fun hz => ?_))⟩
    · rw [hz, if_pos rfl] at e1
      rw [wi i (by omega)]
      refine ⟨⟨i + 1, by omega, rfl, v', ow1, h1, sm1.mono (by omega), f1, by rw [← e1]; congr 1⟩, ?_⟩
      show g.count - (((i + 1 : Nat) : Int)).toNat < g.count - ((i : Nat) : Int).toNat
      simp only [Int.toNat_natCast]
      omega
    · rw [hz, if_neg (by simp)] at e1
      have kd : Kp no w1 w1.drew := Kp.drew w1 1
      have fd : Fro (fun _ => True) w1 ow1 w1.drew ow1 := Fro.kp0 kd
      have X2 := X1.fr fd trivial trivial trivial trivial trivial
      have h2 := h1.fr fd trivial trivial trivial trivial
      have F2 := f1.trans (fd.mono fun _ _ => trivial)
      refine ⟨fun w' => Blk w' lb (lgc db H g) T_log_Log, X2.blk, NilF.intro rfl ⟨_, fun w' hw => hw.at rfl rfl, NilF.intro rfl ⟨_, fun w' hw => hw.at (add1 _ _) rfl, ?_⟩⟩⟩
      refine make_u8 (n := 512) (by omega) fun b w3 cur hb3 hcur k3 hbe => ⟨_, _, _, rfl, ?_⟩
      have x3 : B8 w3 b zer512 := ⟨cur, hb3, hcur⟩
      have f3 : Fro (fun _ => True) w1.drew ow1 w3 (ext ow1 w1.drew.heap.size (t + 26)) := Fro.of_kp0 (t + 26) k3
      have tb : ext ow1 w1.drew.heap.size (t + 26) b = t + 26 := ext_new (by omega)
      have X3 := X2.fr f3 trivial trivial trivial trivial trivial
      have h3 := h2.fr f3 trivial trivial trivial trivial
      have F3 := F2.trans (f3.mono fun _ _ => trivial)
      generalize ext ow1 w1.drew.heap.size (t + 26) = ow3 at *
      have zl : zer512.length = 512 := List.length_replicate
      have hB : Bs w3 ow3 t (some ⟨b, 0, none⟩) zer512 := x3.bs tb (Td_of (by omega)) (by omega)
      have m1 : IntKind.wrap .i64 ((g.first : Int) + (i : Int)) = ((g.first + i : Nat) : Int) := by rw [wrap_i64 (by omega) (by omega)]; omega
      rw [m1]
      refine ⟨X3.blk, write_l zl h3 hB (by have := sm1.q; omega) sm1.k fun w4 ow4 h4 f4 => ⟨_, rfl, ?_⟩⟩
      have F4 := F3.trans f4
      have X4 := X3.fr f4 (Td_of (by omega)) (Td_of (by omega)) (Td_of (by omega)) (Td_of (by omega)) (Td_of (by omega))
      refine ⟨X4.blk, asked_c (fun h0 => ⟨rfl, X4.blk, ?_⟩) (fun h0 => ?_)⟩
      · rw [if_neg (by omega)] at e1
        rw [wi i (by omega)]
        refine ⟨⟨i + 1, by omega, rfl, _, ow4, h4, (Dv.write_sm sm1).mono (by omega), F4, by rw [← e1]; congr 1⟩, ?_⟩
        show g.count - (((i + 1 : Nat) : Int)).toNat < g.count - ((i : Nat) : Int).toNat
        simp only [Int.toNat_natCast]
        omega
      · rw [if_pos (by omega)] at e1
        have hk := hK w4 ow4
        rw [← e1] at hk
        exact (hk h4 F4).2 (by omega)
  · have hd0 : S.drop i = [] := List.drop_eq_nil_of_le (by omega)
    rw [hd0, wipeL] at e1
    refine cond_b (fun hq => ?_) (fun hq => ?_)
    · rw [hq, if_pos rfl] at e1
      refine NilF.intro rfl ⟨_, X1.blk.at rfl rfl, sync_c h1 (by have := sm1.q; omega) sm1.k fun w3 ow3 h3 f3 => ⟨_, rfl, ?_⟩⟩
      have hk := hK w3 ow3
      rw [← e1] at hk
      refine asked_c (fun h0 => ⟨rfl, (hk h3 (f1.trans f3)).1 (by omega)⟩) (fun h0 => (hk h3 (f1.trans f3)).2 (by omega))
    · rw [hq, if_neg (by simp)] at e1
      have hk := hK w1 ow1
      rw [← e1] at hk
      exact (hk h1 f1).1 rfl
end
theorem readL_len {i : Int} : ∀ (q : List (Int × List UInt8)) (b : List UInt8), (∀ p ∈ q, p.2.length = 512) → b.length = 512 → (readL i q b).length = 512
  | [], b, _, h => h
  | p :: r, b, hq, h => by
    rw [readL]
    refine readL_len r _ (fun x hx => hq x (by simp [hx])) ?_
    split
    · exact hq p (by simp)
    · exact h
theorem Dv.Ok.read_at {v : Dv} (h : v.Ok) (hd : v.down = false) {i : Int} (h0 : 0 ≤ i) (h1 : i < (v.n : Int)) : (v.read i).2 = 0 ∧ (v.read i).1.length = 512 := by
  unfold Dv.read
  rw [hd, if_neg (by simp), if_neg (fun hh => hh ⟨h0, h1⟩)]
  exact ⟨rfl, readL_len _ _ (fun p hp => (h.q p hp).2.2) (sect_len h (by omega))⟩
def placeBad (n : Nat) (f c : Int) : Prop := f < 0 ∨ c < 1 ∨ c > (n : Int) ∨ f > (n : Int) - c
instance (n : Nat) (f c : Int) : Decidable (placeBad n f c) := inferInstanceAs (Decidable (_ ∨ _))
def syncQ (v : Dv) : Nat × Dv := if v.q.length > 0 then v.sync else (0, v)
def secsOf (v : Dv) (f c : Nat) : List (List UInt8) := (List.range c).map fun i => (v.read ((f + i : Nat) : Int)).1
def bytsOf (S : List (List UInt8)) : List (List UInt8) := (S.take (foundN S 0)).map bytB
def readS (v : Dv) (f c : Nat) : Nat × List RV := readR (bytsOf (secsOf v f c)) 0
def wipeS (v : Dv) (f c : Nat) : Nat × Dv := wipeL v ((f + (readS v f c).2.length : Nat) : Int) ((secsOf v f c).drop (readS v f c).2.length) false
def openS (v : Dv) (f c : Nat) : (Nat × Nat) × Dv × List RV :=
  if (readS v f c).1 ≠ 0 then (((readS v f c).1, 60), v, []) else if (wipeS v f c).1 ≠ 0 then ((0, (wipeS v f c).1), (wipeS v f c).2, []) else ((0, 0), (wipeS v f c).2, (readS v f c).2)
def openR (v : Dv) (f c : Int) : (Nat × Nat) × Dv × List RV :=
  if placeBad v.n f c then ((0, 4), v, []) else if v.down then ((0, 40), v, []) else if (syncQ v).1 ≠ 0 then ((0, (syncQ v).1), (syncQ v).2, []) else openS (syncQ v).2 f.toNat c.toNat
theorem sync_n {v : Dv} (h : v.Ok) : v.sync.2.n = v.n := putL_n [] 0 h
theorem syncQ_ok {v : Dv} (h : v.Ok) : (syncQ v).2.Ok ∧ (syncQ v).2.n = v.n := by
  unfold syncQ
  split
  · exact ⟨h.sync, sync_n h⟩
  · exact ⟨h, rfl⟩
theorem sync_up {v : Dv} (h : v.sync.1 = 0) : v.sync.2.down = false := by
  unfold Dv.sync at h ⊢
  split
  · rename_i hd
    rw [if_pos hd] at h
    cases h
  · rename_i hd
    rw [if_neg hd] at h
    split
    · rename_i h1
      rw [if_pos h1] at h
      cases h
    · simpa [Dv.synced, Dv.bump] using hd
theorem syncQ_up {v : Dv} (hd : v.down = false) (h : (syncQ v).1 = 0) : (syncQ v).2.down = false := by
  unfold syncQ at h ⊢
  split
  · rename_i hq
    rw [if_pos hq] at h
    exact sync_up h
  · exact hd
theorem secsOf_len (v : Dv) (f c : Nat) : (secsOf v f c).length = c := by simp [secsOf]
theorem secsOf_get (v : Dv) {f c i : Nat} (h : i < (secsOf v f c).length) : (secsOf v f c)[i] = (v.read ((f + i : Nat) : Int)).1 := by simp [secsOf]
abbrev To (t : Nat) : Nat → Prop := fun u => Td t u ∧ u ≠ t + 20 ∧ u ≠ t + 21 ∧ u ≠ t + 28
theorem To_of {t u : Nat} (h : t + 22 ≤ u) (h2 : u ≠ t + 28) : To t u := ⟨Td_of (by omega), by omega, by omega, h2⟩
section
variable {w : World} {ow : Nat → Nat} {t lb db : Nat} {R : Po}
set_option maxHeartbeats 4000000 in
theorem open1_c {v : Dv} {k1 k2 k3 k4 : Nat} {f c : Int} (hd : DX w ow t db v) (hs : v.Sm 600000)
    (b1 : Blk w k1 #[.pointer (some ⟨db, 0, none⟩)] T_p_sectors_Device) (t1 : ow k1 = t + 26) (b2 : Blk w k2 #[.int .i64 f] T_int) (t2 : ow k2 = t + 26) (b3 : Blk w k3 #[.int .i64 c] T_int) (t3 : ow k3 = t + 26) (b4 : Blk w k4 #[.pointer (some ⟨lb, 0, none⟩)] T_p_log_Log) (t4 : ow k4 = t + 26)
    (hf : i64 f) (hc : i64 c) (hl : Blk w lb #[.pointer (some ⟨db, 0, none⟩), .int .i64 f, .int .i64 c, .slice none 0 0, .slice none 0 0, .int .i64 0, .nilIface] T_log_Log) (tl : ow lb = t + 20)
    (hbad : (openR v f c).1.2 ≠ 0 → ∀ w' ow', DX w' ow' t db (openR v f c).2.1 → Fro (To t) w ow w' ow' → Gv ((openR v f c).1.1 : Int) ((openR v f c).1.2 : Int) R w')
    (hok : (openR v f c).1.2 = 0 → ∀ w' ow', DX w' ow' t db (openR v f c).2.1 → LG w' ow' t lb db ⟨f.toNat, c.toNat, (openR v f c).2.2, (openR v f c).2.2.length, 0⟩ → Fro (To t) w ow w' ow' → R (.returned (.tuple #[])) w') :
    GoC Tryz.prog F_log_Open_1 #[.pointer (some ⟨k1, 0, none⟩), .pointer (some ⟨k2, 0, none⟩), .pointer (some ⟨k3, 0, none⟩), .pointer (some ⟨k4, 0, none⟩)] w R := by
  refine S_log_Open_1 ?_
  unfold W_log_Open_1
  obtain ⟨hf1, hf2⟩ := hf
  obtain ⟨hc1, hc2⟩ := hc
  have vok := hd.ok
  have n2 := vok.n2
  have bad0 : ∀ (e : Nat) (w' : World), Kp no w w' → e ≠ 0 → openR v f c = ((0, e), v, []) → Gv 0 (e : Int) R w' := fun e w' k he hr => by
    have hb := hbad
    rw [hr] at hb
    exact hb he w' ow (hd.kp0 k) ((Fro.kp0 k).mono fun _ _ => trivial)
  refine ⟨fun _ w' => Kp no w w' ∧ ¬ placeBad v.n f c ∧ v.down = false, ⟨_, b1.at rfl rfl, cond_f rfl ?_⟩, ?_⟩
  · have kd : Kp no w w.drew := Kp.drew w 1
    have c1 := kd.blk b1 id
    have c2 := kd.blk b2 id
    have c3 := kd.blk b3 id
    have hdd := hd.kp0 kd
    have pl : placeBad v.n f c → openR v f c = ((0, 4), v, []) := fun h => by unfold openR; rw [if_pos h]
    refine ⟨fun w' => Blk w' k1 #[.pointer (some ⟨db, 0, none⟩)] T_p_sectors_Device ∧ Blk w' k2 #[.int .i64 f] T_int ∧ Blk w' k3 #[.int .i64 c] T_int, ⟨c1, c2, c3⟩, ?_⟩
    refine ⟨_, fun w' hw => hw.2.1.at rfl rfl, cond_d (fun h0 => asked_c (fun h => absurd h (by decide)) (fun _ => bad0 4 _ kd (by decide) (pl (.inl h0)))) (fun h0 => ?_)⟩
    refine ⟨_, fun w' hw => hw.2.2.at rfl rfl, cond_d (fun h1 => asked_c (fun h => absurd h (by decide)) (fun _ => bad0 4 _ kd (by decide) (pl (.inr (.inl h1))))) (fun h1 => ?_)⟩
    refine ⟨_, fun w' hw => hw.2.2.at rfl rfl, _, fun w' hw => hw.1.at rfl rfl, size_c hdd ⟨_, rfl, ⟨c1, c2, c3⟩, cond_d (fun h2 => asked_c (fun h => absurd h (by decide)) (fun _ => bad0 4 _ kd (by decide) (pl (.inr (.inr (.inl h2)))))) (fun h2 => ?_)⟩⟩
    refine ⟨_, fun w' hw => hw.2.1.at rfl rfl, _, fun w' hw => hw.1.at rfl rfl, _, fun w' hw => hw.2.2.at rfl rfl, size_c hdd ⟨_, rfl, ⟨c1, c2, c3⟩, ?_⟩⟩
    rw [wrap_i64 (by omega) (by omega)]
    refine cond_d (fun h3 => asked_c (fun h => absurd h (by decide)) (fun _ => bad0 4 _ kd (by decide) (pl (.inr (.inr (.inr h3)))))) (fun h3 => ?_)
    have np : ¬ placeBad v.n f c := fun hh => by rcases hh with h | h | h | h <;> omega
    refine ⟨_, c1.at rfl rfl, down_c hdd ⟨_, rfl, cond_b (fun hq => asked_c (fun h => absurd h (by decide)) (fun _ => bad0 40 _ kd (by decide) ?_)) (fun hq => ⟨kd, np, hq⟩)⟩⟩
    unfold openR
    rw [if_neg np, if_pos hq]
  rintro _ w1 ⟨k01, np, hdn⟩ _
  have np' : 0 ≤ f ∧ 1 ≤ c ∧ c ≤ (v.n : Int) ∧ f ≤ (v.n : Int) - c := by
    unfold placeBad at np
    omega
  obtain ⟨fN, rfl⟩ := Int.eq_ofNat_of_zero_le np'.1
  obtain ⟨cN, rfl⟩ := Int.eq_ofNat_of_zero_le (show 0 ≤ c by omega)
  have hO : openR v (fN : Int) (cN : Int) = if (syncQ v).1 ≠ 0 then ((0, (syncQ v).1), (syncQ v).2, []) else openS (syncQ v).2 fN cN := by
    unfold openR
    rw [if_neg np, if_neg (by simp [hdn]), Int.toNat_natCast, Int.toNat_natCast]
  have f01 : Fro (fun _ => True) w ow w1 ow := Fro.kp0 k01
  have D1 := hd.kp0 k01
  have c1 := k01.blk b1 id
  -- the sync
  refine ⟨fun _ w' => ∃ ow', DX w' ow' t db (syncQ v).2 ∧ Fro (Td t) w ow w' ow' ∧ (syncQ v).1 = 0, ⟨_, c1.at rfl rfl, cache_c D1 (by have := hs.q; omega) fun a cc X w2 ca hX => ⟨_, _, _, rfl, ?_⟩⟩, ?_⟩
  · have k12 := ca.k
    have F2 : Fro (Td t) w ow w2 ow := (Fro.kp0 (k01.trans0 k12)).mono fun _ _ => trivial
    have D2 := D1.kp0 k12
    have c2 := k12.blk c1 id
    refine cond_d (fun hq => ?_) (fun hq => ⟨ow, ?_, F2, ?_⟩)
    · have hsq : syncQ v = v.sync := by unfold syncQ; rw [if_pos (by omega)]
      refine ⟨_, c2.at rfl rfl, sync_c D2 (by have := hs.q; omega) hs.k fun w3 ow3 D3 f3 => ⟨_, rfl, asked_c (fun h0 => ⟨rfl, ow3, by rw [hsq]; exact D3, F2.trans f3, by rw [hsq]; omega⟩) (fun h0 => ?_)⟩⟩
      have hb := hbad
      rw [hO, hsq, if_pos (by omega)] at hb
      exact hb (by show v.sync.1 ≠ 0; omega) w3 ow3 D3 ((F2.trans f3).mono fun _ hu => hu.1)
    · have hsq : syncQ v = (0, v) := by unfold syncQ; rw [if_neg (by omega)]
      rw [hsq]
      exact D2
    · unfold syncQ
      rw [if_neg (by omega)]
  rintro _ w2 ⟨ow2, D2, F2, hz⟩ _
  rw [if_neg (by omega)] at hO
  rw [hO] at hbad hok
  obtain ⟨vok1, vn1⟩ := syncQ_ok vok
  have vup := syncQ_up hdn hz
  have vs : (syncQ v).2.Sm 600000 := by
    unfold syncQ
    split
    · exact Dv.sync_sm hs
    · exact hs
  generalize (syncQ v).2 = v1 at *
  simp only [Int.toNat_natCast] at hok
  have S512 : ∀ i, i < cN → (v1.read ((fN + i : Nat) : Int)).2 = 0 ∧ (v1.read ((fN + i : Nat) : Int)).1.length = 512 := fun i hi => vok1.read_at vup (by omega) (by omega)
  have tdk : ∀ {x : Nat}, t + 3 ≤ x → Td t x := fun h => Td_of h
  obtain ⟨b12, t12⟩ := blk_fr b1 t1 F2 (tdk (by omega))
  obtain ⟨b22, t22⟩ := blk_fr b2 t2 F2 (tdk (by omega))
  obtain ⟨b32, t32⟩ := blk_fr b3 t3 F2 (tdk (by omega))
  obtain ⟨b42, t42⟩ := blk_fr b4 t4 F2 (tdk (by omega))
  obtain ⟨hl2, tl2⟩ := blk_fr hl tl F2 (tdk (by omega))
  have P2 : LP w2 ow2 t lb db fN cN none 0 [] [] := ⟨hl2, tl2, rfl, slt_nil _ _ _ _ _, fun k h => absurd h (by simp), fun k h => absurd h (by simp)⟩
  have ls := secsOf_len v1 fN cN
  refine ⟨_, b32.at rfl rfl, ?_⟩
  have wi : ∀ x : Nat, x ≤ 100000 → IntKind.wrap .i64 ((x : Int) + 1) = ((x + 1 : Nat) : Int) := fun x hx => by rw [wrap_i64 (by omega) (by omega)]; omega
  refine loopN (fun st w' => ∃ i : Nat, i ≤ cN ∧ st.2.1 = (i : Int) ∧ ∃ ow' G, Fro (fun u => u ≠ t + 28) w2 ow2 w' ow' ∧ SlT w' ow' T_s_uint8 1 st.1.1 st.1.2.1 st.1.2.2 (G.map siV) (t + 28) ∧ st.1.2.1 = i ∧ G.length = i ∧ (∀ k (h : k < G.length) (h' : k < (secsOf v1 fN cN).length), YB w' ow' (t + 28 + 1) G[k] (secsOf v1 fN cN)[k] ∧ 512 ≤ (G[k]).c)) (fun st _ => cN - st.2.1.toNat)
    ⟨0, by omega, rfl, ow2, [], ⟨Kp.refl _ _, fun _ _ _ => rfl⟩, slt_nil _ _ _ _ _, rfl, rfl, fun k h => absurd h (by simp)⟩ ?_
  rintro ⟨⟨a, l, cc⟩, i0, u⟩ w3 ⟨i, hi, hi0, ow3, G, f3, ht, hli, hG, hY⟩ _
  dsimp only at hi0 ht hli ⊢
  subst hi0 hli
  have D3 := D2.fr f3 (by omega) (by omega) (by omega) (by omega)
  obtain ⟨b13, t13⟩ := blk_fr b12 t12 f3 (by omega)
  obtain ⟨b23, t23⟩ := blk_fr b22 t22 f3 (by omega)
  refine cond_d (fun hlt => ?_) (fun hge => ?_)
  · have hil : l < cN := by omega
    obtain ⟨e0, e512⟩ := S512 l hil
    have m1 : IntKind.wrap .i64 ((fN : Int) + (l : Int)) = ((fN + l : Nat) : Int) := by rw [wrap_i64 (by omega) (by omega)]; omega
    refine ⟨_, b13.at rfl rfl, _, b23.at rfl rfl, ?_⟩
    rw [m1]
    refine readX_c D3 (by have := vs.q; omega) fun a2 l2 c2 w4 k4 s4 fr4 => ⟨_, _, _, _, rfl, asked_c (fun _ => ⟨rfl, ?_⟩) (fun hne => absurd e0 (by omega))⟩
    have f4 : Fro (fun _ => True) w3 ow3 w4 (ext ow3 w3.heap.size (t + 28 + 1)) := Fro.of_kp0 (t + 28 + 1) k4
    have sl1 := s4.1
    rw [bvs_len, e512] at sl1
    have y4 : YB w4 (ext ow3 w3.heap.size (t + 28 + 1)) (t + 28 + 1) ⟨a2, l2, c2⟩ (v1.read ((fN + l : Nat) : Int)).1 := ⟨rdT_new _ s4.rd fr4, by show _ = l2; rw [e512]; omega, sl_some' s4⟩
    have ht4 := ht.fr f4 trivial
    have hY4 := fun k h h' => And.intro ((hY k h h').1.fr f4 trivial) (hY k h h').2
    have F4 := f3.trans (f4.mono fun _ _ => trivial)
    generalize ext ow3 w3.heap.size (t + 28 + 1) = ow4 at *
    refine pushT er_ss ht4 (v := siV ⟨a2, l2, c2⟩) rfl (by omega) (by omega) fun a' c' w5 hs5 k5 f5 => ?_
    rw [wi l (by omega)]
    refine ⟨⟨l + 1, by omega, rfl, _, G ++ [⟨a2, l2, c2⟩], F4.trans f5, by rw [List.map_append]; exact hs5, rfl, by simp [hG], fun k h h' => ?_⟩, ?_⟩
    · by_cases hkl : k < G.length
      · have ea : (G ++ [(⟨a2, l2, c2⟩ : SI)])[k] = G[k] := List.getElem_append_left hkl
        rw [ea]
        exact ⟨(hY4 k hkl h').1.fr f5 (by omega), (hY4 k hkl h').2⟩
      · have hke : k = G.length := by simp at h; omega
        subst hke
        have ea : (G ++ [(⟨a2, l2, c2⟩ : SI)])[G.length] = ⟨a2, l2, c2⟩ := by simp
        rw [ea, secsOf_get, hG]
        exact ⟨y4.fr f5 (by omega), by have := s4.2.1; show 512 ≤ c2; omega⟩
    · show cN - (((l + 1 : Nat) : Int)).toNat < cN - ((l : Nat) : Int).toNat
      simp only [Int.toNat_natCast]
      omega
  have hle : l = cN := by omega
  subst hle
  have T3 : SecT w3 ow3 (t + 28) a G (secsOf v1 fN l) := ⟨⟨ht.rdT, by rw [hG, ls], fun k h h' => (hY k h h').1, fun b hb => by
      obtain ⟨i, hi, rfl⟩ := List.mem_map.1 hb
      have := (S512 i (by simpa using hi)).2
      omega⟩, fun b hb => by
      obtain ⟨i, hi, rfl⟩ := List.mem_map.1 hb
      exact (S512 i (by simpa using hi)).2, fun k h => (hY k h (by rw [ls]; omega)).2⟩
  have P3 := P2.fr f3 (by omega) (by omega) (by omega)
  obtain ⟨b43, t43⟩ := blk_fr b42 t42 f3 (by omega)
  have F3 : Fro (To t) w ow w3 ow3 := (F2.mono fun _ hu => hu.1).trans (f3.mono fun _ hu => hu.2.2.2)
  have kd : Kp no w3 w3.drew := Kp.drew w3 1
  have fd : Fro (fun _ => True) w3 ow3 w3.drew ow3 := Fro.kp0 kd
  have P4 := P3.fr fd trivial trivial trivial
  have T4 := T3.fr fd trivial trivial
  have D4 := D3.fr fd trivial trivial trivial trivial
  have F4 := F3.trans (fd.mono fun _ _ => trivial)
  obtain ⟨b44, t44⟩ := blk_fr b43 t43 fd trivial
  refine ⟨fun w' => Blk w' k4 #[.pointer (some ⟨lb, 0, none⟩)] T_p_log_Log, b44, ⟨_, fun w' hw => hw.at rfl rfl, ?_⟩⟩
  have hfl := foundN_le (secsOf v1 fN l) 0
  have hcl := cutS_len (G := G) (S := secsOf v1 fN l) (by rw [hG, ls])
  refine found_c T4.b.g.rd T4.secs hG (by omega) fun a5 c5 w5 s5 k5 fr5 => ⟨_, _, _, rfl, ?_⟩
  have B5 := T4.cut s5 k5 fr5
  have f5 : Fro (fun _ => True) w3.drew ow3 w5 (ext ow3 w3.drew.heap.size (t + 28)) := Fro.of_kp0 (t + 28) k5
  have P5 := P4.fr f5 trivial trivial trivial
  have T5 := T4.fr f5 trivial trivial
  have D5 := D4.fr f5 trivial trivial trivial trivial
  have F5 := F4.trans (f5.mono fun _ _ => trivial)
  obtain ⟨b45, t45⟩ := blk_fr b44 t44 f5 trivial
  generalize ext ow3 w3.drew.heap.size (t + 28) = ow5 at *
  have hrd : readR ((secsOf v1 fN l).take (foundN (secsOf v1 fN l) 0) |>.map bytB) 0 = readS v1 fN l := rfl
  refine ⟨b45, lread_c P5 B5 (by rw [List.length_take, hcl, hG]; omega) (by omega) (by omega) (by omega) (fun hb w6 ow6 f6 => ?_) (fun hb w6 ow6 L6 f6 => ⟨rfl, ?_⟩)⟩
  · rw [hrd] at hb ⊢
    have e : openS v1 fN l = (((readS v1 fN l).1, 60), v1, []) := by unfold openS; rw [if_pos hb]
    rw [e] at hbad
    exact hbad (by show 60 ≠ 0; decide) w6 ow6 (D5.fr f6 ⟨by omega, by omega⟩ ⟨by omega, by omega⟩ ⟨by omega, by omega⟩ ⟨by omega, by omega⟩) (F5.trans (f6.mono fun _ hu => ⟨hu.2.1, hu.2.2.1⟩))
  rw [hrd] at hb L6
  have T6 := T5.fr f6 (by omega) (by omega)
  have D6 := D5.fr f6 (by omega) (by omega) (by omega) (by omega)
  have F6 := F5.trans (f6.mono fun _ hu => ⟨hu.2.1, hu.2.2.1⟩)
  obtain ⟨b46, t46⟩ := blk_fr b45 t45 f6 (by omega)
  have hwp : wipeL v1 ((fN + (readS v1 fN l).2.length : Nat) : Int) ((secsOf v1 fN l).drop (readS v1 fN l).2.length) false = wipeS v1 fN l := rfl
  refine ⟨b46, _, b46.at rfl rfl, lwipe_c L6 D6 (vs.mono (by omega)) T6 hG rfl fun w7 ow7 D7 f7 => ⟨fun hz7 => ⟨rfl, ?_⟩, fun hz7 => ?_⟩⟩
  · dsimp only at hz7 D7
    rw [hwp] at hz7 D7
    have e : openS v1 fN l = ((0, 0), (wipeS v1 fN l).2, (readS v1 fN l).2) := by unfold openS; rw [if_neg (by omega), if_neg (by omega)]
    rw [e] at hok
    exact hok rfl w7 ow7 D7 (L6.fr f7 (Td_of (by omega)) (Td_of (by omega)) (Td_of (by omega)) (Td_of (by omega)) (Td_of (by omega))) (F6.trans (f7.mono fun _ hu => hu.1))
  · dsimp only at hz7 D7 ⊢
    rw [hwp] at hz7 D7 ⊢
    have e : openS v1 fN l = ((0, (wipeS v1 fN l).1), (wipeS v1 fN l).2, []) := by unfold openS; rw [if_neg (by omega), if_pos hz7]
    rw [e] at hbad
    exact hbad hz7 w7 ow7 D7 (F6.trans (f7.mono fun _ hu => hu.1))
end
def zOp : ByteArray := ByteArray.mk #[79, 112, 101, 110]
theorem openR_bd (v : Dv) (f c : Int) : (openR v f c).1.2 ≤ 100 := by
  unfold openR
  split
  · dsimp only; omega
  split
  · dsimp only; omega
  split
  · dsimp only
    unfold syncQ
    split
    · exact v.sync_100
    · dsimp only; omega
  · unfold openS
    split
    · dsimp only; omega
    split
    · dsimp only
      unfold wipeS
      generalize (secsOf (syncQ v).2 f.toNat c.toNat).drop _ = l
      generalize (((f.toNat + (readS (syncQ v).2 f.toNat c.toNat).2.length : Nat)) : Int) = i
      have : ∀ (l : List (List UInt8)) (v : Dv) (i : Int) (q : Bool), (wipeL v i l q).1 ≤ 100 := by
        intro l
        induction l with
        | nil =>
          intro v i q
          rw [wipeL]
          split
          · exact v.sync_100
          · dsimp only; omega
        | cons s r ih =>
          intro v i q
          rw [wipeL]
          split
          · exact ih _ _ _
          split
          · exact v.write_100 i zer512
          · exact ih _ _ _
      exact this _ _ _ _
    · dsimp only; omega
section
variable {w : World} {ow : Nat → Nat} {t db : Nat} {R : Po}
set_option maxHeartbeats 2000000 in
theorem open_cO {v : Dv} {f c : Int} (hd : DX w ow t db v) (hs : v.Sm 600000) (hf : i64 f) (hc : i64 c)
    (hbad : (openR v f c).1.2 ≠ 0 → ∀ e w' ow', DX w' ow' t db (openR v f c).2.1 → Fro (To t) w ow w' ow' → ErrV w' e zOp ((openR v f c).1.1 : Int) ((openR v f c).1.2 : Int) → ErrF w e → ErrO ow' (t + 24) e → R (.returned (.tuple #[.pointer none, e])) w')
    (hok : (openR v f c).1.2 = 0 → ∀ lb w' ow', DX w' ow' t db (openR v f c).2.1 → LG w' ow' t lb db ⟨f.toNat, c.toNat, (openR v f c).2.2, (openR v f c).2.2.length, 0⟩ → Fro (To t) w ow w' ow' → w.heap.size ≤ lb → R (.returned (.tuple #[.pointer (some ⟨lb, 0, none⟩), .nilIface])) w') :
    GoC Tryz.prog F_log_Open #[.pointer (some ⟨db, 0, none⟩), .int .i64 f, .int .i64 c] w R := by
  refine S_log_Open ?_
  unfold W_log_Open
  refine AlF.intro fun b1 w1 hb1e hb1 k1 _ => AlF.intro fun b2 w2 hb2e hb2 k2 _ => AlF.intro fun b3 w3 hb3e hb3 k3 _ => ?_
  have hb1 := (k2.trans0 k3).blk hb1 id
  have hb2 := k3.blk hb2 id
  have k13 := (k1.trans0 k2).trans0 k3
  have z1 := k1.size
  have z2 := k2.size
  have f3 : Fro (fun _ => True) w ow w3 (ext ow w.heap.size (t + 26)) := Fro.of_kp0 (t + 26) k13
  have t1 : ext ow w.heap.size (t + 26) b1 = t + 26 := ext_new (by omega)
  have t2 : ext ow w.heap.size (t + 26) b2 = t + 26 := ext_new (by omega)
  have t3 : ext ow w.heap.size (t + 26) b3 = t + 26 := ext_new (by omega)
  have D3 := hd.fr f3 trivial trivial trivial trivial
  have F3 : Fro (To t) w ow w3 (ext ow w.heap.size (t + 26)) := f3.mono fun _ _ => trivial
  generalize ext ow w.heap.size (t + 26) = ow3 at *
  refine ⟨_, hb1.at rfl rfl, _, hb2.at rfl rfl, _, hb3.at rfl rfl, ?_⟩
  refine AlF.intro fun b4 w4 hb4e hb4 k4 _ => ?_
  have f4 : Fro (fun _ => True) w3 ow3 w4 (ext ow3 w3.heap.size (t + 20)) := Fro.of_kp0 (t + 20) k4
  have t4 : ext ow3 w3.heap.size (t + 20) b4 = t + 20 := ext_new (by omega)
  have D4 := D3.fr f4 trivial trivial trivial trivial
  have F4 := F3.trans (f4.mono fun _ _ => trivial)
  obtain ⟨hb14, t14⟩ := blk_fr hb1 t1 f4 trivial
  obtain ⟨hb24, t24⟩ := blk_fr hb2 t2 f4 trivial
  obtain ⟨hb34, t34⟩ := blk_fr hb3 t3 f4 trivial
  have hge4 : w.heap.size ≤ b4 := by have := F3.kp.size; omega
  generalize ext ow3 w3.heap.size (t + 20) = ow4 at *
  refine AlF.intro fun b5 w5 hb5e hb5 k5 _ => ?_
  have f5 : Fro (fun _ => True) w4 ow4 w5 (ext ow4 w4.heap.size (t + 26)) := Fro.of_kp0 (t + 26) k5
  have t5 : ext ow4 w4.heap.size (t + 26) b5 = t + 26 := ext_new (by omega)
  have D5 := D4.fr f5 trivial trivial trivial trivial
  have F5 := F4.trans (f5.mono fun _ _ => trivial)
  obtain ⟨hb15, t15⟩ := blk_fr hb14 t14 f5 trivial
  obtain ⟨hb25, t25⟩ := blk_fr hb24 t24 f5 trivial
  obtain ⟨hb35, t35⟩ := blk_fr hb34 t34 f5 trivial
  obtain ⟨hb45, t45⟩ := blk_fr hb4 t4 f5 trivial
  have hge5 : w.heap.size ≤ b5 := by have := F4.kp.size; omega
  have n15 : b1 ≠ b5 := by have := hb14.lt; omega
  have n25 : b2 ≠ b5 := by have := hb24.lt; omega
  have n35 : b3 ≠ b5 := by have := hb34.lt; omega
  generalize ext ow4 w4.heap.size (t + 26) = ow5 at *
  refine StF.at rfl hb5 (by simp) fun w6 hb6 k6 _ => ?_
  have f6 : Fro (fun u => u ≠ t + 26) w5 ow5 w6 ow5 := Fro.of_kp' k6 fun j _ hj hne => hne (by rw [hj]; exact t5)
  have D6 := D5.fr f6 (by omega) (by omega) (by omega) (by omega)
  have F6 : Fro (To t) w ow w6 ow5 := ⟨F5.kp.trans k6 (fun _ _ h => h) (fun j hj hh => by omega), F5.ag⟩
  have hb16 := k6.blk hb15 n15
  have hb26 := k6.blk hb25 n25
  have hb36 := k6.blk hb35 n35
  obtain ⟨hb46, t46⟩ := blk_fr hb45 t45 f6 (by omega)
  have hb56 : Blk w6 b5 #[.pointer (some ⟨b4, 0, none⟩)] T_p_log_Log := hb6
  refine CallF.intro (S_log_caught_Open ?_)
  unfold W_log_caught_Open
  refine AlF.intro fun c1 w7 hc1e hc1 kc _ => AlF.intro fun c2 w8 hc2e hc2 kd _ => ?_
  have kcd := kc.trans0 kd
  have hc1 := kd.blk hc1 id
  have f8 : Fro (fun _ => True) w6 ow5 w8 (ext ow5 w6.heap.size (t + 27)) := Fro.of_kp0 (t + 27) kcd
  have tc1 : ext ow5 w6.heap.size (t + 27) c1 = t + 27 := ext_new (by omega)
  have tc2 : ext ow5 w6.heap.size (t + 27) c2 = t + 27 := ext_new (by have := kc.size; omega)
  have D8 := D6.fr f8 trivial trivial trivial trivial
  have F8 := F6.trans (f8.mono fun _ _ => trivial)
  obtain ⟨hb18, t18⟩ := blk_fr hb16 t15 f8 trivial
  obtain ⟨hb28, t28⟩ := blk_fr hb26 t25 f8 trivial
  obtain ⟨hb38, t38⟩ := blk_fr hb36 t35 f8 trivial
  obtain ⟨hb48, t48⟩ := blk_fr hb46 t46 f8 trivial
  obtain ⟨hb58, t58⟩ := blk_fr hb56 t5 f8 trivial
  have hgc1 : w.heap.size ≤ c1 := by have := F6.kp.size; omega
  have hgc2 : w.heap.size ≤ c2 := by have := F6.kp.size; have := kc.size; omega
  generalize ext ow5 w6.heap.size (t + 27) = ow8 at *
  have bd := openR_bd v f c
  refine open1_c D8 hs hb18 t18 hb28 t28 hb38 t38 hb58 t58 hf hc hb48 t48 (fun hne w9 ow9 D9 f9 => ?_) (fun he w9 ow9 D9 L9 f9 => ⟨rfl, ?_⟩)
  · have F9 := F8.trans f9
    obtain ⟨hc19, tc19⟩ := blk_fr hc1 tc1 f9 (To_of (by omega) (by omega))
    obtain ⟨hc29, tc29⟩ := blk_fr hc2 tc2 f9 (To_of (by omega) (by omega))
    refine caught_pan (z := zOp) (by omega) hc19 hc29 fun v' w10 ev ef hc210 k10 => ⟨_, hc210.at rfl rfl, _, rfl, ?_⟩
    have f10 : Fro (fun u => u ≠ t + 27) w9 ow9 w10 (ext ow9 w9.heap.size (t + 24)) := Fro.of_kp (t + 24) k10 fun j _ hj hne => hne (by rw [hj]; exact tc29)
    have F10 : Fro (To t) w ow w10 (ext ow9 w9.heap.size (t + 24)) := ⟨F9.kp.trans k10 (fun _ _ h => h) (fun j hj hh => by omega), fun j hj hu => by rw [ext_old (by have := F9.kp.size; omega)]; exact F9.ag j hj hu⟩
    have D10 := D9.fr f10 (by omega) (by omega) (by omega) (by omega)
    refine err_nil ev (cond_not ?_)
    rw [decide_eq_false (by omega)]
    exact hbad hne v' w10 _ D10 F10 ev (ef.mono F9.kp.size) fun b hb => ext_new (ef b hb)
  · have F9 := F8.trans f9
    obtain ⟨hc29, tc29⟩ := blk_fr hc2 tc2 f9 (To_of (by omega) (by omega))
    obtain ⟨hb59, t59⟩ := blk_fr hb58 t58 f9 (To_of (by omega) (by omega))
    refine StF.at rfl hc29 (by simp) fun w10 hc210 k10 _ => caught_back ⟨_, hc210.at rfl rfl, _, rfl, .inl ⟨rfl, ?_⟩⟩
    have f10 : Fro (fun u => u ≠ t + 27) w9 ow9 w10 ow9 := Fro.of_kp' k10 fun j _ hj hne => hne (by rw [hj]; exact tc29)
    have F10 : Fro (To t) w ow w10 ow9 := ⟨F9.kp.trans k10 (fun _ _ h => h) (fun j hj hh => by omega), F9.ag⟩
    have D10 := D9.fr f10 (by omega) (by omega) (by omega) (by omega)
    have L10 := L9.fr f10 (by omega) (by omega) (by omega) (by omega) (by omega)
    obtain ⟨hb510, _⟩ := blk_fr hb59 t59 f10 (by omega)
    exact ⟨_, hb510.at rfl rfl, hok he b4 w10 ow9 D10 L10 F10 hge4⟩
theorem open_c {v : Dv} {f c : Int} (hd : DX w ow t db v) (hs : v.Sm 600000) (hf : i64 f) (hc : i64 c)
    (hbad : (openR v f c).1.2 ≠ 0 → ∀ e w' ow', DX w' ow' t db (openR v f c).2.1 → Fro (To t) w ow w' ow' → ErrV w' e zOp ((openR v f c).1.1 : Int) ((openR v f c).1.2 : Int) → ErrF w e → R (.returned (.tuple #[.pointer none, e])) w')
    (hok : (openR v f c).1.2 = 0 → ∀ lb w' ow', DX w' ow' t db (openR v f c).2.1 → LG w' ow' t lb db ⟨f.toNat, c.toNat, (openR v f c).2.2, (openR v f c).2.2.length, 0⟩ → Fro (To t) w ow w' ow' → w.heap.size ≤ lb → R (.returned (.tuple #[.pointer (some ⟨lb, 0, none⟩), .nilIface])) w') :
    GoC Tryz.prog F_log_Open #[.pointer (some ⟨db, 0, none⟩), .int .i64 f, .int .i64 c] w R :=
  open_cO hd hs hf hc (fun hne e w' ow' a b c d _ => hbad hne e w' ow' a b c d) hok
end
theorem liN (w : World) : LiIn w {} [] [] := ⟨Rd.nil _ _, rfl, by show 0 < _; omega, Rd.nil _ _, rfl, by show 0 < _; omega⟩
theorem sect_new {n j : Nat} (h : j < n) : (Dv.new n).sect j = zer512 := by
  have : (j + 1) * 512 ≤ n * 512 := Nat.mul_le_mul_right _ h
  unfold Dv.sect Dv.new zer512
  dsimp only
  rw [List.drop_replicate, List.take_replicate]
  congr 1
  omega
theorem new_n (n : Nat) : (Dv.new n).n = n := Dv.n_of (by show (List.replicate (n * 512) (0 : UInt8)).length = _; rw [List.length_replicate])
theorem new_ok {n : Nat} (h1 : 1 ≤ n) (h2 : n ≤ 8192) : (Dv.new n).Ok := by
  rw [Dv.new_load]
  exact Dv.Ok.load (List.length_replicate) h1 h2
theorem new_sm (n m : Nat) : (Dv.new n).Sm m := ⟨by show 0 ≤ m; omega, by show 0 * 8 ≤ _; omega⟩
theorem read_sect {v : Dv} (hd : v.down = false) (hq : v.q = []) {i : Nat} (hi : i < v.n) : v.read (i : Int) = (v.sect i, 0) := by
  unfold Dv.read
  rw [hd, if_neg (by simp), if_neg (fun hh => hh ⟨by omega, by omega⟩), hq, Int.toNat_natCast]
  rfl
theorem isSec_zer (n : Nat) : isSec zer512 n = false := rfl
theorem zer_zeros : zerosB zer512 = true := by decide +kernel
theorem wipeL_zeros : ∀ (l : List (List UInt8)) (v : Dv) (i : Int), (∀ s ∈ l, zerosB s = true) → wipeL v i l false = (0, v)
  | [], v, i, _ => rfl
  | s :: r, v, i, h => by
    rw [wipeL, if_pos (h s (by simp))]
    exact wipeL_zeros r v (i + 1) fun x hx => h x (by simp [hx])
theorem open_zero {v : Dv} {f c : Nat} (hok : v.Ok) (hd : v.down = false) (hq : v.q = []) (hr : f + c ≤ v.n) (hc : 1 ≤ c) (hc8 : c ≤ 8192) (hz : ∀ k, k < c → v.sect (f + k) = zer512) : openR v (f : Int) (c : Int) = ((0, 0), v, []) := by
  have ls := secsOf_len v f c
  have sg : ∀ k (h : k < (secsOf v f c).length), (secsOf v f c)[k] = zer512 := fun k h => by rw [secsOf_get, read_sect hd hq (by omega)]; exact hz k (by omega)
  have h0 : foundN (secsOf v f c) 0 = 0 := by
    have := foundN_drop (secsOf v f c) (k := 0) (by omega)
    rw [List.drop_zero, sg 0 (by omega), isSec_zer] at this
    exact this
  have hrs : readS v f c = (0, []) := by
    unfold readS bytsOf
    rw [h0]
    rfl
  have hw : wipeS v f c = (0, v) := by
    unfold wipeS
    rw [hrs]
    refine wipeL_zeros _ _ _ fun s hs => ?_
    obtain ⟨k, hk, rfl⟩ := List.mem_iff_getElem.1 (List.mem_of_mem_drop hs)
    rw [sg k hk]
    exact zer_zeros
  have hsq : syncQ v = (0, v) := by unfold syncQ; rw [hq]; rfl
  unfold openR
  rw [if_neg (by unfold placeBad; omega), if_neg (by rw [hd]; decide), hsq, Int.toNat_natCast, Int.toNat_natCast, if_neg (fun h => h rfl)]
  unfold openS
  rw [hrs, hw]
  rfl
instance (n : Int) : Decidable (i64 n) := inferInstanceAs (Decidable (_ ∧ _))
abbrev T100 : Nat → Prop := fun u => 100 ≤ u
def awR : RV := { kind := 1, tx := 1 }
def awR1 : RV := { lsn := 1, kind := 1, tx := 1 }
def awG : Lg := ⟨2, 6, [], 0, 0⟩
def awG1 : Lg := ⟨2, 6, [awR1], 0, 0⟩
def awG2 : Lg := ⟨2, 6, [awR1], 1, 0⟩
theorem aw_app : appR awG awR = ((1, 0), awG1) := by
  have h : chkN (nxtR awG awR) = 0 := by decide
  unfold appR
  rw [if_neg (by decide), if_neg (by rw [h]; decide), if_neg (by decide)]
  rfl
theorem aw_app2 : appR awG2 {} = ((0, 70), awG2) := by
  have h : chkN (nxtR awG2 {}) = 70 := by decide
  unfold appR
  rw [if_neg (by decide), if_pos (by rw [h]; decide), h]
theorem aw_ok : awG1.Ok := ⟨by decide, by decide, by decide, by decide, by decide, fun k hk => by
  have : k = 0 := by simp [awG1] at hk; exact hk
  subst this
  show chkN awR1 = 0 ∧ awR1.w64 ∧ awR1.lsn = 1
  exact ⟨by decide, ⟨by decide, by decide, by decide, by decide⟩, rfl⟩⟩
theorem aw_frc {v0 : Dv} (nok : v0.Ok) (nst : v0.step = 0) (nup : v0.down = false) (nq : v0.q = []) (nca : v0.calls = 0) (nn : v0.n = 8) :
    (frcP v0 awG1 1).1 = 0 ∧ (frcP v0 awG1 1).2.calls = 2 ∧ (frcP v0 awG1 1).2.down = false ∧ (frcP v0 awG1 1).2.q = [] ∧ (frcP v0 awG1 1).2.read 2 = (secB 1 (encB awR1), 0) := by
  have enl : (encB awR1).length ≤ 502 := (enc_len (aw_ok.r 0 (by decide)).1 (aw_ok.r 0 (by decide)).2.1).2
  have bl : (secB 1 (encB awR1)).length = 512 := secB_len (by omega)
  have e : frcP v0 awG1 1 = putL v0 2 [secB 1 (encB awR1)] := rfl
  rw [e]
  generalize secB 1 (encB awR1) = b at *
  have hw : v0.write 2 b = (0, v0.bump.add 2 b) := by
    unfold Dv.write
    rw [if_neg (by rw [nup]; decide), if_neg (fun h => h ⟨by decide, by rw [nn]; decide⟩), if_neg (fun h => h bl), if_neg (by rw [nst]; decide)]
  have bs : (v0.bump.add 2 b).step = 0 := by show (if v0.step = 0 then 0 else v0.step - 1) = 0; rw [if_pos nst]
  have hs : (v0.bump.add 2 b).sync = (0, (v0.bump.add 2 b).bump.synced) := by
    unfold Dv.sync
    rw [if_neg (by show ¬ v0.down = true; rw [nup]; decide), if_neg (by rw [bs]; decide)]
  rw [putL, putL, hw, if_neg (fun h => h rfl)]
  dsimp only
  rw [hs]
  have hl := nok.len
  rw [nn] at hl
  have img : (v0.bump.add 2 b).bump.synced.img = ovr v0.img (2 * 512) b := by
    show syncL (v0.q ++ [(2, b)]) v0.img = _
    rw [nq]
    rfl
  have n8 : (v0.bump.add 2 b).bump.synced.n = 8 := Dv.n_of (by rw [img, ovr_len (by omega), hl])
  refine ⟨rfl, ?_, nup, rfl, ?_⟩
  · show IntKind.wrap .i64 (IntKind.wrap .i64 (v0.calls + 1) + 1) = 2
    rw [nca]
    decide
  · have := read_sect (v := (v0.bump.add 2 b).bump.synced) nup rfl (i := 2) (by omega)
    have hse : (v0.bump.add 2 b).bump.synced.sect 2 = b := by
      unfold Dv.sect
      rw [img, sect_all hl (by decide) bl, if_pos rfl]
    rw [hse] at this
    exact this
set_option maxHeartbeats 2000000 in
theorem awake_c {w : World} {R : Po} (h : ∀ w', Kp no w w' → R (.returned (.bool true)) w') : GoC Tryz.prog F_law06_awake #[] w R := by
  refine S_law06_awake ?_
  unfold W_law06_awake
  refine new_c (ow := fun _ => 1000) (n := 8) (by omega) (by omega) 0 fun db w1 ow1 D1 k1 ag1 ge1 => ⟨_, _, rfl, cond_f rfl (num_c ⟨_, rfl, cond_f rfl ?_⟩)⟩
  have F1 : Fro T100 w (fun _ => 1000) w1 ow1 := ⟨k1.of_no, fun j hj _ => ag1 j hj⟩
  have nok : (Dv.new 8).Ok := new_ok (by omega) (by omega)
  have nst : (Dv.new 8).step = 0 := rfl
  have nup : (Dv.new 8).down = false := rfl
  have nq : (Dv.new 8).q = [] := rfl
  have nca : (Dv.new 8).calls = 0 := rfl
  have nse : ∀ j, j < 8 → (Dv.new 8).sect j = zer512 := fun j hj => sect_new hj
  have nn : (Dv.new 8).n = 8 := new_n 8
  have nsm : ∀ m, (Dv.new 8).Sm m := new_sm 8
  generalize Dv.new 8 = v0 at *
  have eo' : openR v0 2 6 = ((0, 0), v0, []) := open_zero (f := 2) (c := 6) nok nup nq (by rw [nn]; omega) (by omega) (by omega) fun k hk => nse _ (by omega)
  refine open_c (t := 0) D1 (nsm _) ⟨by decide, by decide⟩ ⟨by decide, by decide⟩ (fun hne => absurd (by rw [eo']) hne) fun _ lb w2 ow2 D2 L2 f2 _ => ?_
  rw [eo'] at D2 L2
  have L2 : LG w2 ow2 0 lb db awG := L2
  have D2 : DX w2 ow2 0 db v0 := D2
  have F2 : Fro T100 w (fun _ => 1000) w2 ow2 := F1.trans (f2.mono fun u hu => ⟨Td_of (by have : 100 ≤ u := hu; omega), by have : 100 ≤ u := hu; omega, by have : 100 ≤ u := hu; omega, by have : 100 ≤ u := hu; omega⟩)
  refine ⟨_, _, rfl, cond_f rfl (.inl ⟨rfl, cond_f rfl ?_⟩)⟩
  refine free_c L2 fun w3 k3 => ⟨_, rfl, cond_f rfl ?_⟩
  have L3 := L2.kp0 k3
  have D3 := D2.kp0 k3
  have F3 := F2.trans ((Fro.kp0 k3).mono fun _ _ => trivial)
  refine last_c L3 ⟨_, rfl, cond_f rfl ?_⟩
  refine append_c (r := awR) (m := {}) L3 (liN _) ⟨by decide, by decide, by decide, by decide⟩ fun w4 ow4 L4 f4 => ?_
  rw [aw_app] at L4 ⊢
  have L4 : LG w4 ow4 0 lb db awG1 := L4
  have F4 := F3.trans (f4.mono fun u hu => ⟨by have : 100 ≤ u := hu; omega, by have : 100 ≤ u := hu; omega, by have : 100 ≤ u := hu; omega⟩)
  have D4 := D3.fr f4 (by decide) (by decide) (by decide) (by decide)
  refine ⟨_, _, rfl, cond_f rfl (num_c ⟨_, rfl, cond_f rfl ?_⟩)⟩
  refine forced_c L4 ⟨_, rfl, cond_f rfl (calls_c D4 ⟨_, rfl, cond_f (by rw [nca]; rfl) ?_⟩)⟩
  -- Force
  obtain ⟨e1, ecalls, u2, q2, s2⟩ := aw_frc nok nst nup nq nca nn
  have fr : frcR (v0) awG1 1 = (0, (frcP (v0) awG1 1).2, awG2) := by
    unfold frcR
    rw [if_neg (by decide), if_neg (by decide), if_neg (by decide), if_neg (by decide)]
    have : Int.toNat 1 = 1 := rfl
    rw [this, if_neg (by omega)]
    rfl
  refine force_c L4 D4 (nsm _) ⟨by decide, by decide⟩ fun e w5 ow5 D5 L5 f5 ev => ?_
  rw [fr] at D5 L5 ev
  have L5 : LG w5 ow5 0 lb db awG2 := L5
  have D5 : DX w5 ow5 0 db (frcP v0 awG1 1).2 := D5
  generalize (frcP (v0) awG1 1).2 = v2 at *
  have F5 := F4.trans (f5.mono fun u hu => ⟨Td_of (by have : 100 ≤ u := hu; omega), by have : 100 ≤ u := hu; omega⟩)
  refine ⟨_, rfl, err_nil ev (cond_f rfl ?_)⟩
  refine forced_c L5 ⟨_, rfl, cond_f rfl (calls_c D5 ⟨_, rfl, ?_⟩)⟩
  rw [ecalls]
  refine cond_f rfl ?_
  refine lget_c L5 ⟨by decide, by decide⟩ fun m w6 k6 o6 => ⟨_, _, _, _, _, _, _, _, _, _, _, _, _, _, _, _, _, _, _, _, _, _, rfl, ?_⟩
  refine rec_cp awR1 m fun b1 w7 h7 => ?_
  have f7 : Fro (fun _ => True) w5 ow5 w7 (ext ow5 w5.heap.size 1000) := Fro.of_kp0 1000 (k6.trans0 h7.kp)
  have L7 := L5.fr f7 trivial trivial trivial trivial trivial
  have D7 := D5.fr f7 trivial trivial trivial trivial
  have F7 := F5.trans (f7.mono fun _ _ => trivial)
  have t7 : ext ow5 w5.heap.size 1000 b1 = 1000 := ext_new (by have := k6.size; have := h7.nw; omega)
  have hb7 := h7.blk
  generalize ext ow5 w5.heap.size 1000 = ow7 at *
  have enl := enc_len (aw_ok.r 0 (by decide)).1 (aw_ok.r 0 (by decide)).2.1
  have enl : 2 ≤ (encB awR1).length ∧ (encB awR1).length ≤ 502 := enl
  have sl : (secB 1 (encB awR1)).length = 512 := secB_len (by omega)
  refine readX_c D7 (by rw [q2]; show 0 ≤ 1000000; omega) fun a l c w8 k8 hs8 fr8 => ⟨_, _, _, _, rfl, ?_⟩
  rw [s2] at hs8 ⊢
  have hl8 := hs8.1
  rw [bvs_len, sl] at hl8
  have hl8 : l = 512 := by omega
  subst hl8
  have f8 : Fro (fun _ => True) w7 ow7 w8 (ext ow7 w7.heap.size 1000) := Fro.of_kp0 1000 k8
  have rd8 : RdT w8 (ext ow7 w7.heap.size 1000) (fun x => x = 1000) a (bvs (secB 1 (encB awR1))) := rdT_new 1000 hs8.rd fr8
  have L8 := L7.fr f8 trivial trivial trivial trivial trivial
  have F8 := F7.trans (f8.mono fun _ _ => trivial)
  obtain ⟨hb8, t8⟩ := blk_fr hb7 t7 f8 trivial
  generalize ext ow7 w7.heap.size 1000 = ow8 at *
  refine append_c (r := {}) (m := {}) L8 (liN _) ⟨by decide, by decide, by decide, by decide⟩ fun w9 ow9 L9 f9 => ?_
  rw [aw_app2] at L9 ⊢
  have L9 : LG w9 ow9 0 lb db awG2 := L9
  have F9 := F8.trans (f9.mono fun u hu => ⟨by have : 100 ≤ u := hu; omega, by have : 100 ≤ u := hu; omega, by have : 100 ≤ u := hu; omega⟩)
  obtain ⟨hb9, t9⟩ := blk_fr hb8 t8 f9 (by decide)
  have rd9 := (rd8.fr f9 fun x hx => by rw [hx]; decide).rd
  have K9 : Kp no w w9 := F9.kp.mono fun k hk hn => hn (by decide)
  have g0 : ((secB 1 (encB awR1))[0]'(by omega)).toNat = 108 := rfl
  have g511 : ((secB 1 (encB awR1))[511]'(by omega)).toNat = 165 := by
    have := secB_511 (lsn := 1) (b := encB awR1) (by omega)
    rw [getD_of (by omega)] at this
    rw [this]
    rfl
  refine ⟨_, _, rfl, num_c ⟨_, rfl, cond_t rfl ⟨_, hb9.at rfl rfl, cond_t rfl ⟨_, hb9.at rfl rfl, cond_t rfl (num_c ⟨_, rfl, cond_t rfl (cond_t rfl ?_)⟩)⟩⟩⟩⟩
  refine rd_u8 rd9 (i := 0) (by omega) rfl (by omega) fun d1 hd1 => ⟨_, hd1, ?_⟩
  rw [g0]
  refine cond_t rfl (rd_u8 rd9 (i := 511) (by omega) rfl (by omega) fun d2 hd2 => ⟨_, hd2, ?_⟩)
  rw [g511]
  refine cond_t rfl (num_c ⟨_, rfl, cond_t rfl (free_c L9 fun w10 k10 => ⟨_, rfl, cond_t rfl (lerr_c (L9.kp0 k10) fun v ev eo => ⟨_, rfl, err_nil ev (h w10 (K9.trans0 k10))⟩)⟩)⟩)
end Go.Proofs.YtkfdkcclojepnaaGreat
