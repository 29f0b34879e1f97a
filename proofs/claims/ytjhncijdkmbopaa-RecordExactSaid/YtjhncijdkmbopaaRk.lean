/- The contract of the package record's Decode. Conditions: lengths below 2^46. -/
import Derived.Test.YtjhncijdkmbopaaRj
set_option linter.unusedVariables false
set_option linter.unusedSimpArgs false
namespace Go.Proofs.Ytjhncijdkmbopaa
open Go Go.RowKit

/-- A record, written over another one. -/
theorem rec_st {w : World} {b : Nat} {q : RV} {n : Mm} {T : TypeId} (h : Blk w b (q.ca n) T) (r : RV) (m : Mm) {K : World → Prop} (hk : ∀ w', Blk w' b (r.ca m) T → Kp (fun k => k = b) w w' → K w') :
    StF w ⟨b, 0, none⟩ (.int .i64 r.lsn) fun w1 => StF w1 (Addr.add ⟨b, 0, none⟩ 1) (.int .i64 r.kind) fun w2 => StF w2 (Addr.add ⟨b, 0, none⟩ 2) (.int .i64 r.tx) fun w3 => StF w3 (Addr.add ⟨b, 0, none⟩ 3) (.int .i64 r.prev) fun w4 => StF w4 (Addr.add ⟨b, 0, none⟩ 4) (.int .i64 r.wp) fun w5 => StF w5 (Addr.add ⟨b, 0, none⟩ 5) (.int .i64 r.wi) fun w6 => StF w6 (Addr.add ⟨b, 0, none⟩ 6) (.int .i64 r.sp) fun w7 => StF w7 (Addr.add ⟨b, 0, none⟩ 7) (.int .i64 r.si) fun w8 => StF w8 (Addr.add ⟨b, 0, none⟩ 8) (.int .i64 r.delta) fun w9 => StF w9 (Addr.add ⟨b, 0, none⟩ 9) (.int .i64 r.id) fun w10 => StF w10 (Addr.add ⟨b, 0, none⟩ 10) (.int .i64 r.grp) fun w11 => StF w11 (Addr.add ⟨b, 0, none⟩ 11) (.int .i64 r.lo) fun w12 => StF w12 (Addr.add ⟨b, 0, none⟩ 12) (.int .i64 r.hi) fun w13 => StF w13 (Addr.add ⟨b, 0, none⟩ 13) (.int .i64 r.val) fun w14 => StF w14 (Addr.add ⟨b, 0, none⟩ 14) (.slice m.la m.ll m.lc) fun w15 => StF w15 (Addr.add ⟨b, 0, none⟩ 15) (.slice m.da m.dl m.dc) fun w16 => StF w16 (Addr.add ⟨b, 0, none⟩ 16) (.int .i64 r.next) fun w17 => K w17 :=
  have k0 : Kp (fun k => k = b) w w := Kp.refl _ w
  have h0 : Blk w b #[.int .i64 q.lsn, .int .i64 q.kind, .int .i64 q.tx, .int .i64 q.prev, .int .i64 q.wp, .int .i64 q.wi, .int .i64 q.sp, .int .i64 q.si, .int .i64 q.delta, .int .i64 q.id, .int .i64 q.grp, .int .i64 q.lo, .int .i64 q.hi, .int .i64 q.val, .slice n.la n.ll n.lc, .slice n.da n.dl n.dc, .int .i64 q.next] T := h
  StF.at rfl h0 (by simp) fun w1 h' k' _ => have h1 : Blk w1 b #[.int .i64 r.lsn, .int .i64 q.kind, .int .i64 q.tx, .int .i64 q.prev, .int .i64 q.wp, .int .i64 q.wi, .int .i64 q.sp, .int .i64 q.si, .int .i64 q.delta, .int .i64 q.id, .int .i64 q.grp, .int .i64 q.lo, .int .i64 q.hi, .int .i64 q.val, .slice n.la n.ll n.lc, .slice n.da n.dl n.dc, .int .i64 q.next] T := h'; have k1 : Kp (fun k => k = b) w w1 := k0.trans0 k'
  StF.at rfl h1 (by simp) fun w2 h' k' _ => have h2 : Blk w2 b #[.int .i64 r.lsn, .int .i64 r.kind, .int .i64 q.tx, .int .i64 q.prev, .int .i64 q.wp, .int .i64 q.wi, .int .i64 q.sp, .int .i64 q.si, .int .i64 q.delta, .int .i64 q.id, .int .i64 q.grp, .int .i64 q.lo, .int .i64 q.hi, .int .i64 q.val, .slice n.la n.ll n.lc, .slice n.da n.dl n.dc, .int .i64 q.next] T := h'; have k2 : Kp (fun k => k = b) w w2 := k1.trans0 k'
  StF.at rfl h2 (by simp) fun w3 h' k' _ => have h3 : Blk w3 b #[.int .i64 r.lsn, .int .i64 r.kind, .int .i64 r.tx, .int .i64 q.prev, .int .i64 q.wp, .int .i64 q.wi, .int .i64 q.sp, .int .i64 q.si, .int .i64 q.delta, .int .i64 q.id, .int .i64 q.grp, .int .i64 q.lo, .int .i64 q.hi, .int .i64 q.val, .slice n.la n.ll n.lc, .slice n.da n.dl n.dc, .int .i64 q.next] T := h'; have k3 : Kp (fun k => k = b) w w3 := k2.trans0 k'
  StF.at rfl h3 (by simp) fun w4 h' k' _ => have h4 : Blk w4 b #[.int .i64 r.lsn, .int .i64 r.kind, .int .i64 r.tx, .int .i64 r.prev, .int .i64 q.wp, .int .i64 q.wi, .int .i64 q.sp, .int .i64 q.si, .int .i64 q.delta, .int .i64 q.id, .int .i64 q.grp, .int .i64 q.lo, .int .i64 q.hi, .int .i64 q.val, .slice n.la n.ll n.lc, .slice n.da n.dl n.dc, .int .i64 q.next] T := h'; have k4 : Kp (fun k => k = b) w w4 := k3.trans0 k'
  StF.at rfl h4 (by simp) fun w5 h' k' _ => have h5 : Blk w5 b #[.int .i64 r.lsn, .int .i64 r.kind, .int .i64 r.tx, .int .i64 r.prev, .int .i64 r.wp, .int .i64 q.wi, .int .i64 q.sp, .int .i64 q.si, .int .i64 q.delta, .int .i64 q.id, .int .i64 q.grp, .int .i64 q.lo, .int .i64 q.hi, .int .i64 q.val, .slice n.la n.ll n.lc, .slice n.da n.dl n.dc, .int .i64 q.next] T := h'; have k5 : Kp (fun k => k = b) w w5 := k4.trans0 k'
  StF.at rfl h5 (by simp) fun w6 h' k' _ => have h6 : Blk w6 b #[.int .i64 r.lsn, .int .i64 r.kind, .int .i64 r.tx, .int .i64 r.prev, .int .i64 r.wp, .int .i64 r.wi, .int .i64 q.sp, .int .i64 q.si, .int .i64 q.delta, .int .i64 q.id, .int .i64 q.grp, .int .i64 q.lo, .int .i64 q.hi, .int .i64 q.val, .slice n.la n.ll n.lc, .slice n.da n.dl n.dc, .int .i64 q.next] T := h'; have k6 : Kp (fun k => k = b) w w6 := k5.trans0 k'
  StF.at rfl h6 (by simp) fun w7 h' k' _ => have h7 : Blk w7 b #[.int .i64 r.lsn, .int .i64 r.kind, .int .i64 r.tx, .int .i64 r.prev, .int .i64 r.wp, .int .i64 r.wi, .int .i64 r.sp, .int .i64 q.si, .int .i64 q.delta, .int .i64 q.id, .int .i64 q.grp, .int .i64 q.lo, .int .i64 q.hi, .int .i64 q.val, .slice n.la n.ll n.lc, .slice n.da n.dl n.dc, .int .i64 q.next] T := h'; have k7 : Kp (fun k => k = b) w w7 := k6.trans0 k'
  StF.at rfl h7 (by simp) fun w8 h' k' _ => have h8 : Blk w8 b #[.int .i64 r.lsn, .int .i64 r.kind, .int .i64 r.tx, .int .i64 r.prev, .int .i64 r.wp, .int .i64 r.wi, .int .i64 r.sp, .int .i64 r.si, .int .i64 q.delta, .int .i64 q.id, .int .i64 q.grp, .int .i64 q.lo, .int .i64 q.hi, .int .i64 q.val, .slice n.la n.ll n.lc, .slice n.da n.dl n.dc, .int .i64 q.next] T := h'; have k8 : Kp (fun k => k = b) w w8 := k7.trans0 k'
  StF.at rfl h8 (by simp) fun w9 h' k' _ => have h9 : Blk w9 b #[.int .i64 r.lsn, .int .i64 r.kind, .int .i64 r.tx, .int .i64 r.prev, .int .i64 r.wp, .int .i64 r.wi, .int .i64 r.sp, .int .i64 r.si, .int .i64 r.delta, .int .i64 q.id, .int .i64 q.grp, .int .i64 q.lo, .int .i64 q.hi, .int .i64 q.val, .slice n.la n.ll n.lc, .slice n.da n.dl n.dc, .int .i64 q.next] T := h'; have k9 : Kp (fun k => k = b) w w9 := k8.trans0 k'
  StF.at rfl h9 (by simp) fun w10 h' k' _ => have h10 : Blk w10 b #[.int .i64 r.lsn, .int .i64 r.kind, .int .i64 r.tx, .int .i64 r.prev, .int .i64 r.wp, .int .i64 r.wi, .int .i64 r.sp, .int .i64 r.si, .int .i64 r.delta, .int .i64 r.id, .int .i64 q.grp, .int .i64 q.lo, .int .i64 q.hi, .int .i64 q.val, .slice n.la n.ll n.lc, .slice n.da n.dl n.dc, .int .i64 q.next] T := h'; have k10 : Kp (fun k => k = b) w w10 := k9.trans0 k'
  StF.at rfl h10 (by simp) fun w11 h' k' _ => have h11 : Blk w11 b #[.int .i64 r.lsn, .int .i64 r.kind, .int .i64 r.tx, .int .i64 r.prev, .int .i64 r.wp, .int .i64 r.wi, .int .i64 r.sp, .int .i64 r.si, .int .i64 r.delta, .int .i64 r.id, .int .i64 r.grp, .int .i64 q.lo, .int .i64 q.hi, .int .i64 q.val, .slice n.la n.ll n.lc, .slice n.da n.dl n.dc, .int .i64 q.next] T := h'; have k11 : Kp (fun k => k = b) w w11 := k10.trans0 k'
  StF.at rfl h11 (by simp) fun w12 h' k' _ => have h12 : Blk w12 b #[.int .i64 r.lsn, .int .i64 r.kind, .int .i64 r.tx, .int .i64 r.prev, .int .i64 r.wp, .int .i64 r.wi, .int .i64 r.sp, .int .i64 r.si, .int .i64 r.delta, .int .i64 r.id, .int .i64 r.grp, .int .i64 r.lo, .int .i64 q.hi, .int .i64 q.val, .slice n.la n.ll n.lc, .slice n.da n.dl n.dc, .int .i64 q.next] T := h'; have k12 : Kp (fun k => k = b) w w12 := k11.trans0 k'
  StF.at rfl h12 (by simp) fun w13 h' k' _ => have h13 : Blk w13 b #[.int .i64 r.lsn, .int .i64 r.kind, .int .i64 r.tx, .int .i64 r.prev, .int .i64 r.wp, .int .i64 r.wi, .int .i64 r.sp, .int .i64 r.si, .int .i64 r.delta, .int .i64 r.id, .int .i64 r.grp, .int .i64 r.lo, .int .i64 r.hi, .int .i64 q.val, .slice n.la n.ll n.lc, .slice n.da n.dl n.dc, .int .i64 q.next] T := h'; have k13 : Kp (fun k => k = b) w w13 := k12.trans0 k'
  StF.at rfl h13 (by simp) fun w14 h' k' _ => have h14 : Blk w14 b #[.int .i64 r.lsn, .int .i64 r.kind, .int .i64 r.tx, .int .i64 r.prev, .int .i64 r.wp, .int .i64 r.wi, .int .i64 r.sp, .int .i64 r.si, .int .i64 r.delta, .int .i64 r.id, .int .i64 r.grp, .int .i64 r.lo, .int .i64 r.hi, .int .i64 r.val, .slice n.la n.ll n.lc, .slice n.da n.dl n.dc, .int .i64 q.next] T := h'; have k14 : Kp (fun k => k = b) w w14 := k13.trans0 k'
  StF.at rfl h14 (by simp) fun w15 h' k' _ => have h15 : Blk w15 b #[.int .i64 r.lsn, .int .i64 r.kind, .int .i64 r.tx, .int .i64 r.prev, .int .i64 r.wp, .int .i64 r.wi, .int .i64 r.sp, .int .i64 r.si, .int .i64 r.delta, .int .i64 r.id, .int .i64 r.grp, .int .i64 r.lo, .int .i64 r.hi, .int .i64 r.val, .slice m.la m.ll m.lc, .slice n.da n.dl n.dc, .int .i64 q.next] T := h'; have k15 : Kp (fun k => k = b) w w15 := k14.trans0 k'
  StF.at rfl h15 (by simp) fun w16 h' k' _ => have h16 : Blk w16 b #[.int .i64 r.lsn, .int .i64 r.kind, .int .i64 r.tx, .int .i64 r.prev, .int .i64 r.wp, .int .i64 r.wi, .int .i64 r.sp, .int .i64 r.si, .int .i64 r.delta, .int .i64 r.id, .int .i64 r.grp, .int .i64 r.lo, .int .i64 r.hi, .int .i64 r.val, .slice m.la m.ll m.lc, .slice m.da m.dl m.dc, .int .i64 q.next] T := h'; have k16 : Kp (fun k => k = b) w w16 := k15.trans0 k'
  StF.at rfl h16 (by simp) fun w17 h' k' _ => have h17 : Blk w17 b #[.int .i64 r.lsn, .int .i64 r.kind, .int .i64 r.tx, .int .i64 r.prev, .int .i64 r.wp, .int .i64 r.wi, .int .i64 r.sp, .int .i64 r.si, .int .i64 r.delta, .int .i64 r.id, .int .i64 r.grp, .int .i64 r.lo, .int .i64 r.hi, .int .i64 r.val, .slice m.la m.ll m.lc, .slice m.da m.dl m.dc, .int .i64 r.next] T := h'; have k17 : Kp (fun k => k = b) w w17 := k16.trans0 k'
  hk w17 h17 k17

/-- A result's block is written over, and read. -/
theorem ret_c {w0 w : World} {ow : Nat → Nat} {b1 b2 : Nat} {q : RV} {n : Mm} (h : Bx w0 w ow b1 b2 q n) (r : RV) (m : Mm) {K : World → Prop} (hk : ∀ w', Blk w' b1 (r.ca m) T_api_Record → Old w0 w' ow → Fro (fun t => t ≠ 1) w ow w' ow → K w') {G : Prop}
    (hG : G = (StF w ⟨b1, 0, none⟩ (.int .i64 r.lsn) fun w1 => StF w1 (Addr.add ⟨b1, 0, none⟩ 1) (.int .i64 r.kind) fun w2 => StF w2 (Addr.add ⟨b1, 0, none⟩ 2) (.int .i64 r.tx) fun w3 => StF w3 (Addr.add ⟨b1, 0, none⟩ 3) (.int .i64 r.prev) fun w4 =>
      StF w4 (Addr.add ⟨b1, 0, none⟩ 4) (.int .i64 r.wp) fun w5 => StF w5 (Addr.add ⟨b1, 0, none⟩ 5) (.int .i64 r.wi) fun w6 => StF w6 (Addr.add ⟨b1, 0, none⟩ 6) (.int .i64 r.sp) fun w7 => StF w7 (Addr.add ⟨b1, 0, none⟩ 7) (.int .i64 r.si) fun w8 =>
      StF w8 (Addr.add ⟨b1, 0, none⟩ 8) (.int .i64 r.delta) fun w9 => StF w9 (Addr.add ⟨b1, 0, none⟩ 9) (.int .i64 r.id) fun w10 => StF w10 (Addr.add ⟨b1, 0, none⟩ 10) (.int .i64 r.grp) fun w11 => StF w11 (Addr.add ⟨b1, 0, none⟩ 11) (.int .i64 r.lo) fun w12 =>
      StF w12 (Addr.add ⟨b1, 0, none⟩ 12) (.int .i64 r.hi) fun w13 => StF w13 (Addr.add ⟨b1, 0, none⟩ 13) (.int .i64 r.val) fun w14 => StF w14 (Addr.add ⟨b1, 0, none⟩ 14) (.slice m.la m.ll m.lc) fun w15 => StF w15 (Addr.add ⟨b1, 0, none⟩ 15) (.slice m.da m.dl m.dc) fun w16 =>
      StF w16 (Addr.add ⟨b1, 0, none⟩ 16) (.int .i64 r.next) fun w17 => K w17)) : G := by
  subst hG
  refine rec_st h.x1 r m fun w' hb k => ?_
  have f : Fro (fun t => t ≠ 1) w ow w' ow := Fro.of_kp' k fun b _ hb' hne => hne (by rw [hb']; exact h.t1)
  exact hk w' hb (h.old.fr f (by omega)) f

theorem wr31 {n : Nat} (h : n ≤ 2147483648) : IntKind.wrap .i64 (n : Int) = (n : Int) := wrap_i64 (by omega) (by omega)

/-- A live transaction more. -/
theorem pushL {w0 w : World} {ow : Nat → Nat} {b1 b2 : Nat} {r : RV} {m : Mm} (hx : Bx w0 w ow b1 b2 r m) (hL : Ls w ow r m) (x : LV) (hlen : m.ll ≤ 1000) {K : World → Prop}
    (h : ∀ m' w' ow', Bx w0 w' ow' b1 b2 { r with live := r.live ++ [x] } m' → Ls w' ow' { r with live := r.live ++ [x] } m' → Fro (fun t => t ≠ 2 ∧ t ≠ 4) w ow w' ow' → m'.ll = m.ll + 1 → m'.dl = m.dl → K w') :
    AlF w (.cells #[.int .i64 x.tx, .int .i64 x.last, .bool x.c, .bool x.u] T_api_Live) fun b4 w94 => RunF Try.prog (Builtin.append_ #[T_s_api_Live, T_s_api_Live] T_s_api_Live #[.slice m.la m.ll m.lc, .slice (some ⟨b4, 0, none⟩) 1 1]) w94 fun r11 w95 =>
      ∃ (a11 : Option Addr) (l11 c11 : Nat), r11 = .slice a11 l11 c11 ∧ StF w95 (Addr.add ⟨b2, 0, none⟩ 14) (.slice a11 l11 c11) K := by
  refine AlF.intro fun b4 wa hb4e hb4 ka _ => ?_
  have fa : Fro (fun _ => True) w ow wa (ext ow w.heap.size 8) := Fro.of_kp0 8 ka
  have hLa := hL.fr fa trivial trivial
  have hxa := hx.fr fa trivial trivial trivial
  refine app_c er_lv hLa.lv (rd_cells hb4 (xs := x.cs) rfl) (by rw [LV.csl]) (fun hh => by cases hh) x.cs1 (by omega) (by omega) fun a' c' wb hs' kb fb => ⟨a', _, c', rfl, ?_⟩
  have hxb := hxa.fr fb (by omega) (by omega) (by omega)
  have hdb := hLa.dv.fr fb (by omega)
  refine hxb.st { r with live := r.live ++ [x] } { m with la := a', ll := m.ll + 1, lc := c' } rfl (Nat.le_of_ble_eq_true rfl) rfl fun wc hxc fc => ?_
  refine h _ wc _ hxc ⟨?_, hdb.fr fc (by omega), by simp [hL.ll], hL.dl⟩ ?_ rfl rfl
  · have := hs'.fr fc (by omega)
    show SlT wc _ T_api_Live 4 a' (m.ll + 1) c' (flatV LV.cs (r.live ++ [x])) 4
    rw [flatV_app]
    exact this
  · exact ((fa.mono fun _ _ => trivial).trans (fb.mono fun t ht => ht.2)).trans (fc.mono fun t ht => ht.1)

/-- A dirty page more. -/
theorem pushD {w0 w : World} {ow : Nat → Nat} {b1 b2 : Nat} {r : RV} {m : Mm} (hx : Bx w0 w ow b1 b2 r m) (hL : Ls w ow r m) (x : DV) (hlen : m.dl ≤ 1000) {K : World → Prop}
    (h : ∀ m' w' ow', Bx w0 w' ow' b1 b2 { r with dirty := r.dirty ++ [x] } m' → Ls w' ow' { r with dirty := r.dirty ++ [x] } m' → Fro (fun t => t ≠ 2 ∧ t ≠ 5) w ow w' ow' → m'.dl = m.dl + 1 → m'.ll = m.ll → K w') :
    AlF w (.cells #[.int .i64 x.page, .int .i64 x.since] T_api_Dirty) fun b4 w94 => (Blk w94 b2 (r.ca m) T_api_Record) ∧ RunF Try.prog (Builtin.append_ #[T_s_api_Dirty, T_s_api_Dirty] T_s_api_Dirty #[.slice m.da m.dl m.dc, .slice (some ⟨b4, 0, none⟩) 1 1]) w94 fun r11 w95 =>
      ∃ (a11 : Option Addr) (l11 c11 : Nat), r11 = .slice a11 l11 c11 ∧ Blk w95 b2 (r.ca m) T_api_Record ∧ StF w95 (Addr.add (Addr.add ⟨b2, 0, none⟩ 14) 1) (.slice a11 l11 c11) K := by
  refine AlF.intro fun b4 wa hb4e hb4 ka _ => ?_
  have fa : Fro (fun _ => True) w ow wa (ext ow w.heap.size 8) := Fro.of_kp0 8 ka
  have hLa := hL.fr fa trivial trivial
  have hxa := hx.fr fa trivial trivial trivial
  refine ⟨hxa.x2, app_c er_dv hLa.dv (rd_cells hb4 (xs := x.cs) rfl) (by rw [DV.csl]) (fun hh => by cases hh) x.cs1 (by omega) (by omega) fun a' c' wb hs' kb fb => ⟨a', _, c', rfl, ?_⟩⟩
  have hxb := hxa.fr fb (by omega) (by omega) (by omega)
  have hdb := hLa.lv.fr fb (by omega)
  refine ⟨hxb.x2, hxb.st { r with dirty := r.dirty ++ [x] } { m with da := a', dl := m.dl + 1, dc := c' } rfl (Nat.le_of_ble_eq_true rfl) rfl fun wc hxc fc => ?_⟩
  refine h _ wc _ hxc ⟨hdb.fr fc (by omega), ?_, hL.ll, by simp [hL.dl]⟩ ?_ rfl rfl
  · have := hs'.fr fc (by omega)
    show SlT wc _ T_api_Dirty 2 a' (m.dl + 1) c' (flatV DV.cs (r.dirty ++ [x])) 5
    rw [flatV_app]
    exact this
  · exact ((fa.mono fun _ _ => trivial).trans (fb.mono fun t ht => ht.2)).trans (fc.mono fun t ht => ht.1)

theorem Rr.E {w : World} {ow : Nat → Nat} {B : Nat} {g : Option Addr} {bs : List UInt8} {st : Nat × Nat} {R : Ending → World → Prop} (h : Rr w ow B g bs st)
    (hk : ∀ w', Rr w' ow B g bs (st.1, endE bs st) → Fro (fun t => t ≠ 3) w ow w' ow → R (.returned (.tuple #[])) w') : GoC Try.prog F_field_Reader_End #[.pointer (some ⟨B, 0, none⟩)] w R :=
  reader_End h.re fun w' hr k => hk w' ⟨hr, h.t3⟩ (Fro.of_kp' k fun b _ hb' hne => hne (h.t3 b (.inl hb')))
theorem Rr.F {w : World} {ow : Nat → Nat} {B : Nat} {g : Option Addr} {bs : List UInt8} {st : Nat × Nat} {R : Ending → World → Prop} (h : Rr w ow B g bs st)
    (hk : ∀ n w', Fro (fun _ => True) w ow w' ow → R (.returned (.tuple #[.int .i64 n, .int .i64 (st.2 : Int)])) w') : GoC Try.prog F_field_Reader_Fault #[.pointer (some ⟨B, 0, none⟩)] w R :=
  reader_Fault h.re fun w' k => hk _ w' (Fro.of_kp' k fun _ _ h => h.elim)
theorem u64c {k n : Nat} (h : k < n) (hn : n ≤ 1000) : IntKind.wrap .u64 ((k : Int) + 1) = ((k + 1 : Nat) : Int) := by rw [wrap_u64 (by omega) (by omega)]; omega

set_option maxHeartbeats 1000000 in
theorem decode_c {w : World} {a : Option Addr} {l c : Nat} {bs : List UInt8} {R : Ending → World → Prop} (hr : Rd w a (bvs bs)) (hl : bs.length = l) (h0 : a = none → l = 0) (hb : l < 140737488355329)
    (h : ∀ m w' ow, Kp no w w' → Old w w' ow → Ls w' ow (decB bs).1 m → R (.returned (.tuple #[.agg ((decB bs).1.ca m), .int .i64 ((decB bs).2 : Int)])) w') : GoC Try.prog F_record_Decode #[.slice a l c] w R := by
  subst hl
  refine S_record_Decode ?_
  unfold W_record_Decode
  refine AlF.intro fun b1 w1 hb1e hb1 k1 hs1 => ?_
  refine newReader_c (hr.kp0 k1) rfl h0 (by omega) fun B g w2 hre k2 hB hg => ⟨_, rfl, ?_⟩
  have o0 : Old w w fun _ => 0 := ⟨Kp.refl _ _, fun _ _ => rfl⟩
  have f1 : Fro (fun _ => True) w (fun _ => 0) w1 (ext (fun _ => 0) w.heap.size 1) := Fro.of_kp0 1 k1
  have f2 : Fro (fun _ => True) w1 (ext (fun _ => 0) w.heap.size 1) w2 (ext (ext (fun _ => 0) w.heap.size 1) w1.heap.size 3) := Fro.of_kp0 3 k2
  generalize how : ext (ext (fun _ => 0) w.heap.size 1) w1.heap.size 3 = ow2 at f2
  have t1 : ow2 b1 = 1 := by rw [← how, ext_old (by omega), ext_new (by omega)]
  have old2 : Old w w2 ow2 := (o0.fr f1 trivial).fr f2 trivial
  have x1 : Blk w2 b1 (({} : RV).ca {}) T_api_Record := k2.blk hb1 id
  have hR2 : Rr w2 ow2 B g bs (0, 0) := ⟨hre, fun k hk => by
    rw [← how]
    rcases hk with rfl | hk
    · exact ext_new hB
    · exact ext_new (hg k hk)⟩
  have hfin : ∀ (r : RV) (e : Nat), decB bs = (r, e) → ∀ m w' ow, Kp no w w' → Old w w' ow → Ls w' ow r m → R (.returned (.tuple #[.agg (r.ca m), .int .i64 (e : Int)])) w' := fun r e he m w' ow hk ho hL => by
    have := h m w' ow hk ho (by rw [he]; exact hL)
    rw [he] at this
    exact this
  have e0 : ∀ w' ow, Ls w' ow {} {} := fun w' ow => ⟨slt_nil _ _ _ _ _, slt_nil _ _ _ _ _, rfl, rfl⟩
  -- a way out with an empty record
  have out : ∀ (e : Nat) (w' : World) (ow : Nat → Nat) (b2 : Nat) (q : RV) (n : Mm), decB bs = ({}, e) → Bx w w' ow b1 b2 q n → ∀ w'', Blk w'' b1 (({} : RV).ca {}) T_api_Record → Old w w'' ow → R (.returned (.tuple #[.agg (({} : RV).ca {}), .int .i64 (e : Int)])) w'' :=
    fun e w' ow b2 q n he hx w'' hb ho => hfin _ _ he {} w'' ow ho.kp ho (e0 _ _)
  refine hR2.U (M := 18446744073709551615) hb fun w3 hR3 f3 => ⟨_, rfl, ?_⟩
  have hR3 : Rr w3 ow2 B g bs (rdU bs (0, 0) 18446744073709551615).2 := hR3
  have hx3 : Blk w3 b1 (({} : RV).ca {}) T_api_Record ∧ ow2 b1 = 1 := blk_fr x1 t1 f3 (by omega)
  have old3 := old2.fr f3 (by omega)
  have bx3 : Bx w w3 ow2 b1 b1 {} {} → Bx w w3 ow2 b1 b1 {} {} := id
  refine reader_Fault hR3.re fun w4 k4 => ⟨_, _, rfl, ?_⟩
  have f4 : Fro (fun _ => True) w3 ow2 w4 ow2 := Fro.of_kp' k4 fun _ _ h => h.elim
  have hR4 := hR3.fr f4 trivial
  have hx4 : Blk w4 b1 (({} : RV).ca {}) T_api_Record := k4.blk hx3.1 id
  have old4 := old3.fr f4 trivial
  have zero : ∀ (e : Nat), decB bs = ({}, e) → ∀ w'', Blk w'' b1 (({} : RV).ca {}) T_api_Record → Kp (fun k => k = b1) w4 w'' → R (.returned (.tuple #[.agg (({} : RV).ca {}), .int .i64 (e : Int)])) w'' := fun e he w'' hb kk => by
    have f : Fro (fun t => t ≠ 1) w4 ow2 w'' ow2 := Fro.of_kp' kk fun b _ hb' hne => hne (by rw [hb']; exact t1)
    have := old4.fr f (by omega)
    exact hfin _ _ he {} w'' ow2 this.kp this (e0 _ _)
  generalize ha : rdU bs (0, 0) 18446744073709551615 = a3 at *
  refine cond_ne (fun hf => ?_) (fun hf => ?_)
  · refine rec_st hx4 {} {} fun w5 hb5 k5 => rec_rd hb5 (zero a3.2.2 ?_ w5 hb5 k5)
    unfold decB
    simp only [ha]
    rw [if_pos (by omega)]
  have hd70 : (a3.1 < 1 ∨ 8 < a3.1) → decB bs = ({}, 70) := fun hh => by
    unfold decB
    simp only [ha]
    rw [if_neg (by omega), if_pos hh]
  refine cond_d (fun hlt => ?_) (fun hge => cond_d (fun hgt => ?_) (fun hle => ?_))
  · exact rec_st hx4 {} {} fun w5 hb5 k5 => rec_rd hb5 (zero 70 (hd70 (by omega)) w5 hb5 k5)
  · exact rec_st hx4 {} {} fun w5 hb5 k5 => rec_rd hb5 (zero 70 (hd70 (by omega)) w5 hb5 k5)
  have hdec : decB bs = (let x := rdRec bs (a3.1 : Int) a3.2; if endE bs x.2 ≠ 0 then ({}, endE bs x.2) else if chkN x.1 ≠ 0 then ({}, chkN x.1) else (x.1, 0)) := by
    unfold decB
    simp only [ha]
    rw [if_neg (by omega), if_neg (by omega)]
  have hk31 : IntKind.wrap .i64 (a3.1 : Int) = (a3.1 : Int) := wr31 (by omega)
  rw [hk31]
  refine rec_cp { kind := (a3.1 : Int) } {} fun b2 w5 h5 => ?_
  have f5 : Fro (fun _ => True) w4 ow2 w5 (ext ow2 w4.heap.size 2) := Fro.of_kp0 2 h5.kp
  have hR5 := hR4.fr f5 trivial
  have bx5 : Bx w w5 (ext ow2 w4.heap.size 2) b1 b2 { kind := (a3.1 : Int) } {} := by
    obtain ⟨a, b⟩ := blk_fr hx4 t1 f5 trivial
    exact ⟨old4.fr f5 trivial, a, b, h5.blk, ext_new h5.nw⟩
  generalize ext ow2 w4.heap.size 2 = ow5 at f5 hR5 bx5
  have hk1 : (1 : Int) ≤ (a3.1 : Int) := by omega
  have hk8 : (a3.1 : Int) ≤ 8 := by omega
  generalize hK : (a3.1 : Int) = kd at *
  have hms : mst kd ≤ 2147483648 := by unfold mst; split <;> omega
  refine ⟨fun s w' => w' = w5 ∧ s.1 = (mst kd : Int), ?_, ?_⟩
  · refine ⟨_, bx5.x2.at rfl rfl, cond_eq (fun e8 => ⟨rfl, ?_⟩) (fun n8 => ⟨rfl, ?_⟩)⟩
    · unfold mst
      rw [if_pos e8]
      decide
    · unfold mst
      rw [if_neg n8]
      rfl
  rintro ⟨s12, u12⟩ w6 ⟨rfl, hs12⟩ _
  dsimp only at hs12 ⊢
  subst hs12
  refine fields_c (r := { kind := kd }) (m := {}) bx5.x2 hk1 hk8 fun a8 c8 a9 c9 w7 k7 hr8 hr9 hf8 hf9 => ⟨_, _, _, _, _, _, rfl, ?_⟩
  dsimp only at hr8 hr9 ⊢
  have f7 : Fro (fun _ => True) w6 ow5 w7 (ext ow5 w6.heap.size 6) := Fro.of_kp0 6 k7
  have hR7 := hR5.fr f7 trivial
  have bx7 := bx5.fr f7 trivial trivial trivial
  have p8 : RdT w7 (ext ow5 w6.heap.size 6) a8 ((iof kd).map (pv b2)) 6 := ⟨hr8, fun _ k hk => ext_new (hf8 k hk)⟩
  have p9 : RdT w7 (ext ow5 w6.heap.size 6) a9 ((sof kd).map (pv b2)) 6 := ⟨hr9, fun _ k hk => ext_new (hf9 k hk)⟩
  generalize ext ow5 w6.heap.size 6 = ow7 at f7 hR7 bx7 p8 p9
  clear f7 hR5 bx5 hr8 hr9 hf8 hf9
  have il := iof_len kd
  have sl := sof_len kd
  refine loopN (fun s w' => ∃ k : Nat, k ≤ (iof kd).length ∧ s.1 = (k : Int) ∧ ∃ r st, Bx w w' ow7 b1 b2 r {} ∧ Rr w' ow7 B g bs st ∧ RdT w' ow7 a8 ((iof kd).map (pv b2)) 6 ∧ RdT w' ow7 a9 ((sof kd).map (pv b2)) 6 ∧ (r.kind = kd ∧ r.live = [] ∧ r.dirty = []) ∧
      rdInts bs (mst kd) ((iof kd).drop k) (r, st) = rdInts bs (mst kd) (iof kd) ({ kind := kd }, a3.2)) (fun s _ => (iof kd).length - s.1.toNat) ⟨0, Nat.zero_le _, rfl, _, _, bx7, hR7, p8, p9, ⟨rfl, rfl, rfl⟩, rfl⟩ ?_
  rintro ⟨k0, u⟩ wa ⟨k, hk, hk0, r, st, bx, hR, q8, q9, hrk, hrd⟩ _
  dsimp only at hk0 ⊢
  subst hk0
  refine cond_d (fun hlt => ?_) (fun hge => ?_)
  · have hkl : k < (iof kd).length := by omega
    have hmem := iof_plc _ _ (List.getElem_mem hkl)
    refine q8.rd.idx (by omega) hlt (by simp) fun b o ha hcl => ?_
    refine ⟨some ⟨b2, (iof kd)[k], none⟩, by rw [Int.toNat_natCast, add_at]; exact hcl k _ (by simp [hkl, pv]), ?_⟩
    refine hR.U hb fun wb hRb fb => ⟨_, rfl, NilF.intro rfl ?_⟩
    rw [wr31 (by have := rdU_le bs st (mst kd); omega)]
    refine (bx.fr fb (by omega) (by omega) (by omega)).st (r.put ((rdU bs st (mst kd)).1 : Int) (iof kd)[k]) {} rfl (plc_lt hmem) (put_cell _ _ _ hmem) fun wc bxc fc => ?_
    rw [wk1 hkl (by omega)]
    obtain ⟨e1, e2, e3, _⟩ := put_kind (r := r) (v := ((rdU bs st (mst kd)).1 : Int)) hmem
    refine ⟨⟨k + 1, by omega, rfl, _, _, bxc, hRb.fr fc (by omega), (q8.fr fb (by omega)).fr fc (by omega), (q9.fr fb (by omega)).fr fc (by omega), ⟨by rw [e1]; exact hrk.1, by rw [e2]; exact hrk.2.1, by rw [e3]; exact hrk.2.2⟩, ?_⟩, by simp only [Int.toNat_natCast]; omega⟩
    rw [← hrd, List.drop_eq_getElem_cons hkl, rdInts]
  have hke : k = (iof kd).length := by omega
  subst hke
  rw [List.drop_length, rdInts] at hrd
  refine loopN (fun s w' => ∃ k : Nat, k ≤ (sof kd).length ∧ s.1 = (k : Int) ∧ ∃ r st, Bx w w' ow7 b1 b2 r {} ∧ Rr w' ow7 B g bs st ∧ RdT w' ow7 a9 ((sof kd).map (pv b2)) 6 ∧ (r.kind = kd ∧ r.live = [] ∧ r.dirty = []) ∧
      rdSgn bs ((sof kd).drop k) (r, st) = rdSgn bs (sof kd) (rdInts bs (mst kd) (iof kd) ({ kind := kd }, a3.2))) (fun s _ => (sof kd).length - s.1.toNat) ⟨0, Nat.zero_le _, rfl, r, st, bx, hR, q9, hrk, by rw [← hrd]; rfl⟩ ?_
  rintro ⟨k0, u⟩ wd ⟨k, hk, hk0, r, st, bx, hR, q9, hrk, hrd⟩ _
  dsimp only at hk0 ⊢
  subst hk0
  refine cond_d (fun hlt => ?_) (fun hge => ?_)
  · have hkl : k < (sof kd).length := by omega
    have hmem := sof_plc _ _ (List.getElem_mem hkl)
    refine q9.rd.idx (by omega) hlt (by simp) fun b o ha hcl => ?_
    refine ⟨some ⟨b2, (sof kd)[k], none⟩, by rw [Int.toNat_natCast, add_at]; exact hcl k _ (by simp [hkl, pv]), ?_⟩
    refine hR.S hb fun wb hRb fb => ⟨_, rfl, NilF.intro rfl ?_⟩
    refine (bx.fr fb (by omega) (by omega) (by omega)).st (r.put (unzig (rdU bs st 18446744073709551615).1) (sof kd)[k]) {} rfl (plc_lt hmem) (put_cell _ _ _ hmem) fun wc bxc fc => ?_
    rw [wk1 hkl (by omega)]
    obtain ⟨e1, e2, e3, _⟩ := put_kind (r := r) (v := unzig (rdU bs st 18446744073709551615).1) hmem
    refine ⟨⟨k + 1, by omega, rfl, _, _, bxc, hRb.fr fc (by omega), (q9.fr fb (by omega)).fr fc (by omega), ⟨by rw [e1]; exact hrk.1, by rw [e2]; exact hrk.2.1, by rw [e3]; exact hrk.2.2⟩, ?_⟩, by simp only [Int.toNat_natCast]; omega⟩
    rw [← hrd, List.drop_eq_getElem_cons hkl, rdSgn]
  have hke : k = (sof kd).length := by omega
  subst hke
  rw [List.drop_length, rdSgn] at hrd
  have hrec : rdRec bs kd a3.2 = rdTail bs (r, st) := by unfold rdRec; rw [← hrd]
  obtain ⟨hk, hl0, hd0⟩ := hrk
  have hL : Ls wd ow7 r {} := ⟨by rw [hl0]; exact slt_nil _ _ _ _ _, by rw [hd0]; exact slt_nil _ _ _ _ _, by rw [hl0]; rfl, by rw [hd0]; rfl⟩
  refine ⟨fun _ w' => ∃ r m st ow, Bx w w' ow b1 b2 r m ∧ Rr w' ow B g bs st ∧ Ls w' ow r m ∧ m.ll ≤ 1000 ∧ m.dl ≤ 1000 ∧ rdRec bs kd a3.2 = (r, st), ?_, ?_⟩
  · refine ⟨_, bx.x2.at rfl rfl, cond_eq (fun e8 => ?_) (fun n8 => ⟨r, {}, st, ow7, bx, hR, hL, by simp, by simp, ?_⟩)⟩
    rotate_left
    · rw [hrec]
      unfold rdTail
      rw [if_neg (by exact n8)]
    have hrec : rdRec bs kd a3.2 = rdCp bs (r, st) := by
      rw [hrec]
      unfold rdTail
      rw [if_pos (by exact e8)]
    refine hR.U (M := 32) hb fun we hRe fe => ⟨_, rfl, ?_⟩
    have bxe := bx.fr fe (by omega) (by omega) (by omega)
    have hLe := hL.fr fe (by omega) (by omega)
    have hn32 := rdU_le bs st 32
    unfold rdCp at hrec
    dsimp only at hrec
    generalize rdU bs st 32 = nn at *
    rw [hl0, hd0] at hrec
    refine loopN (fun s w' => ∃ k : Nat, k ≤ nn.1 ∧ s.1 = (k : Int) ∧ ∃ L m st ow, Bx w w' ow b1 b2 { r with live := L } m ∧ Rr w' ow B g bs st ∧ Ls w' ow { r with live := L } m ∧ m.ll = k ∧ m.dl = 0 ∧
        rdLive bs (nn.1 - k) (L, st) = rdLive bs nn.1 ([], nn.2)) (fun s _ => nn.1 - s.1.toNat) ⟨0, Nat.zero_le _, rfl, [], {}, nn.2, ow7, by rw [← hl0]; exact bxe, hRe, by rw [← hl0]; exact hLe, rfl, rfl, rfl⟩ ?_
    rintro ⟨k0, u⟩ wf ⟨k, hk, hk0, L, m, st', ow, bx, hR, hL, hm, hmd, hrl⟩ _
    dsimp only at hk0 ⊢
    subst hk0
    refine cond_d (fun hlt => ?_) (fun hge => ?_)
    · have hkn : k < nn.1 := by omega
      refine hR.U (M := 2147483647) hb fun w1 hR1 f1 => ⟨_, rfl, ?_⟩
      refine hR1.U (M := 2147483647) hb fun w2 hR2 f2 => ⟨_, rfl, ?_⟩
      have bx2 := (bx.fr f1 (by omega) (by omega) (by omega)).fr f2 (by omega) (by omega) (by omega)
      have hL2 := (hL.fr f1 (by omega) (by omega)).fr f2 (by omega) (by omega)
      have v1 := rdU_le bs st' 2147483647
      have v2 := rdU_le bs (rdU bs st' 2147483647).2 2147483647
      rw [wr31 (by omega), wr31 (by omega)]
      refine lv_cp ⟨((rdU bs st' 2147483647).1 : Int), ((rdU bs (rdU bs st' 2147483647).2 2147483647).1 : Int), false, false⟩ fun b3 w3 h3 => ?_
      have f3 : Fro (fun _ => True) w2 ow w3 (ext ow w2.heap.size 7) := Fro.of_kp0 7 h3.kp
      have t7 : ext ow w2.heap.size 7 b3 = 7 := ext_new h3.nw
      have bx3 := bx2.fr f3 trivial trivial trivial
      have hL3 := hL2.fr f3 trivial trivial
      have hR3 := hR2.fr f3 trivial
      generalize ext ow w2.heap.size 7 = ow3 at *
      refine hR3.U (M := 2) hb fun w4 hR4 f4 => ⟨_, rfl, ?_⟩
      obtain ⟨x4, _⟩ := blk_fr h3.blk t7 f4 (by omega)
      have bx4 := bx3.fr f4 (by omega) (by omega) (by omega)
      have hL4 := hL3.fr f4 (by omega) (by omega)
      refine StF.at rfl x4 (by simp [LV.cs]) fun w5 x5 k5 _ => ?_
      refine StF.at rfl x5 (by simp [LV.cs]) fun w6 x6 k6 _ => ?_
      have f6 : Fro (fun t => t ≠ 7) w4 ow3 w6 ow3 := Fro.of_kp' (k5.trans0 k6) fun b _ hb' hne => hne (by rw [hb']; exact t7)
      have bx6 := bx4.fr f6 (by omega) (by omega) (by omega)
      have hL6 := hL4.fr f6 (by omega) (by omega)
      have hR6 := hR4.fr f6 (by omega)
      refine ⟨_, _, _, bx6.x2.at rfl rfl, _, _, _, _, ⟨x6.at rfl rfl, x6.at rfl rfl, x6.at rfl rfl, x6.at rfl rfl, trivial⟩, ?_⟩
      refine pushL bx6 hL6 (rdL1 bs st').1 (by omega) fun m' w7 ow7' bx7 hL7 f7 hm' hmd' => ?_
      rw [u64c hkn (by omega)]
      refine ⟨⟨k + 1, by omega, rfl, _, m', (rdL1 bs st').2, ow7', bx7, hR6.fr f7 (by omega), hL7, by omega, by omega, ?_⟩, by simp only [Int.toNat_natCast]; omega⟩
      rw [← hrl, show nn.1 - k = (nn.1 - (k + 1)) + 1 by omega, rdLive]
    have hke : k = nn.1 := by omega
    subst hke
    rw [Nat.sub_self, rdLive] at hrl
    rw [← hrl] at hrec
    dsimp only at hrec
    refine hR.U (M := 16) hb fun wg hRg fg => ⟨_, rfl, ?_⟩
    have bxg := bx.fr fg (by omega) (by omega) (by omega)
    have hLg := hL.fr fg (by omega) (by omega)
    have hn16 := rdU_le bs st' 16
    generalize rdU bs st' 16 = dd at *
    refine loopN (fun s w' => ∃ k : Nat, k ≤ dd.1 ∧ s.1 = (k : Int) ∧ ∃ D m st ow, Bx w w' ow b1 b2 { r with live := L, dirty := D } m ∧ Rr w' ow B g bs st ∧ Ls w' ow { r with live := L, dirty := D } m ∧ m.ll = nn.1 ∧ m.dl = k ∧
        rdDirty bs (dd.1 - k) (D, st) = rdDirty bs dd.1 ([], dd.2)) (fun s _ => dd.1 - s.1.toNat) ⟨0, Nat.zero_le _, rfl, [], m, dd.2, ow, by rw [← hd0]; exact bxg, hRg, by rw [← hd0]; exact hLg, hm, hmd, rfl⟩ ?_
    rintro ⟨k0, u⟩ wh ⟨k, hk, hk0, D, m, st', ow, bx, hR, hL, hm, hmd, hrl⟩ _
    dsimp only at hk0 ⊢
    subst hk0
    refine cond_d (fun hlt => ?_) (fun hge => ?_)
    · have hkn : k < dd.1 := by omega
      refine ⟨fun w' => Blk w' b2 (RV.ca { r with live := L, dirty := D } m) T_api_Record, bx.x2, m.da, m.dl, m.dc, fun w' hw' => hw'.at rfl rfl, ?_⟩
      have fd : Fro (fun _ => True) wh ow wh.drew ow := Fro.of_kp' (Kp.drew wh 1) fun _ _ h => h.elim
      refine (hR.fr fd trivial).U (M := 2147483647) hb fun w1 hR1 f1 => ⟨_, rfl, ?_⟩
      have bx1 := (bx.fr fd trivial trivial trivial).fr f1 (by omega) (by omega) (by omega)
      have hL1 := (hL.fr fd trivial trivial).fr f1 (by omega) (by omega)
      refine ⟨bx1.x2, hR1.U (M := 2147483647) hb fun w2 hR2 f2 => ⟨_, rfl, ?_⟩⟩
      have bx2 := bx1.fr f2 (by omega) (by omega) (by omega)
      have hL2 := hL1.fr f2 (by omega) (by omega)
      have v1 := rdU_le bs st' 2147483647
      have v2 := rdU_le bs (rdU bs st' 2147483647).2 2147483647
      rw [wr31 (by omega), wr31 (by omega)]
      refine ⟨bx2.x2, pushD bx2 hL2 (rdD1 bs st').1 (by omega) fun m' w7 ow7' bx7 hL7 f7 hm' hmd' => ?_⟩
      rw [u64c hkn (by omega)]
      refine ⟨⟨k + 1, by omega, rfl, _, m', (rdD1 bs st').2, ow7', bx7, hR2.fr f7 (by omega), hL7, by omega, by omega, ?_⟩, by simp only [Int.toNat_natCast]; omega⟩
      rw [← hrl, show dd.1 - k = (dd.1 - (k + 1)) + 1 by omega, rdDirty]
    have hke : k = dd.1 := by omega
    subst hke
    rw [Nat.sub_self, rdDirty] at hrl
    rw [← hrl] at hrec
    exact ⟨_, m, _, ow, bx, hR, hL, by omega, by omega, hrec⟩
  · rintro _ we ⟨r, m, st, ow, bx, hR, hL, hml, hmd, hrec⟩ _
    rw [hrec] at hdec
    dsimp only at hdec
    refine hR.E fun wf hRf ff => ⟨rfl, ?_⟩
    refine hRf.F fun n wg fg => ⟨_, _, rfl, ?_⟩
    have bxg := (bx.fr ff (by omega) (by omega) (by omega)).fr fg trivial trivial trivial
    have hLg := (hL.fr ff (by omega) (by omega)).fr fg trivial trivial
    refine cond_ne (fun hne => ?_) (fun he => ?_)
    · refine rec_st bxg.x1 {} {} fun wh hbh kh => rec_rd hbh ?_
      have f : Fro (fun t => t ≠ 1) wg ow wh ow := Fro.of_kp' kh fun b _ hb' hne => hne (by rw [hb']; exact bxg.t1)
      have ho := bxg.old.fr f (by omega)
      have hd : decB bs = ({}, endE bs st) := by rw [hdec, if_pos (by intro hh; exact hne (by simp only [hh]; rfl))]
      exact hfin _ _ hd {} wh ow ho.kp ho (e0 _ _)
    have he0 : endE bs st = 0 := by simpa using he
    rw [if_neg (by omega)] at hdec
    refine rec_rd bxg.x2 (check_c (r := r) (m := m) (hLg.li (by omega) (by omega)) fun wh kh => ⟨_, rfl, ?_⟩)
    have fh : Fro (fun _ => True) wg ow wh ow := Fro.of_kp' kh fun _ _ h => h.elim
    have bxh := bxg.fr fh trivial trivial trivial
    have hLh := hLg.fr fh trivial trivial
    refine cond_ne (fun hne => ?_) (fun he => ?_)
    · refine rec_st bxh.x1 {} {} fun wi hbi ki => rec_rd hbi ?_
      have f : Fro (fun t => t ≠ 1) wh ow wi ow := Fro.of_kp' ki fun b _ hb' hne => hne (by rw [hb']; exact bxh.t1)
      have ho := bxh.old.fr f (by omega)
      have hd : decB bs = ({}, chkN r) := by rw [hdec, if_pos (by omega)]
      exact hfin _ _ hd {} wi ow ho.kp ho (e0 _ _)
    · refine rec_rd bxh.x2 (rec_st bxh.x1 r m fun wi hbi ki => rec_rd hbi ?_)
      have f : Fro (fun t => t ≠ 1) wh ow wi ow := Fro.of_kp' ki fun b _ hb' hne => hne (by rw [hb']; exact bxh.t1)
      have ho := bxh.old.fr f (by omega)
      have hd : decB bs = (r, 0) := by rw [hdec, if_neg (by omega)]
      exact hfin _ _ hd m wi ow ho.kp ho (hLh.fr f (by omega) (by omega))
end Go.Proofs.Ytjhncijdkmbopaa
