/- The statements' decodes of layer 5. Conditions: at most 2000 bytes. -/
import Derived.Test.YtjhncijdkmbopaaSj
set_option linter.unusedVariables false
set_option linter.unusedSimpArgs false
namespace Go.Proofs.Ytjhncijdkmbopaa
open Go Go.RowKit

theorem u8_of_wrap (n : Int) : ∃ x : UInt8, IntKind.wrap .u8 n = (x.toNat : Int) := by
  have h2 : IntKind.wrap .u8 n = n % 256 := by simp [IntKind.wrap, IntKind.signed, IntKind.bits]
  have h0 := Int.emod_nonneg n (by decide : (256 : Int) ≠ 0)
  have h1 := Int.emod_lt_of_pos n (by decide : (0 : Int) < 256)
  refine ⟨UInt8.ofNat (n % 256).toNat, ?_⟩
  rw [h2, UInt8.toNat_ofNat']
  have : (n % 256).toNat % 2 ^ 8 = (n % 256).toNat := Nat.mod_eq_of_lt (by omega)
  rw [this]
  omega
theorem dec_lens (cs : List UInt8) : (decB cs).1.live.length ≤ 32 ∧ (decB cs).1.dirty.length ≤ 16 := by
  by_cases he : (decB cs).2 = 0
  · obtain ⟨hc, _⟩ := dec_one he
    by_cases e8 : (decB cs).1.kind = 8
    · have := ok_lists hc e8
      omega
    · obtain ⟨k1, k8, hok⟩ := chk_kind hc
      obtain ⟨e1, e2⟩ := (ok_zero hok k1 k8).2 e8
      rw [e1, e2]
      decide
  · rw [dec_err he]
    decide

/-- Where decodes stands. -/
structure De (w0 : World) (ow0 : Nat → Nat) (w : World) (ow : Nat → Nat) (b nB nL : Nat) (a3 : Option Addr) (l c3 : Nat) (a4 : Option Addr) (c4 : Nat) (ds : List UInt8) : Prop where
  o : SlT w ow T_uint8 1 a3 (l + 1) c3 (bvs (ds ++ [90])) 36
  n : SlT w ow T_uint8 1 a4 l c4 (bvs ds) 37
  bq : Bq w ow b nB nL
  F : Fro (fun u => u = 0 ∨ u = 50) w0 ow0 w ow
section
variable {w0 w w' : World} {ow0 ow ow' : Nat → Nat} {b nB nL l c3 c4 : Nat} {a3 a4 : Option Addr} {ds : List UInt8}
theorem De.fr {T : Nat → Prop} (h : De w0 ow0 w ow b nB nL a3 l c3 a4 c4 ds) (f : Fro T w ow w' ow') (hT : ∀ u, u = 0 ∨ u = 36 ∨ u = 37 ∨ u = 50 ∨ 1000 ≤ u → T u) : De w0 ow0 w' ow' b nB nL a3 l c3 a4 c4 ds :=
  ⟨h.o.fr f (hT _ (by omega)), h.n.fr f (hT _ (by omega)), h.bq.fr f fun u hu => hT _ (by omega), h.F.trans (f.mono fun u hu => hT _ (by omega))⟩
theorem De.len (h : De w0 ow0 w ow b nB nL a3 l c3 a4 c4 ds) : ds.length = l := by
  have := h.n.sl.1
  rw [bvs_len] at this
  omega
theorem De.rd (h : De w0 ow0 w ow b nB nL a3 l c3 a4 c4 ds) : Rd w a3 (bvs ds) := by
  have := h.o.sl.rd.take ds.length
  unfold bvs at this ⊢
  rw [List.map_append] at this
  rwa [show ds.length = (ds.map bv).length by simp, List.take_left] at this
end

set_option maxRecDepth 100000 in
set_option maxHeartbeats 4000000 in
theorem decodes_c {w : World} {ow : Nat → Nat} {b nB nL : Nat} {a : Option Addr} {l c : Nat} {bs : List UInt8} {R : Ending → World → Prop} (hk : Bq w ow b nB nL) (hn : nL ≤ 900) (hnB : nB ≤ 900)
    (hr : RdT w ow a (bvs bs) 0) (hl : bs.length = l) (h0 : a = none → l = 0) (hb : l ≤ 2000)
    (h : ∀ w' ow', Bq w' ow' b nB (nL + 4) → Fro (fun u => u = 0 ∨ u = 50) w ow w' ow' → R (.returned (.bool true)) w') : GoC Try.prog F_law05_Book_decodes #[.pointer (some ⟨b, 0, none⟩), .slice a l c] w R := by
  refine S_law05_Book_decodes ?_
  unfold W_law05_Book_decodes
  refine append_new er_u8 hr.rd (by rw [bvs_len]; omega) h0 bvs_one (by omega) (by omega) fun a2 c2 w1 s1 k1 hf1 _ => ⟨_, _, _, rfl, ?_⟩
  have f1 : Fro (fun _ => True) w ow w1 (ext ow w.heap.size 36) := Fro.of_kp0 36 k1
  have s1 := new_slt (ow := ow) 36 s1 hf1
  generalize ext ow w.heap.size 36 = ow1 at *
  refine AlF.intro fun b1 w2 hb1e hb1 k2 _ => ?_
  have f2 : Fro (fun _ => True) w1 ow1 w2 (ext ow1 w1.heap.size 9) := Fro.of_kp0 9 k2
  have s2 := s1.fr f2 trivial
  have f12 := f1.trans f2
  generalize ext ow1 w1.heap.size 9 = ow2 at *
  refine app_c er_u8 s2 (rd_cells hb1 (xs := bvs [90]) rfl) rfl (fun hh => by cases hh) bvs_one (by omega) (by omega) fun a3 c3 w3 s3 _ f3 => ⟨_, _, _, rfl, ?_⟩
  have f3 := (f12.mono fun u (_ : u ≠ 36) => trivial).trans f3
  generalize ext ow2 w2.heap.size 36 = ow3 at *
  have hc3 := s3.sl.2.1
  have e3 : bvs bs ++ bvs [90] = bvs (bs ++ [90]) := by unfold bvs; rw [List.map_append]
  rw [e3] at s3
  refine ⟨⟨by omega, by omega⟩, trivial, ?_⟩
  have hr3 := hr.fr f3 (by omega)
  refine append_new er_u8 hr3.rd (by rw [bvs_len]; omega) h0 bvs_one (by omega) (by omega) fun a4 c4 w4 s4 k4 hf4 _ => ⟨_, _, _, rfl, ?_⟩
  have f4 : Fro (fun _ => True) w3 ow3 w4 (ext ow3 w3.heap.size 37) := Fro.of_kp0 37 k4
  have s4 := new_slt (ow := ow3) 37 s4 hf4
  have s3 := s3.fr f4 trivial
  have f4 := (f3.mono fun u (hu : u ≠ 36) => hu).trans (f4.mono fun u _ => trivial)
  generalize ext ow3 w3.heap.size 37 = ow4 at *
  have de : De w ow w4 ow4 b nB nL a3 l c3 a4 c4 bs := ⟨s3, s4, hk.fr f4 fun u hu => by omega, f4.mono fun u hu => by omega⟩
  clear s1 s2 s3 s4 f1 f2 f12 f3 f4 hf1 hf4 hr3 hr hb1 hk k1 k2 k4 hl
  rw [subA_zero, subA_zero, Int.toNat_natCast]
  refine loopN (fun s w' => ∃ k : Nat, k ≤ 2 ∧ s.1 = (k : Int) ∧ ∃ ds ow', De w ow w' ow' b nB (nL + 2 * k) a3 l c3 a4 c4 ds) (fun s _ => 2 - s.1.toNat) ⟨0, by omega, rfl, bs, ow4, de⟩ ?_
  clear de
  rintro ⟨k0, u⟩ w5 ⟨k, hk2, hk0, ds, ow5, de⟩ _
  dsimp only at hk0 ⊢
  subst hk0
  refine cond_d (fun hlt => ?_) (fun hge => ?_)
  rotate_left
  · have : k = 2 := by omega
    subst this
    exact h w5 ow5 de.bq de.F
  have hk1 : k < 2 := by omega
  have hlen := de.len
  have z3 : a3 = none → l = 0 := fun hn => by
    have := sl_some de.o.sl (by omega) hn
    omega
  have z4 : a4 = none → l = 0 := fun hn => by
    rcases Nat.eq_zero_or_pos l with hh | hh
    · exact hh
    · exact sl_some de.n.sl hh hn
  obtain ⟨ql, qd⟩ := dec_lens ds
  refine decode_c de.rd hlen z3 (by omega) fun m6 w6 owA k6 ho6 hL6 => ?_
  have rdc := fun (w' : World) (hr' : Rd w' a4 (bvs ds)) R' => rdecode_c (w := w') (c := c4) (R := R') hr' hlen z4 (by omega)
  have dcc := fun (w' : World) (hr' : Rd w' a3 (bvs ds)) R' => decode_c (w := w') (c := c3) (R := R') hr' hlen z3 (by omega)
  generalize decB ds = rv at *
  obtain ⟨r, e⟩ := rv
  dsimp only at *
  refine ⟨_, _, _, _, _, _, _, _, _, _, _, _, _, _, _, _, _, _, _, _, _, _, rfl, ?_⟩
  have f6 : Fro (fun _ => True) w5 ow5 w6 (joinO ow5 (fun k => owA k + 36) w5.heap.size) := join_fro k6
  have xl : SlT w6 (joinO ow5 (fun k => owA k + 36) w5.heap.size) T_api_Live 4 m6.la m6.ll m6.lc (flatV LV.cs r.live) 40 := hL6.lv.joinT ho6 (by omega) (· + 36)
  have xd : SlT w6 (joinO ow5 (fun k => owA k + 36) w5.heap.size) T_api_Dirty 2 m6.da m6.dl m6.dc (flatV DV.cs r.dirty) 41 := hL6.dv.joinT ho6 (by omega) (· + 36)
  have l6 := hL6.ll
  have d6 := hL6.dl
  have de := de.fr f6 fun _ _ => trivial
  generalize joinO ow5 (fun k => owA k + 36) w5.heap.size = ow6 at *
  refine rec_cp r m6 fun b2 w7 h7 => ?_
  have f7 : Fro (fun _ => True) w6 ow6 w7 (ext ow6 w6.heap.size 38) := Fro.of_kp0 38 h7.kp
  have xl := xl.fr f7 trivial
  have xd := xd.fr f7 trivial
  have de := de.fr f7 fun _ _ => trivial
  have y2 : Blk w7 b2 (r.ca m6) T_api_Record ∧ ext ow6 w6.heap.size 38 b2 = 38 := ⟨h7.blk, ext_new h7.nw⟩
  generalize ext ow6 w6.heap.size 38 = ow7 at *
  clear hL6 ho6 k6 f6 f7 h7
  refine dcc w7 de.rd _ fun m8 w8 owA k8 ho8 hL8 => ?_
  refine ⟨_, _, _, _, _, _, _, _, _, _, _, _, _, _, _, _, _, _, _, _, _, _, rfl, ?_⟩
  have f8 : Fro (fun _ => True) w7 ow7 w8 (joinO ow7 (fun k => owA k + 40) w7.heap.size) := join_fro k8
  have vl : SlT w8 (joinO ow7 (fun k => owA k + 40) w7.heap.size) T_api_Live 4 m8.la m8.ll m8.lc (flatV LV.cs r.live) 44 := hL8.lv.joinT ho8 (by omega) (· + 40)
  have vd : SlT w8 (joinO ow7 (fun k => owA k + 40) w7.heap.size) T_api_Dirty 2 m8.da m8.dl m8.dc (flatV DV.cs r.dirty) 45 := hL8.dv.joinT ho8 (by omega) (· + 40)
  have l8 := hL8.ll
  have d8 := hL8.dl
  have xl := xl.fr f8 trivial
  have xd := xd.fr f8 trivial
  have y2 := blk_fr y2.1 y2.2 f8 trivial
  have de := de.fr f8 fun _ _ => trivial
  generalize joinO ow7 (fun k => owA k + 40) w7.heap.size = ow8 at *
  refine rec_cp r m8 fun b3 w9 h9 => ?_
  have f9 : Fro (fun _ => True) w8 ow8 w9 (ext ow8 w8.heap.size 39) := Fro.of_kp0 39 h9.kp
  have xl := xl.fr f9 trivial
  have xd := xd.fr f9 trivial
  have vl := vl.fr f9 trivial
  have vd := vd.fr f9 trivial
  have de := de.fr f9 fun _ _ => trivial
  have y2 := blk_fr y2.1 y2.2 f9 trivial
  have y3 : Blk w9 b3 (r.ca m8) T_api_Record ∧ ext ow8 w8.heap.size 39 b3 = 39 := ⟨h9.blk, ext_new h9.nw⟩
  generalize ext ow8 w8.heap.size 39 = ow9 at *
  clear hL8 ho8 k8 f8 f9 h9
  refine rdc w9 de.n.sl.rd _ fun m10 w10 owA k10 ho10 hL10 => ?_
  refine ⟨_, _, _, _, _, _, _, _, _, _, _, _, _, _, _, _, _, _, _, _, _, _, rfl, ?_⟩
  have f10 : Fro (fun _ => True) w9 ow9 w10 (joinO ow9 (fun k => owA k + 44) w9.heap.size) := join_fro k10
  have l10 := hL10.ll
  have d10 := hL10.dl
  have li10 : LiIn w10 m10 r.live r.dirty := hL10.li (by omega) (by omega)
  have xl := xl.fr f10 trivial
  have xd := xd.fr f10 trivial
  have vl := vl.fr f10 trivial
  have vd := vd.fr f10 trivial
  have y2 := blk_fr y2.1 y2.2 f10 trivial
  have y3 := blk_fr y3.1 y3.2 f10 trivial
  have de := de.fr f10 fun _ _ => trivial
  generalize joinO ow9 (fun k => owA k + 44) w9.heap.size = ow10 at *
  refine rec_cp r m10 fun b4 w11 h11 => ?_
  have f11 : Fro (fun _ => True) w10 ow10 w11 (ext ow10 w10.heap.size 43) := Fro.of_kp0 43 h11.kp
  have li10 := li10.kp0 h11.kp
  have y4 := h11.blk
  have xl := xl.fr f11 trivial
  have xd := xd.fr f11 trivial
  have vl := vl.fr f11 trivial
  have vd := vd.fr f11 trivial
  have de := de.fr f11 fun _ _ => trivial
  have y2 := blk_fr y2.1 y2.2 f11 trivial
  have y3 := blk_fr y3.1 y3.2 f11 trivial
  generalize ext ow10 w10.heap.size 43 = ow11 at *
  clear hL10 ho10 k10 f10 f11 h11 rdc dcc
  refine ⟨fun s w' => s.1 = true ∧ ∃ ow', De w ow w' ow' b nB (nL + 2 * k) a3 l c3 a4 c4 ds ∧ SlT w' ow' T_api_Live 4 m6.la m6.ll m6.lc (flatV LV.cs r.live) 40 ∧ SlT w' ow' T_api_Dirty 2 m6.da m6.dl m6.dc (flatV DV.cs r.dirty) 41 ∧ SlT w' ow' T_api_Live 4 m8.la m8.ll m8.lc (flatV LV.cs r.live) 44 ∧ SlT w' ow' T_api_Dirty 2 m8.da m8.dl m8.dc (flatV DV.cs r.dirty) 45 ∧
    (Blk w' b2 (r.ca m6) T_api_Record ∧ ow' b2 = 38) ∧ (Blk w' b3 (r.ca m8) T_api_Record ∧ ow' b3 = 39), ?_, ?_⟩
  · refine num_c ⟨_, rfl, cond_eq (fun _ => ?_) (fun hne => absurd rfl hne)⟩
    refine num_c ⟨_, rfl, cond_eq (fun _ => ?_) (fun hne => absurd rfl hne)⟩
    have li6 : LiIn w11 m6 r.live r.dirty := ⟨xl.sl.rd, l6, by omega, xd.sl.rd, d6, by omega⟩
    have li8 : LiIn w11 m8 r.live r.dirty := ⟨vl.sl.rd, l8, by omega, vd.sl.rd, d8, by omega⟩
    refine rec_rd y2.1 (rec_rd y4 (rsame_c (r := r) (q := r) (m := m6) (n := m10) li6 li10 fun w12 k12 => ⟨_, rfl, cond_t (decide_eq_true rfl) ?_⟩))
    refine rec_rd (k12.blk y3.1 id) (rec_rd (k12.blk y4 id) (rsame_c (r := r) (q := r) (m := m8) (n := m10) (li8.kp0 k12) (li10.kp0 k12) fun w13 k13 => ⟨_, rfl, cond_t (decide_eq_true rfl) ?_⟩))
    have kk := k12.trans0 k13
    have ff : Fro (fun _ => True) w11 ow11 w13 (ext ow11 w11.heap.size 9) := Fro.of_kp0 9 kk
    have de := de.fr ff fun _ _ => trivial
    refine same_c (b1 := ds) (b2 := ds) de.rd hlen z3 de.n.sl.rd hlen z4 ⟨_, rfl, cond_t (decide_eq_true rfl) ?_⟩
    have wl : IntKind.wrap .i64 ((l : Int) + 1) = ((l + 1 : Nat) : Int) := by rw [wrap_i64 (by omega) (by omega)]; omega
    rw [wl]
    clear wl
    refine ⟨⟨by omega, by omega⟩, trivial, ?_⟩
    rw [Int.toNat_natCast]
    obtain ⟨b5, o5, ha5, hc5⟩ := de.o.sl.rd l (bv 90) (by unfold bvs; rw [List.map_append, List.getElem?_append_right (by simp; omega)]; simp [hlen])
    refine ⟨by omega, by omega, _, ha5, 90, by rw [add_at]; exact hc5, rfl, _, de, xl.fr ff trivial, xd.fr ff trivial, vl.fr ff trivial, vd.fr ff trivial, blk_fr y2.1 y2.2 ff trivial, blk_fr y3.1 y3.2 ff trivial⟩
  clear de xl xd vl vd y2 y3 y4 li10
  rintro ⟨s, u⟩ w12 ⟨hs, ow12, de, xl, xd, vl, vd, y2, y3⟩ _
  dsimp only at hs ⊢
  subst hs
  refine rec_rd y2.1 (blists_c (r := r) (m := m6) de.bq (by omega) (by omega) xl xd (by omega) (by omega) (by omega) (by omega) (by omega) fun w13 ow13 bq13 f13 => ⟨rfl, ?_⟩)
  have vl := vl.fr f13 (by omega)
  have vd := vd.fr f13 (by omega)
  have y3 := blk_fr y3.1 y3.2 f13 (by omega)
  have o13 := de.o.fr f13 (by omega)
  have n13 := de.n.fr f13 (by omega)
  have F13 := de.F.trans (f13.mono fun u (hu : u = 0 ∨ u = 50) => by omega)
  clear de xl xd y2 f13
  refine rec_rd y3.1 (blists_c (r := r) (m := m8) bq13 (by omega) (by omega) vl vd (by omega) (by omega) (by omega) (by omega) (by omega) fun w14 ow14 bq14 f14 => ⟨rfl, cond_f rfl ?_⟩)
  have o14 := o13.fr f14 (by omega)
  have n14 := n13.fr f14 (by omega)
  have F14 := F13.trans (f14.mono fun u (hu : u = 0 ∨ u = 50) => by omega)
  clear o13 n13 F13 f14 vl vd y3 bq13
  have eb : nL + 2 * (k + 1) = nL + 2 * k + 1 + 1 := by omega
  rw [← eb] at bq14
  have next : ∀ w' ow' ds', De w ow w' ow' b nB (nL + 2 * (k + 1)) a3 l c3 a4 c4 ds' → (∃ k' : Nat, k' ≤ 2 ∧ IntKind.wrap .i64 ((k : Int) + 1) = (k' : Int) ∧ ∃ ds ow', De w ow w' ow' b nB (nL + 2 * k') a3 l c3 a4 c4 ds) ∧ 2 - (IntKind.wrap .i64 ((k : Int) + 1)).toNat < 2 - ((k : Int)).toNat := fun w' ow' ds' hd => by
    have wk : IntKind.wrap .i64 ((k : Int) + 1) = (k : Int) + 1 := wrap_i64 (by omega) (by omega)
    rw [wk]
    clear wk
    exact ⟨⟨k + 1, by omega, by omega, ds', ow', hd⟩, by omega⟩
  refine cond_d (fun hl0 => ?_) (fun _ => next _ _ _ ⟨o14, n14, bq14, F14⟩)
  have wl : IntKind.wrap .i64 ((l : Int) - 1) = ((l - 1 : Nat) : Int) := by rw [wrap_i64 (by omega) (by omega)]; omega
  rw [wl]
  clear wl
  have hj : l - 1 < ds.length := by omega
  obtain ⟨b5, o5, ha5, hc5⟩ := n14.sl.rd (l - 1) (bv ds[l - 1]) (by unfold bvs; rw [List.getElem?_map, List.getElem?_eq_getElem hj]; rfl)
  refine ⟨by omega, by omega, _, ha5, (ds[l - 1].toNat : Int), by rw [Int.toNat_natCast, add_at]; exact hc5, by omega, by omega, _, ha5, ?_⟩
  obtain ⟨y, hy⟩ := u8_of_wrap ((BitVec.ofInt 8 (ds[l - 1].toNat : Int) ^^^ BitVec.ofInt 8 1).toNat : Int)
  have hx : Value.int .u8 (xorV .u8 (ds[l - 1].toNat : Int) 1) = bv y := by
    unfold bv
    rw [← hy]
    rfl
  rw [hx]
  refine slt_put n14 ha5 (i := l - 1) (by omega) (by rw [Int.toNat_natCast, add_at]) fun w15 n15 f15 => ?_
  rw [bvs_set] at n15
  have o15 := o14.fr f15 (by omega)
  obtain ⟨b6, o6, ha6, hc6⟩ := n15.sl.rd (l - 1) (bv y) (by unfold bvs; rw [List.getElem?_map, List.getElem?_eq_getElem (by simpa using hj), List.getElem_set_self]; rfl)
  refine ⟨by omega, by omega, _, ha6, (y.toNat : Int), by rw [Int.toNat_natCast, add_at]; exact hc6, ?_⟩
  obtain ⟨b7, cur, ha7, _⟩ := o15.sl.addr (by omega)
  refine ⟨by omega, by omega, _, ha7, ?_⟩
  refine slt_put o15 ha7 (i := l - 1) (v := bv y) (by omega) (by rw [Int.toNat_natCast, add_at]) fun w16 o16 f16 => ?_
  rw [bvs_set, List.set_append_left _ _ hj] at o16
  exact next _ _ _ ⟨o16, n15.fr f16 (by omega), (bq14.fr f15 fun u hu => by omega).fr f16 fun u hu => by omega, (F14.trans (f15.mono fun u hu => by omega)).trans (f16.mono fun u hu => by omega)⟩
end Go.Proofs.Ytjhncijdkmbopaa
