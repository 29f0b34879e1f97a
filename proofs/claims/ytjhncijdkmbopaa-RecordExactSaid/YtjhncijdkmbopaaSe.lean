/- The statement RecordBack: its walk. Conditions: none. -/
import Derived.Test.YtjhncijdkmbopaaSd
set_option linter.unusedVariables false
set_option linter.unusedSimpArgs false
namespace Go.Proofs.Ytjhncijdkmbopaa
open Go Go.RowKit

set_option maxHeartbeats 2000000 in
set_option maxRecDepth 100000 in
theorem recordBack_c {w : World} {r : RV} {m : Mm} {other : Int} {R : Ending → World → Prop} (hr : RArg w r m)
    (h : ∀ w', Kp no w w' → R (.returned (.bool true)) w') : GoC Try.prog F_law05_RecordBack #[.agg (r.ca m), .int .i64 other] w R := by
  refine S_law05_RecordBack ?_
  unfold W_law05_RecordBack
  refine AlF.intro fun b1 w1 hb1e hb1 k1 _ => ?_
  refine awake_c fun w2 k2 => ⟨_, rfl, cond_f rfl ?_⟩
  refine rec_rd (k2.blk hb1 id) (cut_c (hr.kp0 (k1.trans0 k2)) fun m3 w3 k3 hl3 hd3 hr3 => ⟨_, _, _, _, _, _, _, _, _, _, _, _, _, _, _, _, _, _, _, _, _, rfl, ?_⟩)
  have mk8 := (mk_b (cutR r)).1
  refine made_c hr3.li (by have := hr3.li.ll; omega) (by have := hr3.li.dl; omega) fun m4 w4 k4 hL4 => ⟨_, _, _, _, _, _, _, _, _, _, _, _, _, _, _, _, _, _, _, _, _, rfl, ?_⟩
  have hc := made_ok (cutR r)
  have h64 : (madeR (cutR r)).w64 := made_64 hr3.wf.w64
  rw [← made_kind] at mk8
  generalize madeR (cutR r) = q at *
  refine rec_cp q m4 fun b2 w5 h5 => ?_
  have hL5 := hL4.kp0 h5.kp
  have hlen := enc_len hc h64
  refine rec_rd h5.blk (encode_c (r := q) (m := m4) hL5 h64 (fun hn => absurd hc hn) fun _ a6 c6 w6 k6 hs6 hf6 => ⟨_, _, _, _, rfl, ?_⟩)
  refine decode_c (bs := encB q) hs6.rd rfl (sl_some hs6 (by omega)) (by omega) fun m7 w7 ow7 k7 ho7 hL7 => ?_
  have hd0 := dec_enc hc h64 []
  rw [List.append_nil, if_pos rfl] at hd0
  rw [hd0] at hL7 ⊢
  refine ⟨_, _, _, _, _, _, _, _, _, _, _, _, _, _, _, _, _, _, _, _, _, _, rfl, ?_⟩
  refine rec_cp { q with lsn := 0 } m7 fun b3 w8 h8 => ?_
  have hrl : q.live.length ≤ 32 ∧ q.dirty.length ≤ 16 := by
    by_cases e8 : q.kind = 8
    · have := ok_lists hc e8
      omega
    · obtain ⟨k1, k8, hok⟩ := chk_kind hc
      obtain ⟨e1, e2⟩ := (ok_zero hok k1 k8).2 e8
      rw [e1, e2]
      decide
  have e7l := hL7.ll
  have e7d := hL7.dl
  dsimp only at e7l e7d
  have hli7 : LiIn w8 m7 q.live q.dirty := (hL7.li (by omega) (by omega)).kp0 h8.kp
  have k58 := (k6.trans0 k7).trans0 h8.kp
  have hL8 := hL5.kp0 k58
  have x2 := k58.blk h5.blk id
  refine rec_rd x2 (check_c (r := q) (m := m4) hL8 fun w9 k9 => ⟨_, rfl, num_c ⟨_, rfl, cond_f (by rw [hc]; rfl) ?_⟩⟩)
  refine num_c ⟨_, rfl, cond_f rfl (num_c ⟨_, rfl, cond_f rfl (cond_f (decide_eq_false (by omega)) (cond_f (decide_eq_false (by omega)) ?_))⟩)⟩
  have x2 := k9.blk x2 id
  have hL9 := hL8.kp0 k9
  have e4l := hL9.ll
  have e4d := hL9.dl
  -- the same, without its number
  refine rec_rd x2 (own_c (r := q) (m := m4) hL9 (by omega) (by omega) fun m10 w10 ow10 k10 ho10 hL10 => ⟨_, _, _, _, _, _, _, _, _, _, _, _, _, _, _, _, _, _, _, _, _, rfl, ?_⟩)
  refine rec_cp q m10 fun b4 w11 h11 => ?_
  have e10l := hL10.ll
  have e10d := hL10.dl
  have li11 : LiIn w11 m10 q.live q.dirty := (hL10.li (by omega) (by omega)).kp0 h11.kp
  have f10a := fresh_of ho10 hL10.lv.tg (by omega)
  have f10b := fresh_of ho10 hL10.dv.tg (by omega)
  have k811 : Kp no w8 w11 := (k9.trans0 k10).trans0 h11.kp
  refine StF.at rfl h11.blk (Nat.le_of_ble_eq_true rfl) fun w12 x12 k12 _ => ?_
  have x12 : Blk w12 b4 (({ q with lsn := 0 } : RV).ca m10) T_api_Record := x12
  have l10 : ∀ b, Is m10.la b → b ≠ b4 := fun b hb hh => by
    have := (hL10.lv.sl.lt b hb)
    have := h11.nw
    omega
  have d10 : ∀ b, Is m10.da b → b ≠ b4 := fun b hb hh => by
    have := (hL10.dv.sl.lt b hb)
    have := h11.nw
    omega
  have li12 : LiIn w12 m10 q.live q.dirty := ⟨li11.l.kp k12 l10, li11.ll, li11.lb, li11.d.kp k12 d10, li11.dl, li11.db⟩
  have k1012 : Kp no w10 w12 := kp_blk h11.kp h11.nw k12
  have x3 : Blk w12 b3 (({ q with lsn := 0 } : RV).ca m7) T_api_Record := ((k9.trans0 k10).trans0 k1012).blk h8.blk id
  have hli12 : LiIn w12 m7 q.live q.dirty := hli7.kp0 ((k9.trans0 k10).trans0 k1012)
  refine rec_rd x3 (rec_rd x12 (rsame_c (r := { q with lsn := 0 }) (q := { q with lsn := 0 }) (m := m7) (n := m10) hli12 li12 fun w13 k13 => ⟨_, rfl, cond_f (by rw [decide_eq_true rfl]; rfl) ?_⟩))
  have hc0 := chk_lsn0 hc
  have h640 : ({ q with lsn := 0 } : RV).w64 := h64
  refine rec_rd (k13.blk x12 id) (encode_c (r := { q with lsn := 0 }) (m := m10) (li12.kp0 k13) h640 (fun hn => absurd hc0 hn) fun _ a14 c14 w14 k14 hs14 hf14 => ⟨_, _, _, _, rfl, num_c ⟨_, rfl, cond_f rfl ?_⟩⟩)
  have e0 := enc_lsn q 0
  rw [e0] at hs14
  have k812 : Kp no w8 w12 := (k9.trans0 k10).trans0 k1012
  have k614 : Kp no w6 w14 := (((k7.trans0 h8.kp).trans0 k812).trans0 k13).trans0 k14
  have hs6' := hs6.kp0 k614
  refine same_c (b1 := encB q) (b2 := encB q) hs6'.rd rfl (sl_some hs6' (by omega)) hs14.rd (by rw [e0]) (fun hn => by have := sl_some hs14 (by omega) hn; omega) ⟨_, rfl, cond_f (by rw [decide_eq_true rfl]; rfl) ?_⟩
  -- another kind's field
  have k914 : Kp no w9 w14 := ((k10.trans0 k1012).trans0 k13).trans0 k14
  have hL14 := hL9.kp0 k914
  have x2 := k914.blk x2 id
  refine rec_rd x2 (own_c (r := q) (m := m4) hL14 (by omega) (by omega) fun m15 w15 ow15 k15 ho15 hL15 => ⟨_, _, _, _, _, _, _, _, _, _, _, _, _, _, _, _, _, _, _, _, _, rfl, ?_⟩)
  refine rec_cp q m15 fun b5 w16 h16 => ?_
  have e15l := hL15.ll
  have e15d := hL15.dl
  have li16 : LiIn w16 m15 q.live q.dirty := (hL15.li (by omega) (by omega)).kp0 h16.kp
  have l15 : ∀ b, Is m15.la b → b ≠ b5 := fun b hb hh => by
    have := (hL15.lv.sl.lt b hb)
    have := h16.nw
    omega
  have d15 : ∀ b, Is m15.da b → b ≠ b5 := fun b hb hh => by
    have := (hL15.dv.sl.lt b hb)
    have := h16.nw
    omega
  have x2 := (k15.trans0 h16.kp).blk x2 id
  have hro := rstI_in (n := other) (lo := 1) (hi := 1000) (by omega)
  refine ⟨fun _ w' => Blk w' b5 ((spoil q (rstI other 1 1000)).ca m15) T_api_Record ∧ Kp (fun k => k = b5) w16 w', ?_, ?_⟩
  · refine ⟨q.kind, x2.at rfl rfl, ?_⟩
    refine ⟨fun s w' => s.1 = decide (q.kind = 1 ∨ q.kind = 5 ∨ q.kind = 6 ∨ q.kind = 7 ∨ q.kind = 8) ∧ w' = w16, ?_, ?_⟩
    · refine cond_eq (fun e => ⟨by simp [e], rfl⟩) fun e1 => cond_eq (fun e => ⟨by simp [e], rfl⟩) fun e5 => cond_eq (fun e => ⟨by simp [e], rfl⟩) fun e6 => cond_eq (fun e => ⟨by simp [e], rfl⟩) fun e7 => ⟨?_, rfl⟩
      by_cases e8 : q.kind = 8 <;> simp [e1, e5, e6, e7, e8]
    rintro ⟨s, u⟩ w' ⟨hs, rfl⟩ _
    dsimp only at hs ⊢
    rw [hs]
    refine cond_d (fun e => ?_) (fun e => cond_eq (fun e2 => ?_) (fun e2 => ?_))
    · refine StF.at rfl h16.blk (Nat.le_of_ble_eq_true rfl) fun wa xa ka _ => ⟨?_, ka⟩
      unfold spoil
      rw [if_pos e]
      exact xa
    · refine rest_c (by omega) (by omega) (by omega) ⟨_, rfl, StF.at rfl h16.blk (Nat.le_of_ble_eq_true rfl) fun wa xa ka _ => ⟨?_, ka⟩⟩
      unfold spoil
      rw [if_neg e, if_pos e2]
      exact xa
    · refine rest_c (by omega) (by omega) (by omega) ⟨_, rfl, StF.at rfl h16.blk (Nat.le_of_ble_eq_true rfl) fun wa xa ka _ => ⟨?_, ka⟩⟩
      unfold spoil
      rw [if_neg e, if_neg e2]
      exact xa
  rintro _ w17 ⟨x17, k17⟩ _
  have h23 := spoil_chk mk8.1 mk8.2 hro.1
  have hll : (spoil q (rstI other 1 1000)).live = q.live ∧ (spoil q (rstI other 1 1000)).dirty = q.dirty := by
    unfold spoil
    repeat' split
    all_goals exact ⟨rfl, rfl⟩
  have hs64 : (spoil q (rstI other 1 1000)).w64 := by
    obtain ⟨s1, s2, s3, s4⟩ := h64
    unfold spoil
    repeat' split
    · exact ⟨(by unfold i64; decide : i64 1), s2, s3, s4⟩
    · exact ⟨s1, s2, s3, s4⟩
    · exact ⟨s1, s2, s3, s4⟩
  have li17 : LiIn w17 m15 (spoil q (rstI other 1 1000)).live (spoil q (rstI other 1 1000)).dirty := by
    rw [hll.1, hll.2]
    exact ⟨li16.l.kp k17 l15, li16.ll, li16.lb, li16.d.kp k17 d15, li16.dl, li16.db⟩
  generalize spoil q (rstI other 1 1000) = z at *
  have kfin : Kp no w w17 := by
    have ka : Kp no w w5 := (((k1.trans0 k2).trans0 k3).trans0 k4).trans0 h5.kp
    have kb : Kp no w w14 := ((ka.trans0 k6).trans0 k614)
    exact (kb.trans0 k15).trans0 (kp_blk h16.kp h16.nw k17)
  refine rec_rd x17 (encode_c (r := z) (m := m15) li17 hs64 (fun hn w18 k18 => ⟨_, _, _, _, rfl, ?_⟩) fun h0 => by omega)
  refine rec_rd (k18.blk x17 id) (check_c (r := z) (m := m15) (li17.kp0 k18) fun w19 k19 => ⟨_, rfl, num_c ⟨_, rfl, cond_t (by rw [h23]; rfl) (num_c ⟨_, rfl, ?_⟩)⟩⟩)
  rw [h23]
  exact h w19 ((kfin.trans0 k18).trans0 k19)

theorem recordBack_walk {W : World} {v0 v1 : Value} (h0 : ArgW Try.prog W T_api_Record v0) (h1 : ArgW Try.prog W T_int v1) : GoC Try.prog F_law05_RecordBack #[v0, v1] W fun e W' => e = .returned (.bool true) ∧ Kp no W W' := by
  obtain ⟨r, m, rfl, hr⟩ := rec_arg h0
  obtain ⟨n, rfl, _⟩ := int_arg h1
  exact recordBack_c hr fun w' k => ⟨rfl, k⟩
end Go.Proofs.Ytjhncijdkmbopaa
