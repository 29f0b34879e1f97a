/- The contract of the statements' awake of layer 5. Conditions: none. -/
import Derived.Test.YtjhncijdkmbopaaRw
set_option linter.unusedVariables false
set_option linter.unusedSimpArgs false
namespace Go.Proofs.Ytjhncijdkmbopaa
open Go Go.RowKit

def aw1 : RV := { lsn := 301, kind := 5, tx := 5, prev := 300 }
def aw2 : RV := { kind := 8, next := 6, live := [⟨5, 9, false, true⟩], dirty := [⟨0, 4⟩] }
theorem vf1 {n : Nat} (h : n < 128) : vform n = [UInt8.ofNat n] := vform_small h
theorem vf300 : vform 300 = [172, 2] := by rw [vform_big (by omega), vform_small (by omega)]; rfl
theorem aw1_enc : encB aw1 = [5, 5, 172, 2] := by
  have e : encB aw1 = vform 5 ++ ((vform 5 ++ (vform 300 ++ [])) ++ ([] ++ [])) := rfl
  rw [e, vf1 (by omega : 5 < 128), vf300]
  rfl
theorem aw2_enc : encB aw2 = [8, 6, 1, 5, 9, 2, 1, 0, 4] := by
  have e : encB aw2 = vform 8 ++ ((vform 6 ++ []) ++ ([] ++ (vform 1 ++ (((vform 5 ++ (vform 9 ++ vform 2)) ++ []) ++ (vform 1 ++ ((vform 0 ++ vform 4) ++ [])))))) := rfl
  rw [e, vf1 (by omega : 8 < 128), vf1 (by omega : 6 < 128), vf1 (by omega : 1 < 128), vf1 (by omega : 5 < 128), vf1 (by omega : 9 < 128), vf1 (by omega : 2 < 128), vf1 (by omega : 0 < 128), vf1 (by omega : 4 < 128)]
  rfl
theorem aw1_chk : chkN aw1 = 0 := by decide
theorem aw2_chk : chkN aw2 = 0 := by decide
theorem w64_0 : ({} : RV).w64 := by refine ⟨?_, ?_, ?_, ?_⟩ <;> (unfold i64; decide)
theorem aw1_64 : aw1.w64 := by refine ⟨?_, ?_, ?_, ?_⟩ <;> (unfold i64; decide)
theorem aw2_64 : aw2.w64 := by refine ⟨?_, ?_, ?_, ?_⟩ <;> (unfold i64; decide)
theorem aw1_dec : decB [5, 5, 172, 2] = ({ aw1 with lsn := 0 }, 0) := by
  have := dec_enc aw1_chk aw1_64 []
  rw [List.append_nil, aw1_enc, if_pos rfl] at this
  exact this
theorem aw2_dec : decB [8, 6, 1, 5, 9, 2, 1, 0, 4] = (aw2, 0) := by
  have := dec_enc aw2_chk aw2_64 []
  rw [List.append_nil, aw2_enc, if_pos rfl] at this
  exact this
theorem li_nil (w : World) : LiIn w {} [] [] := ⟨Rd.nil _ _, rfl, by decide, Rd.nil _ _, rfl, by decide⟩

set_option maxRecDepth 100000 in
theorem awake_c {w : World} {R : Ending → World → Prop} (h : ∀ w', Kp no w w' → R (.returned (.bool true)) w') : GoC Try.prog F_law05_awake #[] w R := by
  refine S_law05_awake ?_
  unfold W_law05_awake
  refine rec_cp aw1 {} fun b1 w1 h1 => ?_
  refine rec_rd h1.blk (encode_c (r := aw1) (m := {}) (li_nil _) aw1_64 (fun hn => absurd aw1_chk hn) fun _ a3 c3 w2 k2 hs2 hf2 => ⟨_, _, _, _, rfl, ?_⟩)
  rw [aw1_enc] at hs2 ⊢
  refine AlF.intro fun b2 w3 hb2e hb2 k3 _ => ?_
  refine decode_c (bs := [5, 5, 172, 2]) (rd_cells hb2 rfl) rfl (fun h => by cases h) (by decide) fun m4 w4 ow4 k4 ho4 hL4 => ?_
  rw [aw1_dec] at hL4 ⊢
  refine ⟨_, _, _, _, _, _, _, _, _, _, _, _, _, _, _, _, _, _, _, _, _, _, rfl, ?_⟩
  refine rec_cp { aw1 with lsn := 0 } m4 fun b3 w5 h5 => ?_
  refine AlF.intro fun b4 w6 hb4e hb4 k6 _ => AlF.intro fun b5 w7 hb5e hb5 k7 _ => ?_
  refine rec_cp aw2 { la := some ⟨b4, 0, none⟩, ll := 1, lc := 1, da := some ⟨b5, 0, none⟩, dl := 1, dc := 1 } fun b6 w8 h8 => ?_
  have li2 : ∀ w', Blk w' b4 #[.int .i64 5, .int .i64 9, .bool false, .bool true] T_api_Live → Blk w' b5 #[.int .i64 0, .int .i64 4] T_api_Dirty → LiIn w' { la := some ⟨b4, 0, none⟩, ll := 1, lc := 1, da := some ⟨b5, 0, none⟩, dl := 1, dc := 1 } aw2.live aw2.dirty := fun w' h4 h5 =>
    ⟨rd_cells h4 rfl, rfl, by dsimp only; omega, rd_cells h5 rfl, rfl, by dsimp only; omega⟩
  have k78 := h8.kp
  have hb4' := (k7.trans0 k78).blk hb4 id
  have hb5' := k78.blk hb5 id
  refine rec_rd h8.blk (encode_c (r := aw2) (m := { la := some ⟨b4, 0, none⟩, ll := 1, lc := 1, da := some ⟨b5, 0, none⟩, dl := 1, dc := 1 }) (li2 _ hb4' hb5') aw2_64 (fun hn => absurd aw2_chk hn) fun _ a8 c8 w9 k9 hs9 hf9 => ⟨_, _, _, _, rfl, ?_⟩)
  rw [aw2_enc] at hs9 ⊢
  refine AlF.intro fun b7 w10 hb7e hb7 k10 _ => ?_
  refine decode_c (bs := [8, 6, 1, 5, 9, 2, 1, 0, 4]) (rd_cells hb7 rfl) rfl (fun h => by cases h) (by decide) fun m11 w11 ow11 k11 ho11 hL11 => ?_
  rw [aw2_dec] at hL11 ⊢
  refine ⟨_, _, _, _, _, _, _, _, _, _, _, _, _, _, _, _, _, _, _, _, _, _, rfl, ?_⟩
  refine rec_cp aw2 m11 fun b8 w12 h12 => ?_
  refine num_c ⟨_, rfl, cond_f rfl (num_c ⟨_, rfl, cond_f rfl (num_c ⟨_, rfl, cond_f rfl (num_c ⟨_, rfl, cond_f rfl ?_⟩)⟩)⟩)⟩
  -- worlds
  have ka : Kp no w2 w12 := ((((k3.trans0 k4).trans0 h5.kp).trans0 (k6.trans0 k7)).trans0 k78).trans0 (((k9.trans0 k10).trans0 k11).trans0 h12.kp)
  have kb : Kp no w9 w12 := (k10.trans0 k11).trans0 h12.kp
  refine AlF.intro fun b9 w13 hb9e hb9 k13 _ => ?_
  have r3 : Rd w13 a3 (bvs [5, 5, 172, 2]) := (hs2.kp0 (ka.trans0 k13)).rd
  have z3 : a3 = none → ([5, 5, 172, 2] : List UInt8).length = 0 := sl_some hs2 (by decide)
  refine same_c (b1 := [5, 5, 172, 2]) (b2 := [5, 5, 172, 2]) r3 rfl z3 (rd_cells hb9 rfl) rfl (fun h => by cases h) ⟨_, rfl, cond_f rfl ?_⟩
  refine AlF.intro fun b10 w14 hb10e hb10 k14 _ => ?_
  have r8 : Rd w14 a8 (bvs [8, 6, 1, 5, 9, 2, 1, 0, 4]) := (hs9.kp0 ((kb.trans0 k13).trans0 k14)).rd
  have z8 : a8 = none → ([8, 6, 1, 5, 9, 2, 1, 0, 4] : List UInt8).length = 0 := sl_some hs9 (by decide)
  refine same_c (b1 := [8, 6, 1, 5, 9, 2, 1, 0, 4]) (b2 := [8, 6, 1, 5, 9, 2, 1, 0, 4]) r8 rfl z8 (rd_cells hb10 rfl) rfl (fun h => by cases h) ⟨_, rfl, cond_f rfl ?_⟩
  -- the record's number to zero
  have kc : Kp no w12 w14 := k13.trans0 k14
  have x1 : Blk w14 b1 (aw1.ca {}) T_api_Record := (((k2.trans0 ka).trans0 kc)).blk h1.blk id
  have lt1 : b1 < w1.heap.size := h1.blk.lt
  have s2 := k2.size
  have s3 := k3.size
  have s4 := k4.size
  have n5 := h5.nw
  have s6 := k6.size
  have s5 := h5.kp.size
  have s7 := k7.size
  have n8 := h8.nw
  have s8 := k78.size
  have s9 := k9.size
  have s10 := k10.size
  have n12 := h12.nw
  have s11 := k11.size
  refine StF.at rfl x1 (Nat.le_of_ble_eq_true rfl) fun w15 x15 k15 _ => ?_
  have x15 : Blk w15 b1 (({ aw1 with lsn := 0 } : RV).ca {}) T_api_Record := x15
  have kp15 : Kp no w w15 := kp_blk ((h1.kp.trans0 (k2.trans0 ka)).trans0 kc) h1.nw k15
  have y3 : Blk w15 b3 (({ aw1 with lsn := 0 } : RV).ca m4) T_api_Record := k15.blk ((((((k6.trans0 k7).trans0 k78).trans0 k9).trans0 kb).trans0 kc).blk h5.blk id) (by omega)
  have y6 : Blk w15 b6 (aw2.ca { la := some ⟨b4, 0, none⟩, ll := 1, lc := 1, da := some ⟨b5, 0, none⟩, dl := 1, dc := 1 }) T_api_Record := k15.blk (((k9.trans0 kb).trans0 kc).blk h8.blk id) (by omega)
  have y8 : Blk w15 b8 (aw2.ca m11) T_api_Record := k15.blk (kc.blk h12.blk id) (by omega)
  have li4 : LiIn w15 m4 ({ aw1 with lsn := 0 } : RV).live ({ aw1 with lsn := 0 } : RV).dirty := by
    have e1 := hL4.ll
    have e2 := hL4.dl
    exact ⟨Rd.nil _ _, e1, by rw [← e1]; decide, Rd.nil _ _, e2, by rw [← e2]; decide⟩
  have li6 := li2 w15 (k15.blk (((k9.trans0 kb).trans0 kc).blk hb4' id) (by omega)) (k15.blk (((k9.trans0 kb).trans0 kc).blk hb5' id) (by omega))
  have f11a := fresh_of ho11 hL11.lv.tg (by omega)
  have f11b := fresh_of ho11 hL11.dv.tg (by omega)
  have li11 : LiIn w15 m11 aw2.live aw2.dirty := by
    have e1 := hL11.ll
    have e2 := hL11.dl
    refine ⟨((hL11.lv.sl.kp0 (h12.kp.trans0 kc)).kp k15 fun b hb hh => ?_).rd, e1, by rw [← e1]; decide, ((hL11.dv.sl.kp0 (h12.kp.trans0 kc)).kp k15 fun b hb hh => ?_).rd, e2, by rw [← e2]; decide⟩
    · have := f11a b hb
      omega
    · have := f11b b hb
      omega
  refine rec_rd y3 (rec_rd x15 (rsame_c (r := { aw1 with lsn := 0 }) (q := { aw1 with lsn := 0 }) (m := m4) (n := {}) li4 (li_nil _) fun w16 k16 => ⟨_, rfl, cond_t (decide_eq_true rfl) ?_⟩))
  refine rec_rd (k16.blk y8 id) (rec_rd (k16.blk y6 id) (rsame_c (r := aw2) (q := aw2) (m := m11) (n := { la := some ⟨b4, 0, none⟩, ll := 1, lc := 1, da := some ⟨b5, 0, none⟩, dl := 1, dc := 1 }) (li11.kp0 k16) (li6.kp0 k16) fun w17 k17 => ⟨_, rfl, cond_t (decide_eq_true rfl) ?_⟩))
  refine rec_rd ((k16.trans0 k17).blk x15 id) (check_c (r := { aw1 with lsn := 0 }) (m := {}) (li_nil _) fun w18 k18 => ⟨_, rfl, num_c ⟨_, rfl, cond_t (by decide) ?_⟩⟩)
  refine check_c (r := {}) (m := {}) (li_nil _) fun w19 k19 => ⟨_, rfl, num_c ⟨_, rfl, cond_t (by decide) ?_⟩⟩
  refine check_c (r := { kind := 1 }) (m := {}) (li_nil _) fun w20 k20 => ⟨_, rfl, num_c ⟨_, rfl, ?_⟩⟩
  exact h w20 (((((kp15.trans0 k16).trans0 k17).trans0 k18).trans0 k19).trans0 k20)
end Go.Proofs.Ytjhncijdkmbopaa
