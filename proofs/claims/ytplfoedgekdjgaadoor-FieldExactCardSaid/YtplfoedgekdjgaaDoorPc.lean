/- The statement FieldCut, walked: it answers true. Conditions: the checksum's table stands. -/
import Derived.Test.YtplfoedgekdjgaaDoorLb
import Derived.Test.YtplfoedgekdjgaaDoorPv
import Derived.Test.YtplfoedgekdjgaaDoorAst
set_option linter.unusedVariables false
set_option linter.unusedSimpArgs false
namespace Go.Proofs.YtplfoedgekdjgaaDoor
open Go Go.RowKit

/-- What a writer writes for a number. -/
def NumL.code (x : NumL) : Nat := if x.sg then zig x.i else x.n
theorem NumL.code_lt {x : NumL} (h : x.ok) : x.code < 18446744073709551616 := by
  unfold NumL.code
  split
  · exact zig_lt h.2.1 h.2.2
  · exact h.1

theorem rdU_ok {bs : List UInt8} {at_ m M : Nat} {rest : List UInt8} (hm : m < 18446744073709551616) (hM : m ≤ M) (hd : bs.drop at_ = vform m ++ rest) : rdU bs (at_, 0) M = (m, (at_ + (vform m).length, 0)) := by
  unfold rdU
  rw [if_pos rfl]
  dsimp only
  rw [hd, parse_vform hm]
  dsimp only
  rw [if_pos rfl, if_neg (by omega)]
theorem rdU_short {bs : List UInt8} {at_ m M : Nat} (hm : m < 18446744073709551616) (hd : bs.drop at_ = (vform m).take ((vform m).length - 1)) : rdU bs (at_, 0) M = (0, (at_, 20)) := by
  unfold rdU
  rw [if_pos rfl]
  dsimp only
  rw [hd, parse_short hm]
  dsimp only
  rw [if_neg (by omega)]

set_option maxHeartbeats 1000000 in
theorem fieldCut_c {w : World} {x : NumL} {ahead : Nat} {more : UInt8} {R : Ending → World → Prop} (hnib : Nib w) (hx : x.ok) (ha : ahead < 18446744073709551616)
    (h : ∀ w', Kp no w w' → R (.returned (.bool true)) w') : GoC Tryd.prog F_law02_FieldCut #[.agg #[.bool x.sg, .int .u64 (x.n : Int), .int .i64 x.i], .int .u64 (ahead : Int), .int .u8 (more.toNat : Int)] w R := by
  refine S_law02_FieldCut ?_
  unfold W_law02_FieldCut
  have hm := NumL.code_lt hx
  have l1 := vform_len64 ha
  have l2 := vform_len64 hm
  have p1 := vform_pos ahead
  have p2 := vform_pos x.code
  refine AlF.intro fun b1 w1 _ hb1 k1 _ => ?_
  refine awake_c (hnib.kp0 k1) fun w2 k2 => ⟨_, rfl, cond_f rfl ?_⟩
  refine newWriter_c fun B w3 hw3 k3 hB => ⟨_, rfl, ?_⟩
  refine writer_U hw3 ha (by simp) fun g4 w4 hw4 k4 hi4 => ⟨rfl, ?_⟩
  rw [List.nil_append] at hw4
  refine writer_Out hw4 (by omega) fun a5 c5 w5 hs5 k5 hf5 => ⟨_, _, _, rfl, ?_⟩
  have hb2 := k2.blk hb1 id
  have hb1lt := hb2.lt
  have f4 : ∀ k, fpW B none k → w2.heap.size ≤ k := by
    rintro k (rfl | hk)
    · exact hB
    · exact (not_is_none hk).elim
  have hb5 : Blk w5 b1 #[.bool x.sg, .int .u64 (x.n : Int), .int .i64 x.i] T_quotalaw02_Num := k5.blk (k4.blk (k3.blk hb2 id) fun hh => by have := f4 _ hh; omega) id
  have s3 := k3.size
  have f5 : ∀ k, fpW B g4 k → w2.heap.size ≤ k := by
    rintro k (rfl | hk)
    · exact hB
    · rcases hi4 k hk with hh | hh
      · exact (not_is_none hh).elim
      · omega
  have n3 : Kp no w w2 := k1.trans0 k2
  have sw2 := n3.size
  have n5 : Kp no w w5 := ((n3.trans0 k3).trans k4 (fun _ _ h => h) fun k hk hh => by have := f4 k hh; omega).trans0 k5
  have hw5 := hw4.kp0 k5
  refine ⟨fun _ w' => ∃ g, Wr w' B g (vform ahead ++ vform x.code) ∧ Kp (fpW B g4) w5 w', ?_, ?_⟩
  · refine ⟨x.sg, hb5.cell 0, cond_b (fun hq => ?_) (fun hq => ?_)⟩
    · refine ⟨x.i, by rw [add_at]; exact hb5.cell 2, ?_⟩
      refine writer_S hw5 hx.2.1 hx.2.2 (by omega) fun g6 w6 hw6 k6 hi6 => ⟨rfl, g6, ?_, k6⟩
      unfold NumL.code
      rw [hq, if_pos rfl]
      exact hw6
    · refine ⟨x.n, by rw [add_at]; exact hb5.cell 1, ?_⟩
      refine writer_U hw5 hx.1 (by omega) fun g6 w6 hw6 k6 hi6 => ⟨rfl, g6, ?_, k6⟩
      unfold NumL.code
      rw [hq, if_neg (by simp)]
      exact hw6
  rintro u w6 ⟨g6, hw6, k6⟩ _
  have n6 : Kp no w w6 := n5.trans k6 (fun _ _ h => h) fun k hk hh => by have := f5 k hh; omega
  have hlen : (vform ahead ++ vform x.code).length = (vform ahead).length + (vform x.code).length := List.length_append
  refine writer_Out hw6 (by omega) fun a7 c7 w7 hs7 k7 hf7 => ⟨_, _, _, rfl, ?_⟩
  have n7 := n6.trans0 k7
  have hb7 : Blk w7 b1 #[.bool x.sg, .int .u64 (x.n : Int), .int .i64 x.i] T_quotalaw02_Num := k7.blk (k6.blk hb5 fun hh => by have := f5 _ hh; omega) id
  rw [hlen] at hs7 ⊢
  have hc7 := hs7.2.1
  have hwk : IntKind.wrap .i64 (((vform ahead).length : Int) + 10) = (((vform ahead).length + 10 : Nat) : Int) := by rw [wrap_i64 (by omega) (by omega)]; omega
  rw [hwk]
  refine cond_d (fun hh => by omega) fun _ => ?_
  refine cond_eq (fun hh => by omega) fun _ => ?_
  refine cond_d (fun hh => by omega) fun _ => ?_
  have hwl : IntKind.wrap .i64 ((((vform ahead).length + (vform x.code).length : Nat) : Int) - 1) = (((vform ahead).length + ((vform x.code).length - 1) : Nat) : Int) := by rw [wrap_i64 (by omega) (by omega)]; omega
  rw [hwl, Int.toNat_natCast, subA_zero]
  have hr7 := hs7.rd
  have ha7 : a7 = none → (vform ahead).length + (vform x.code).length = 0 := fun hh => by subst hh; exact hs7.zero.1
  refine loopN (fun s w' => Kp no w7 w' ∧ (s.1 = 0 ∨ s.1 = 1 ∨ s.1 = 2)) (fun s _ => 2 - s.1.toNat) ⟨Kp.refl _ _, .inl rfl⟩ ?_
  rintro ⟨t, u'⟩ w8 ⟨k8, ht⟩ _
  dsimp only at ht ⊢
  have hr8 := hr7.kp0 k8
  refine cond_d (fun hlt => ?_) (fun hge => ?_)
  · refine ⟨⟨by omega, by omega⟩, trivial, ?_⟩
    have hcut : (vform ahead ++ vform x.code).take ((vform ahead).length + ((vform x.code).length - 1)) = vform ahead ++ (vform x.code).take ((vform x.code).length - 1) := by
      rw [List.take_append, List.take_of_length_le (by omega), Nat.add_sub_cancel_left]
    have hr9 : Rd w8 a7 (bvs (vform ahead ++ (vform x.code).take ((vform x.code).length - 1))) := by
      rw [← hcut, bvs, List.map_take]
      exact hr8.take _
    have hl9 : (vform ahead ++ (vform x.code).take ((vform x.code).length - 1)).length = (vform ahead).length + ((vform x.code).length - 1) := by rw [List.length_append, List.length_take]; omega
    refine append_new er_u8 hr9 (by rw [bvs_len]; omega) (fun hh => by have := ha7 hh; omega) bvs_one (by omega) (by omega) fun a9 c9 w9 hs9 k9 hf9 _ => ⟨a9, _, c9, rfl, ?_⟩
    refine newReader_c hs9.rd hl9 (fun hh => by subst hh; exact hs9.zero.1) (by omega) fun B2 g2 w10 hr10 k10 hB2 hf2 => ⟨_, rfl, cond_f rfl ?_⟩
    have n10 : Kp no w7 w10 := (k8.trans0 k9).trans0 k10
    have hB2' : w7.heap.size ≤ B2 := by have := (k8.trans0 k9).size; omega
    have fr : ∀ {y z : World}, Kp no w7 y → Kp (fun k => k = B2) y z → Kp no w7 z := fun a b => a.trans b (fun _ _ h => h) fun k hk hh => by omega
    have e1 : rdU (vform ahead ++ (vform x.code).take ((vform x.code).length - 1)) (0, 0) ahead = (ahead, (0 + (vform ahead).length, 0)) := rdU_ok ha (Nat.le_refl _) rfl
    have e2 : ∀ M, rdU (vform ahead ++ (vform x.code).take ((vform x.code).length - 1)) (0 + (vform ahead).length, 0) M = (0, (0 + (vform ahead).length, 20)) := fun M => rdU_short hm (by rw [Nat.zero_add, List.drop_left])
    generalize vform ahead ++ (vform x.code).take ((vform x.code).length - 1) = bs at *
    refine reader_U (st := (0, 0)) (m := ahead) hr10 (by omega) fun w11 hr11 k11 => ⟨_, rfl, ?_⟩
    rw [e1] at hr11 ⊢
    dsimp only at hr11 ⊢
    refine cond_f (by simp) ?_
    have n11 := fr n10 k11
    have tail : ∀ w12, Re w12 B2 g2 bs (0 + (vform ahead).length) 20 → Kp no w7 w12 → (0 ≤ t ∧ t < 2) → CallF Tryd.prog F_field_Reader_Fault #[(.pointer (some ⟨B2, 0, none⟩))] w12 (fun r12 w14 => ∃ (n9 : Int) (n10 : Int), r12 = (.tuple #[(.int .i64 n9), (.int .i64 n10)]) ∧ (cond (n9 != (((vform ahead).length : Nat) : Int)) (R (.returned (.bool false)) w14) (CallF Tryd.prog F_law02_num #[(.int .i64 n10)] w14 (fun r13 w15 => ∃ (n11 : Int), r13 = (.int .i64 n11) ∧ (cond (n11 != (20 : Int)) (R (.returned (.bool false)) w15) ((Kp no w7 w15 ∧ (IntKind.wrap .i64 (t + 1) = 0 ∨ IntKind.wrap .i64 (t + 1) = 1 ∨ IntKind.wrap .i64 (t + 1) = 2)) ∧ 2 - (IntKind.wrap .i64 (t + 1)).toNat < 2 - t.toNat))) (PanF R)))) (PanF R) := by
      intro w12 hr12 k12 ht2
      refine reader_Fault (st := (0 + (vform ahead).length, 20)) hr12 fun w13 k13 => ⟨_, _, rfl, ?_⟩
      refine cond_f (by simp) (num_c ⟨_, rfl, cond_f (by simp) ?_⟩)
      rw [wrap_i64 (by omega) (by omega)]
      exact ⟨⟨k12.trans0 k13, by omega⟩, by omega⟩
    refine ⟨fun s w' => s.1 = false ∧ Re w' B2 g2 bs (0 + (vform ahead).length) 20 ∧ Kp no w7 w', ?_, ?_⟩
    · have hu0 : unzig 0 = 0 := rfl
      rcases ht with rfl | rfl | rfl
      · refine cond_t rfl (reader_U (st := (0 + (vform ahead).length, 0)) (m := 18446744073709551615) hr11 (by omega) fun w12 hr12 k12 => ⟨_, rfl, ?_⟩)
        rw [e2] at hr12 ⊢
        exact cond_f (by simp) (cond_f (by decide) ⟨rfl, hr12, fr n11 k12⟩)
      · refine cond_f (by decide) (cond_t rfl (reader_S (st := (0 + (vform ahead).length, 0)) hr11 (by omega) fun w12 hr12 k12 => ⟨_, rfl, ?_⟩))
        rw [e2] at hr12 ⊢
        exact ⟨by simp [hu0], hr12, fr n11 k12⟩
      · omega
    · rintro ⟨b19, u19⟩ w12 ⟨hb, hr12, k12⟩ _
      dsimp only at hb
      subst hb
      exact cond_f rfl (tail w12 hr12 k12 (by omega))
  · have h3 : (vform ahead ++ vform x.code ++ [more]).length = (vform ahead).length + (vform x.code).length + 1 := by rw [List.length_append, hlen]; rfl
    refine append_new er_u8 hr8 (by rw [bvs_len]; omega) ha7 bvs_one (by omega) (by omega) fun a9 c9 w9 hs9 k9 hf9 _ => ⟨a9, _, c9, rfl, ?_⟩
    refine AlF.intro fun b2 w10 _ hblk10 k10 _ => ?_
    refine append_own er_u8 (hs9.kp0 k10) (rd_lits (l := [more]) hblk10 rfl) rfl (fun h => by cases h) bvs_one (by omega) (by omega) fun a11 c11 w11 hs11 k11 hi11 _ _ => ⟨a11, _, c11, rfl, ?_⟩
    rw [← bvs_app] at hs11
    have n11 : Kp no w7 w11 := ((k8.trans0 k9).trans0 k10).trans k11 (fun _ _ h => h) fun k hk hh => by have := hf9 k hh; have := k8.size; omega
    refine newReader_c hs11.rd h3 (fun hh => by subst hh; exact hs11.zero.1) (by omega) fun B2 g2 w12 hr12 k12 hB2 hf2 => ⟨_, rfl, ?_⟩
    have n12 := n11.trans0 k12
    have hB2' : w7.heap.size ≤ B2 := by have := n11.size; omega
    have fr : ∀ {y z : World}, Kp no w7 y → Kp (fun k => k = B2) y z → Kp no w7 z := fun a b => a.trans b (fun _ _ h => h) fun k hk hh => by omega
    have e1 : rdU (vform ahead ++ vform x.code ++ [more]) (0, 0) 18446744073709551615 = (ahead, (0 + (vform ahead).length, 0)) := rdU_ok ha (by omega) (by rw [List.drop_zero, List.append_assoc])
    have e2 : rdU (vform ahead ++ vform x.code ++ [more]) (0 + (vform ahead).length, 0) 18446744073709551615 = (x.code, (0 + (vform ahead).length + (vform x.code).length, 0)) := rdU_ok hm (by omega) (by rw [Nat.zero_add, List.append_assoc, List.drop_left])
    generalize vform ahead ++ vform x.code ++ [more] = bs at *
    refine reader_U (st := (0, 0)) (m := 18446744073709551615) hr12 (by omega) fun w13 hr13 k13 => ⟨_, rfl, ?_⟩
    rw [e1] at hr13
    have n13 := fr n12 k13
    refine ⟨fun _ w' => Re w' B2 g2 bs (0 + (vform ahead).length + (vform x.code).length) 0 ∧ Kp no w7 w', ?_, ?_⟩
    · refine ⟨x.sg, ((n13.blk hb7 id)).cell 0, cond_b (fun hq => ?_) (fun hq => ?_)⟩
      · refine reader_S (st := (0 + (vform ahead).length, 0)) hr13 (by omega) fun w14 hr14 k14 => ⟨_, rfl, ?_⟩
        rw [e2] at hr14
        exact ⟨hr14, fr n13 k14⟩
      · refine reader_U (st := (0 + (vform ahead).length, 0)) (m := 18446744073709551615) hr13 (by omega) fun w14 hr14 k14 => ⟨_, rfl, ?_⟩
        rw [e2] at hr14
        exact ⟨hr14, fr n13 k14⟩
    · rintro u28 w14 ⟨hr14, n14⟩ _
      refine reader_End (st := (0 + (vform ahead).length + (vform x.code).length, 0)) hr14 fun w15 hr15 k15 => ⟨rfl, ?_⟩
      rw [if_pos ⟨rfl, by dsimp only; omega⟩] at hr15
      have n15 := fr n14 k15
      refine reader_Fault (st := (0 + (vform ahead).length + (vform x.code).length, 21)) hr15 fun w16 k16 => ⟨_, _, rfl, ?_⟩
      refine cond_t (by simp) (num_c ⟨_, rfl, ?_⟩)
      exact h _ ((n7.trans0 n15).trans0 k16)
end Go.Proofs.YtplfoedgekdjgaaDoor
