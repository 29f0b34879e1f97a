/- The contract of 'awake' of layer 2: it answers true. Conditions: the checksum's table stands. -/
import Derived.Test.YtplfoedgekdjgaaDoorLa
namespace Go.Proofs.YtplfoedgekdjgaaDoor
open Go Go.RowKit

theorem disj_step {F : Nat → Prop} {B : Nat} {g g' : Option Addr} {w : World} (hF : ∀ k, F k → k < w.heap.size) (D : ∀ k, F k → ¬ fpW B g k) (hi : ∀ k, Is g' k → Is g k ∨ w.heap.size ≤ k) : ∀ k, F k → ¬ fpW B g' k := by
  rintro k hk (h | h)
  · exact D k hk (.inl h)
  · rcases hi k h with h | h
    · exact D k hk (.inr h)
    · have := hF k hk; omega
theorem not_is_none {k : Nat} : ¬ Is none k := by rintro ⟨ad, h, _⟩; cases h

theorem vform300 : vform 300 = [0xac, 0x02] := by rw [vform, if_neg (by omega), vform, if_pos (by omega)]; rfl
theorem vform1 : vform 1 = [0x01] := by rw [vform, if_pos (by omega)]; rfl
theorem sum9 : sumN ([49, 50, 51, 52] ++ [53, 54, 55, 56, 57]) = 3421780262 := by decide +kernel

theorem awake_c {w : World} {R : Ending → World → Prop} (hnib : Nib w) (h : ∀ w', Kp no w w' → R (.returned (.bool true)) w') : GoC Tryd.prog F_law02_awake #[] w R := by
  refine S_law02_awake ?_
  unfold W_law02_awake
  refine newWriter_c fun B1 w1 hw1 k1 hB1 => ⟨_, rfl, ?_⟩
  refine AlF.intro fun b1 w2 hb1e hb1 k2 _ => ?_
  refine newReader_c (bs := [0xac, 0x02, 0x01, 0x80]) (rd_lits hb1 rfl) rfl (fun h => by cases h) (by simp) fun B2 g2 w3 hr3 k3 hB2 hf2 => ⟨_, rfl, ?_⟩
  refine cond_f rfl (cond_f rfl ?_)
  have hw3 := (hw1.kp0 k2).kp0 k3
  have D0 : ∀ k, fpW B2 g2 k → ¬ fpW B1 none k := by
    rintro k hk (rfl | h1)
    · have hlt := hw1.lt _ (.inl rfl)
      have h2 := k2.size
      rcases hk with hk | hk
      · omega
      · have := hf2 k hk; omega
    · exact not_is_none h1
  have c300 : (300 : Int) = ((300 : Nat) : Int) := rfl
  rw [c300]
  refine writer_U hw3 (by omega) (by simp) fun g4 w4 hw4 k4 hi4 => ⟨rfl, ?_⟩
  rw [List.nil_append, vform300] at hw4
  have D4 := disj_step hr3.lt D0 hi4
  have hr4 := hr3.kp k4 D0
  refine writer_S hw4 (by omega) (by omega) (by simp) fun g5 w5 hw5 k5 hi5 => ⟨rfl, ?_⟩
  have hz : zig (-1) = 1 := by decide
  rw [hz, vform1] at hw5
  have D5 := disj_step hr4.lt D4 hi5
  have hr5 := hr4.kp k5 D4
  refine writer_Out hw5 (by simp) fun a6 c6 w6 hs6 k6 hf6 => ⟨_, _, _, rfl, ?_⟩
  refine AlF.intro fun b2 w7 hb2e hb2 k7 _ => ?_
  refine same_c (x := [0xac, 0x02, 0x01]) (y := [0xac, 0x02, 0x01]) (hs6.kp0 k7).rd rfl (fun hh => ?_) (rd_lits hb2 rfl) rfl (fun h => by cases h) ⟨_, rfl, cond_f rfl ?_⟩
  · subst hh; have := hs6.zero; simp at this
  have hr7 := (hr5.kp0 k6).kp0 k7
  refine reader_U (st := (0, 0)) (m := 300) hr7 (by simp) fun w8 hr8 k8 => ⟨_, rfl, ?_⟩
  have u1 : rdU [0xac, 0x02, 0x01, 0x80] (0, 0) 300 = (300, (2, 0)) := by decide
  rw [u1] at hr8 ⊢
  refine cond_f rfl ?_
  refine reader_S (st := (2, 0)) hr8 (by simp) fun w9 hr9 k9 => ⟨_, rfl, ?_⟩
  have u2 : rdU [0xac, 0x02, 0x01, 0x80] (2, 0) 18446744073709551615 = (1, (3, 0)) := by decide
  rw [u2] at hr9 ⊢
  refine cond_f (by decide) ?_
  refine reader_U (st := (3, 0)) (m := 5) hr9 (by simp) fun w10 hr10 k10 => ⟨_, rfl, ?_⟩
  have u3 : rdU [0xac, 0x02, 0x01, 0x80] (3, 0) 5 = (0, (3, 20)) := by decide
  rw [u3] at hr10 ⊢
  refine cond_f rfl ?_
  refine reader_Fault (st := (3, 20)) hr10 fun w11 k11 => ⟨_, _, rfl, ?_⟩
  refine AlF.intro fun b3 w12 hb3e hb3 k12 _ => ?_
  have c258 : (258 : Int) = ((258 : Nat) : Int) := rfl
  rw [c258]
  refine put_c (o := 0) (bs := [1, 2, 3]) hb3 (fun i v hv => ?_) (by simp) (by omega) fun cur w13 hc13 _ hbs13 _ k13 => ⟨_, rfl, ?_⟩
  · rw [Nat.zero_add, ← Array.getElem?_toList]; exact hv
  have p1 : putR [1, 2, 3] 1 2 258 = ([1, 2, 1], 0) := by decide
  rw [p1] at hbs13 ⊢
  have hrd13 : Rd w13 (some ⟨b3, 0, none⟩) (bvs [1, 2, 1]) := Rd.of_blk hc13 hbs13
  refine get_c (bs := [1, 2, 1]) hrd13 (by simp) ⟨_, _, rfl, ?_⟩
  have g1 : getR [1, 2, 1] 0 2 = (513, 0) := by decide
  rw [g1]
  refine cond_t rfl (num_c ⟨_, rfl, cond_t rfl (num_c ⟨_, rfl, cond_t rfl (num_c ⟨_, rfl, cond_t rfl (cond_t rfl ?_)⟩)⟩)⟩)
  refine AlF.intro fun b4 w14 hb4e hb4 k14 _ => ?_
  refine same_c (x := [1, 2, 1]) (y := [1, 2, 1]) (hrd13.kp0 k14) rfl (fun h => by cases h) (rd_lits hb4 rfl) rfl (fun h => by cases h) ⟨_, rfl, cond_t rfl ?_⟩
  -- the blocks of the call's own, for the frame
  have hsz : ∀ {x y : World}, Kp no x y → x.heap.size ≤ y.heap.size := fun k => k.size
  have s3 : w.heap.size ≤ w3.heap.size := Nat.le_trans (hsz k1) (Nat.le_trans (hsz k2) (hsz k3))
  have q3 : Kp no w w3 := (k1.trans0 k2).trans0 k3
  have f1 : ∀ k, fpW B1 none k → w.heap.size ≤ k := by
    rintro k (rfl | hk)
    · exact hB1
    · exact (not_is_none hk).elim
  have q4 : Kp no w w4 := q3.trans k4 (fun k _ h => h) fun k hk h => by have := f1 k h; omega
  have f4 : ∀ k, fpW B1 g4 k → w.heap.size ≤ k := by
    rintro k (rfl | hk)
    · exact hB1
    · rcases hi4 k hk with h | h
      · exact (not_is_none h).elim
      · omega
  have q5 : Kp no w w5 := q4.trans k5 (fun k _ h => h) fun k hk h => by have := f4 k h; omega
  have hB2' : w.heap.size ≤ B2 := by have := hsz k1; have := hsz k2; omega
  have rd : ∀ {x y : World}, Kp no w x → Kp (fun k => k = B2) x y → Kp no w y := fun h k => h.trans k (fun k _ h => h) fun k hk h => by omega
  have q11 : Kp no w w11 := (rd (rd (rd ((q5.trans0 k6).trans0 k7) k8) k9) k10).trans0 k11
  have q12 : Kp no w w12 := q11.trans0 k12
  have hb3' : w.heap.size ≤ b3 := by rw [hb3e]; exact hsz q11
  have q13 : Kp no w w13 := q12.trans k13 (fun k _ h => h) fun k hk h => by omega
  have q14 : Kp no w w14 := q13.trans0 k14
  refine AlF.intro fun b5 w15 hb5e hb5 k15 _ => ?_
  have q15 := q14.trans0 k15
  refine convert_mark (e := T_uint8) (by kernel_rfl) (by kernel_rfl) hb5 fun w16 hc16 k16 => ⟨_, _, _, rfl, ?_⟩
  have q16 : Kp no w w16 := q15.trans k16 (fun k _ h => h) fun k hk h => by have := hsz q14; omega
  refine AlF.intro fun b6 w17 hb6e hb6 k17 _ => ?_
  have q17 := q16.trans0 k17
  refine convert_mark (e := T_uint8) (by kernel_rfl) (by kernel_rfl) hb6 fun w18 hc18 k18 => ⟨_, _, _, rfl, ?_⟩
  have q18 : Kp no w w18 := q17.trans k18 (fun k _ h => h) fun k hk h => by have := hsz q16; omega
  refine AlF.intro fun b7 w19 hb7e hb7 k19 _ => ?_
  have q19 := q18.trans0 k19
  have rd5 : Rd w19 (some ⟨b5, 0, none⟩) (bvs [49, 50, 51, 52]) := by
    have r16 : Rd w16 (some ⟨b5, 0, none⟩) (bvs [49, 50, 51, 52]) := fun i v hv => ⟨b5, 0, rfl, by rw [hc16, Nat.zero_add, ← Array.getElem?_toList]; exact hv⟩
    refine ((r16.kp0 k17).kp k18 ?_).kp0 k19
    rintro b ⟨ad, had, rfl⟩ hbb
    cases had
    simp only at hbb
    have hlt : b5 < w15.heap.size := hb5.lt
    have := k16.size
    omega
  have rd6 : Rd w19 (some ⟨b6, 0, none⟩) (bvs [53, 54, 55, 56, 57]) := by
    have r18 : Rd w18 (some ⟨b6, 0, none⟩) (bvs [53, 54, 55, 56, 57]) := fun i v hv => ⟨b6, 0, rfl, by rw [hc18, Nat.zero_add, ← Array.getElem?_toList]; exact hv⟩
    exact r18.kp0 k19
  refine sum_c (l := [⟨some ⟨b5, 0, none⟩, 4, 4, [49, 50, 51, 52]⟩, ⟨some ⟨b6, 0, none⟩, 5, 5, [53, 54, 55, 56, 57]⟩]) (hnib.kp0 q19) (Rd.of_blk hb7 fun i v hv => by rw [Nat.zero_add, ← Array.getElem?_toList]; exact hv) ?_ (by simp) ⟨_, rfl, ?_⟩
  · intro p hp
    simp only [List.mem_cons, List.not_mem_nil, or_false] at hp
    rcases hp with rfl | rfl
    · exact ⟨rd5, rfl, by simp⟩
    · exact ⟨rd6, rfl, by simp⟩
  · have : flat [⟨some ⟨b5, 0, none⟩, 4, 4, [49, 50, 51, 52]⟩, ⟨some ⟨b6, 0, none⟩, 5, 5, [53, 54, 55, 56, 57]⟩] = [49, 50, 51, 52] ++ [53, 54, 55, 56, 57] := rfl
    rw [this, sum9]
    exact h _ q19
end Go.Proofs.YtplfoedgekdjgaaDoor
