/- Several texts in one: Rr, Rs, Rt, Ru. Conditions: lengths below 2^47. -/
import Derived.Test.YtjhncijdkmbopaaRj
import Derived.Test.YtjhncijdkmbopaaQa
import Derived.Test.YtjhncijdkmbopaaQd
import Derived.Test.YtjhncijdkmbopaaRp
/-! Plain laws of a record's bytes: there and back, one form, cut. Conditions: none. -/
set_option linter.unusedVariables false
set_option linter.unusedSimpArgs false
namespace Go.Proofs.Ytjhncijdkmbopaa
open Go Go.RowKit

theorem zig_unzig (n : Nat) : zig (unzig n) = n := by
  unfold unzig
  split
  · unfold zig
    rw [if_pos (by omega)]
    omega
  · unfold zig
    rw [if_neg (by omega)]
    omega
theorem unzig_bd {n : Nat} (h : n < 18446744073709551616) : i64 (unzig n) := by
  unfold i64 unzig
  split <;> omega
theorem rdU_ok {bs : List UInt8} {at_ m M : Nat} {rest : List UInt8} (hm : m < 18446744073709551616) (hM : m ≤ M) (hd : bs.drop at_ = vform m ++ rest) : rdU bs (at_, 0) M = (m, (at_ + (vform m).length, 0)) := by
  unfold rdU
  rw [if_pos rfl]
  dsimp only
  rw [hd, parse_vform hm]
  dsimp only
  rw [if_pos rfl, if_neg (by omega)]
theorem drop_next {α : Type} {bs x rest : List α} {at_ : Nat} (hd : bs.drop at_ = x ++ rest) : bs.drop (at_ + x.length) = rest := by
  rw [← List.drop_drop, hd, List.drop_left]
/-- What was read is the form of the number. -/
theorem rdU_one {bs : List UInt8} {st : Nat × Nat} {M : Nat} (h : (rdU bs st M).2.2 = 0) : st.2 = 0 ∧ bs.drop st.1 = vform (rdU bs st M).1 ++ bs.drop (rdU bs st M).2.1 := by
  unfold rdU at h ⊢
  split at h
  · rename_i h0
    rw [if_pos h0]
    split at h
    · rename_i hp
      rw [if_pos hp]
      split at h
      · cases h
      · rename_i hm
        rw [if_neg hm]
        refine ⟨h0, ?_⟩
        dsimp only
        rw [parse_one hp, ← List.drop_drop, List.take_append_drop]
    · rename_i hp
      exact absurd h hp
  · rename_i h0
    exact absurd h h0

theorem gi_put_same {r : RV} {v : Int} {o : Nat} (ho : o ∈ plc) : (r.put v o).gi o = v := by
  simp only [plc, List.mem_cons, List.mem_nil_iff, or_false] at ho
  rcases ho with rfl | rfl | rfl | rfl | rfl | rfl | rfl | rfl | rfl | rfl | rfl | rfl | rfl <;> rfl
theorem gi_put_ne {r : RV} {v : Int} {o q : Nat} (ho : o ∈ plc) (hq : q ∈ plc) (h : q ≠ o) : (r.put v o).gi q = r.gi q := by
  simp only [plc, List.mem_cons, List.mem_nil_iff, or_false] at ho hq
  rcases ho with rfl | rfl | rfl | rfl | rfl | rfl | rfl | rfl | rfl | rfl | rfl | rfl | rfl <;> rcases hq with rfl | rfl | rfl | rfl | rfl | rfl | rfl | rfl | rfl | rfl | rfl | rfl | rfl <;> first | rfl | exact absurd rfl h

/-- What a reading of numbers leaves. -/
structure Left (l : List Nat) (r0 r1 : RV) (f : Nat → Int) : Prop where
  got : ∀ o ∈ l, r1.gi o = f o
  old : ∀ o ∈ plc, o ∉ l → r1.gi o = r0.gi o
  k : r1.kind = r0.kind ∧ r1.live = r0.live ∧ r1.dirty = r0.dirty ∧ r1.lsn = r0.lsn
theorem Left.cons {o : Nat} {l : List Nat} {r0 r1 : RV} {v : Int} {f : Nat → Int} (ho : o ∈ plc) (hl : ∀ o ∈ l, o ∈ plc) (hnd : o ∉ l) (h : Left l (r0.put v o) r1 f) (hv : v = f o) : Left (o :: l) r0 r1 f := by
  obtain ⟨e1, e2, e3, e4⟩ := put_kind (r := r0) (v := v) ho
  refine ⟨fun q hq => ?_, fun q hq hn => ?_, h.k.1.trans e1, h.k.2.1.trans e2, h.k.2.2.1.trans e3, h.k.2.2.2.trans e4⟩
  · rcases List.mem_cons.1 hq with rfl | hq
    · rw [h.old q ho hnd, gi_put_same ho, hv]
    · exact h.got q hq
  · rw [h.old q hq (fun hh => hn (List.mem_cons_of_mem _ hh)), gi_put_ne ho hq (fun hh => hn (by rw [hh]; exact List.mem_cons_self ..))]

theorem rdInts_ok {bs : List UInt8} {M : Nat} {f : Nat → Nat} {rest : List UInt8} : ∀ (l : List Nat) (r0 : RV) (at_ : Nat), l.Nodup → (∀ o ∈ l, o ∈ plc) → (∀ o ∈ l, f o ≤ M ∧ f o < 18446744073709551616) → bs.drop at_ = l.flatMap (fun o => vform (f o)) ++ rest →
    (rdInts bs M l (r0, (at_, 0))).2 = (at_ + (l.flatMap fun o => vform (f o)).length, 0) ∧ Left l r0 (rdInts bs M l (r0, (at_, 0))).1 fun o => (f o : Int)
  | [], r0, at_, _, _, _, _ => ⟨rfl, ⟨fun o ho => (by cases ho), fun o _ _ => rfl, rfl, rfl, rfl, rfl⟩⟩
  | o :: l, r0, at_, hnd, hp, hf, hd => by
    rw [List.flatMap_cons, List.append_assoc] at hd
    have hu := rdU_ok (hf o (List.mem_cons_self ..)).2 (hf o (List.mem_cons_self ..)).1 hd
    obtain ⟨h1, h2⟩ := rdInts_ok l (r0.put (f o : Int) o) (at_ + (vform (f o)).length) (List.nodup_cons.1 hnd).2 (fun q hq => hp q (List.mem_cons_of_mem _ hq)) (fun q hq => hf q (List.mem_cons_of_mem _ hq)) (drop_next hd)
    rw [rdInts]
    dsimp only
    rw [hu]
    refine ⟨by rw [h1, List.flatMap_cons, List.length_append, Nat.add_assoc], h2.cons (hp o (List.mem_cons_self ..)) (fun q hq => hp q (List.mem_cons_of_mem _ hq)) (List.nodup_cons.1 hnd).1 rfl⟩
theorem rdSgn_ok {bs : List UInt8} {f : Nat → Int} {rest : List UInt8} : ∀ (l : List Nat) (r0 : RV) (at_ : Nat), l.Nodup → (∀ o ∈ l, o ∈ plc) → (∀ o ∈ l, i64 (f o)) → bs.drop at_ = l.flatMap (fun o => vform (zig (f o))) ++ rest →
    (rdSgn bs l (r0, (at_, 0))).2 = (at_ + (l.flatMap fun o => vform (zig (f o))).length, 0) ∧ Left l r0 (rdSgn bs l (r0, (at_, 0))).1 f
  | [], r0, at_, _, _, _, _ => ⟨rfl, ⟨fun o ho => (by cases ho), fun o _ _ => rfl, rfl, rfl, rfl, rfl⟩⟩
  | o :: l, r0, at_, hnd, hp, hf, hd => by
    rw [List.flatMap_cons, List.append_assoc] at hd
    have hi := hf o (List.mem_cons_self ..)
    have hz := zig_lt hi.1 hi.2
    have hu := rdU_ok (M := 18446744073709551615) hz (by omega) hd
    obtain ⟨h1, h2⟩ := rdSgn_ok l (r0.put (f o) o) (at_ + (vform (zig (f o))).length) (List.nodup_cons.1 hnd).2 (fun q hq => hp q (List.mem_cons_of_mem _ hq)) (fun q hq => hf q (List.mem_cons_of_mem _ hq)) (drop_next hd)
    rw [rdSgn]
    dsimp only
    rw [hu]
    dsimp only
    rw [unzig_zig]
    refine ⟨by rw [h1, List.flatMap_cons, List.length_append, Nat.add_assoc], h2.cons (hp o (List.mem_cons_self ..)) (fun q hq => hp q (List.mem_cons_of_mem _ hq)) (List.nodup_cons.1 hnd).1 rfl⟩
theorem rdL1_ok {bs : List UInt8} {x : LV} {at_ : Nat} {rest : List UInt8} (hx : 0 ≤ x.tx ∧ x.tx < 2147483648 ∧ 0 ≤ x.last ∧ x.last < 2147483648) (hcu : ¬ (x.c = true ∧ x.u = true)) (hd : bs.drop at_ = lvB x ++ rest) : rdL1 bs (at_, 0) = (x, (at_ + (lvB x).length, 0)) := by
  unfold lvB at hd ⊢
  simp only [List.append_assoc] at hd
  have hst : stN x ≤ 2 := by unfold stN; split <;> (try split) <;> omega
  have u1 := rdU_ok (M := 2147483647) (by omega) (by omega) hd
  have u2 := rdU_ok (M := 2147483647) (by omega) (by omega) (drop_next hd)
  have u3 := rdU_ok (M := 2) (by omega) (by omega) (drop_next (drop_next hd))
  unfold rdL1
  simp only [u1, u2, u3]
  refine Prod.ext ?_ (by simp only [List.length_append]; refine Prod.ext ?_ rfl; dsimp only; omega)
  obtain ⟨tx, last, c, u⟩ := x
  dsimp only at hx hcu ⊢
  have e1 : ((tx.toNat : Nat) : Int) = tx := by omega
  have e2 : ((last.toNat : Nat) : Int) = last := by omega
  rw [e1, e2]
  cases c <;> cases u <;> simp [stN] at hcu ⊢
theorem rdD1_ok {bs : List UInt8} {x : DV} {at_ : Nat} {rest : List UInt8} (hx : 0 ≤ x.page ∧ x.page < 64 ∧ 0 ≤ x.since ∧ x.since < 2147483648) (hd : bs.drop at_ = dvB x ++ rest) : rdD1 bs (at_, 0) = (x, (at_ + (dvB x).length, 0)) := by
  unfold dvB at hd ⊢
  simp only [List.append_assoc] at hd
  have u1 := rdU_ok (M := 2147483647) (by omega) (by omega) hd
  have u2 := rdU_ok (M := 2147483647) (by omega) (by omega) (drop_next hd)
  unfold rdD1
  simp only [u1, u2]
  refine Prod.ext ?_ (by simp only [List.length_append]; refine Prod.ext ?_ rfl; dsimp only; omega)
  obtain ⟨p, s⟩ := x
  dsimp only at hx ⊢
  have e1 : ((p.toNat : Nat) : Int) = p := by omega
  have e2 : ((s.toNat : Nat) : Int) = s := by omega
  rw [e1, e2]
theorem rdLive_ok {bs : List UInt8} {rest : List UInt8} : ∀ (L A : List LV) (at_ : Nat), (∀ x ∈ L, (0 ≤ x.tx ∧ x.tx < 2147483648 ∧ 0 ≤ x.last ∧ x.last < 2147483648) ∧ ¬ (x.c = true ∧ x.u = true)) → bs.drop at_ = L.flatMap lvB ++ rest → rdLive bs L.length (A, (at_, 0)) = (A ++ L, (at_ + (L.flatMap lvB).length, 0))
  | [], A, at_, _, _ => by simp [rdLive]
  | x :: L, A, at_, hx, hd => by
    rw [List.flatMap_cons, List.append_assoc] at hd
    have h1 := rdL1_ok (hx x (List.mem_cons_self ..)).1 (hx x (List.mem_cons_self ..)).2 hd
    rw [List.length_cons, rdLive]
    dsimp only
    rw [h1]
    dsimp only
    rw [rdLive_ok L _ _ (fun y hy => hx y (List.mem_cons_of_mem _ hy)) (drop_next hd), List.flatMap_cons, List.length_append, List.append_assoc, Nat.add_assoc]
    rfl
theorem rdDirty_ok {bs : List UInt8} {rest : List UInt8} : ∀ (D A : List DV) (at_ : Nat), (∀ x ∈ D, 0 ≤ x.page ∧ x.page < 64 ∧ 0 ≤ x.since ∧ x.since < 2147483648) → bs.drop at_ = D.flatMap dvB ++ rest → rdDirty bs D.length (A, (at_, 0)) = (A ++ D, (at_ + (D.flatMap dvB).length, 0))
  | [], A, at_, _, _ => by simp [rdDirty]
  | x :: D, A, at_, hx, hd => by
    rw [List.flatMap_cons, List.append_assoc] at hd
    have h1 := rdD1_ok (hx x (List.mem_cons_self ..)) hd
    rw [List.length_cons, rdDirty]
    dsimp only
    rw [h1]
    dsimp only
    rw [rdDirty_ok D _ _ (fun y hy => hx y (List.mem_cons_of_mem _ hy)) (drop_next hd), List.flatMap_cons, List.length_append, List.append_assoc, Nat.add_assoc]
    rfl

theorem iof_nodup (k : Int) : (iof k).Nodup := by
  unfold iof
  repeat' (split <;> try decide)
theorem sof_nodup (k : Int) : (sof k).Nodup := by
  unfold sof
  repeat' (split <;> try decide)
theorem iof_sof (k : Int) : ∀ o ∈ iof k, o ∉ sof k := by
  unfold iof sof
  intro o ho
  split at ho
  · rename_i h
    rw [if_pos h]
    revert o; decide
  · rename_i h2
    rw [if_neg h2]
    split at ho
    · rename_i h8
      rw [if_neg (by omega)]
      simp
    · split at ho
      · rename_i h
        rw [if_pos h]
        revert o; decide
      · rename_i h
        rw [if_neg h]
        simp
theorem gi_ext {a b : RV} (hl : a.lsn = b.lsn) (hk : a.kind = b.kind) (h : ∀ o ∈ plc, a.gi o = b.gi o) (hL : a.live = b.live) (hD : a.dirty = b.dirty) : a = b := by
  obtain ⟨a0, a1, a2, a3, a4, a5, a6, a7, a8, a9, a10, a11, a12, a13, a14, aL, aD⟩ := a
  obtain ⟨b0, b1, b2, b3, b4, b5, b6, b7, b8, b9, b10, b11, b12, b13, b14, bL, bD⟩ := b
  have h2 := h 2 (by decide)
  have h3 := h 3 (by decide)
  have h4 := h 4 (by decide)
  have h5 := h 5 (by decide)
  have h6 := h 6 (by decide)
  have h7 := h 7 (by decide)
  have h8 := h 8 (by decide)
  have h9 := h 9 (by decide)
  have h10 := h 10 (by decide)
  have h11 := h 11 (by decide)
  have h12 := h 12 (by decide)
  have h13 := h 13 (by decide)
  have h16 := h 16 (by decide)
  simp only [RV.gi] at *
  subst hl hk h2 h3 h4 h5 h6 h7 h8 h9 h10 h11 h12 h13 h16 hL hD
  rfl
/-- What its kind has not is zero. -/
theorem ok_zero {r : RV} (h : okB r = true) (h1 : 1 ≤ r.kind) (h8 : r.kind ≤ 8) : (∀ o ∈ plc, o ∉ iof r.kind → o ∉ sof r.kind → r.gi o = 0) ∧ (r.kind ≠ 8 → r.live = [] ∧ r.dirty = []) := by
  unfold okB at h
  unfold iof sof
  by_cases e2 : r.kind = 2
  · rw [if_pos e2] at h
    simp only [e2, Bool.and_eq_true, decide_eq_true_eq] at h ⊢
    obtain ⟨_, _, hz⟩ := h
    refine ⟨fun o ho hi hs => ?_, fun _ => ⟨List.eq_nil_of_length_eq_zero hz.2.2.2.2.1, List.eq_nil_of_length_eq_zero hz.2.2.2.2.2⟩⟩
    simp only [plc, List.mem_cons, List.mem_nil_iff, or_false] at ho
    rcases ho with rfl | rfl | rfl | rfl | rfl | rfl | rfl | rfl | rfl | rfl | rfl | rfl | rfl <;> first | (simp at hi; done) | (simp at hs; done) | (simp only [RV.gi]; omega)
  · rw [if_neg e2] at h
    rw [if_neg e2, if_neg e2]
    by_cases e8 : r.kind = 8
    · rw [if_pos e8] at h
      rw [if_pos e8, if_neg (by omega)]
      simp only [Bool.and_eq_true, decide_eq_true_eq] at h
      obtain ⟨_, _, hz⟩ := h
      refine ⟨fun o ho hi hs => ?_, fun hh => absurd e8 hh⟩
      simp only [plc, List.mem_cons, List.mem_nil_iff, or_false] at ho
      rcases ho with rfl | rfl | rfl | rfl | rfl | rfl | rfl | rfl | rfl | rfl | rfl | rfl | rfl <;> first | (simp at hi; done) | (simp only [RV.gi]; omega)
    · rw [if_neg e8] at h
      rw [if_neg e8]
      by_cases e34 : r.kind = 3 ∨ r.kind = 4
      · rw [if_pos e34] at h
        rw [if_pos e34, if_pos e34]
        simp only [Bool.and_eq_true, decide_eq_true_eq] at h
        obtain ⟨_, _, hz⟩ := h
        refine ⟨fun o ho hi hs => ?_, fun _ => ⟨List.eq_nil_of_length_eq_zero hz.2.2.2.2.2.1, List.eq_nil_of_length_eq_zero hz.2.2.2.2.2.2⟩⟩
        simp only [plc, List.mem_cons, List.mem_nil_iff, or_false] at ho
        rcases ho with rfl | rfl | rfl | rfl | rfl | rfl | rfl | rfl | rfl | rfl | rfl | rfl | rfl <;> first | (simp at hi; done) | (simp at hs; done) | (simp only [RV.gi]; omega)
      · rw [if_neg e34] at h
        rw [if_neg e34, if_neg e34]
        by_cases e567 : r.kind = 5 ∨ r.kind = 6 ∨ r.kind = 7
        · rw [if_pos e567] at h
          rw [if_pos e567]
          simp only [Bool.and_eq_true, decide_eq_true_eq] at h
          obtain ⟨_, _, hz⟩ := h
          refine ⟨fun o ho hi hs => ?_, fun _ => ⟨List.eq_nil_of_length_eq_zero hz.2.2.2.2.2.2.2.2.2.2.2.1, List.eq_nil_of_length_eq_zero hz.2.2.2.2.2.2.2.2.2.2.2.2⟩⟩
          simp only [plc, List.mem_cons, List.mem_nil_iff, or_false] at ho
          rcases ho with rfl | rfl | rfl | rfl | rfl | rfl | rfl | rfl | rfl | rfl | rfl | rfl | rfl <;> first | (simp at hi; done) | (simp only [RV.gi]; omega)
        · rw [if_neg e567] at h
          rw [if_neg e567]
          simp only [Bool.and_eq_true, decide_eq_true_eq] at h
          obtain ⟨_, _, hz⟩ := h
          refine ⟨fun o ho hi hs => ?_, fun _ => ⟨List.eq_nil_of_length_eq_zero hz.2.2.2.2.2.2.2.2.2.2.2.2.1, List.eq_nil_of_length_eq_zero hz.2.2.2.2.2.2.2.2.2.2.2.2.2⟩⟩
          simp only [plc, List.mem_cons, List.mem_nil_iff, or_false] at ho
          rcases ho with rfl | rfl | rfl | rfl | rfl | rfl | rfl | rfl | rfl | rfl | rfl | rfl | rfl <;> first | (simp at hi; done) | (simp only [RV.gi]; omega)
end Go.Proofs.Ytjhncijdkmbopaa
/-! Plain laws of a record's bytes: there and back, one form, their length. Conditions: none. -/
set_option linter.unusedVariables false
set_option linter.unusedSimpArgs false
namespace Go.Proofs.Ytjhncijdkmbopaa
open Go Go.RowKit

theorem liB_cu {next lsn : Int} : ∀ {last : Int} {L : List LV}, liB next lsn last L = true → ∀ x ∈ L, ¬ (x.c = true ∧ x.u = true) := by
  intro last L
  induction L generalizing last with
  | nil => intro _ x hx; cases hx
  | cons y t ih =>
    intro h x hx
    simp only [liB, Bool.and_eq_true, Bool.not_eq_true'] at h
    rcases List.mem_cons.1 hx with rfl | hx
    · intro hh
      have := h.1.2
      rw [hh.1, hh.2] at this
      cases this
    · exact ih h.2 x hx
theorem ok_cu {r : RV} (hc : chkN r = 0) (h8 : r.kind = 8) : ∀ x ∈ r.live, ¬ (x.c = true ∧ x.u = true) := by
  obtain ⟨_, _, ho⟩ := chk_kind hc
  unfold okB at ho
  rw [if_neg (by omega), if_pos h8] at ho
  simp only [Bool.and_eq_true, cpB] at ho
  exact liB_cu ho.2.1.1.2

theorem rdRec_ok {r : RV} (hc : chkN r = 0) (h64 : r.w64) {bs rest : List UInt8} {at_ : Nat} (hd : bs.drop at_ = (iof r.kind).flatMap (intB r) ++ ((sof r.kind).flatMap (sgnB r) ++ (tailB r ++ rest))) :
    rdRec bs r.kind (at_, 0) = ({ r with lsn := 0 }, (at_ + ((iof r.kind).flatMap (intB r) ++ ((sof r.kind).flatMap (sgnB r) ++ tailB r)).length, 0)) := by
  obtain ⟨h1, h8, hok⟩ := chk_kind hc
  have hints := ok_ints hc
  have hsg := sgn_64 h64
  obtain ⟨hz, hll⟩ := ok_zero hok h1 h8
  obtain ⟨i1, i2⟩ := rdInts_ok (M := mst r.kind) (f := fun o => (r.gi o).toNat) (iof r.kind) { kind := r.kind } at_ (iof_nodup _) (iof_plc _) (fun o ho => by
    have := hints o ho
    unfold mst
    split
    · omega
    · rename_i hn
      have := this.2.2 hn
      omega) hd
  obtain ⟨j1, j2⟩ := rdSgn_ok (f := r.gi) (sof r.kind) (rdInts bs (mst r.kind) (iof r.kind) ({ kind := r.kind }, (at_, 0))).1 (at_ + ((iof r.kind).flatMap fun o => vform (r.gi o).toNat).length) (sof_nodup _) (sof_plc _) hsg (drop_next hd)
  have hin : rdInts bs (mst r.kind) (iof r.kind) ({ kind := r.kind }, (at_, 0)) = ((rdInts bs (mst r.kind) (iof r.kind) ({ kind := r.kind }, (at_, 0))).1, (at_ + ((iof r.kind).flatMap fun o => vform (r.gi o).toNat).length, 0)) := Prod.ext rfl i1
  unfold rdRec
  rw [hin]
  generalize (rdInts bs (mst r.kind) (iof r.kind) ({ kind := r.kind }, (at_, 0))).1 = ra at *
  have hsn : rdSgn bs (sof r.kind) (ra, (at_ + ((iof r.kind).flatMap fun o => vform (r.gi o).toNat).length, 0)) = ((rdSgn bs (sof r.kind) (ra, (at_ + ((iof r.kind).flatMap fun o => vform (r.gi o).toNat).length, 0))).1, (at_ + ((iof r.kind).flatMap fun o => vform (r.gi o).toNat).length + ((sof r.kind).flatMap fun o => vform (zig (r.gi o))).length, 0)) := Prod.ext rfl j1
  rw [hsn]
  generalize (rdSgn bs (sof r.kind) (ra, (at_ + ((iof r.kind).flatMap fun o => vform (r.gi o).toNat).length, 0))).1 = rb at *
  have hgi : ∀ o ∈ plc, rb.gi o = r.gi o := fun o ho => by
    by_cases hs : o ∈ sof r.kind
    · exact j2.got o hs
    · rw [j2.old o ho hs]
      by_cases hi : o ∈ iof r.kind
      · rw [i2.got o hi]
        have := hints o hi
        omega
      · rw [i2.old o ho hi, hz o ho hi hs]
        simp only [plc, List.mem_cons, List.mem_nil_iff, or_false] at ho
        rcases ho with rfl | rfl | rfl | rfl | rfl | rfl | rfl | rfl | rfl | rfl | rfl | rfl | rfl <;> rfl
  have hkb : rb.kind = r.kind := j2.k.1.trans i2.k.1
  have hlb : rb.live = [] := j2.k.2.1.trans i2.k.2.1
  have hdb : rb.dirty = [] := j2.k.2.2.1.trans i2.k.2.2.1
  have hsb : rb.lsn = 0 := j2.k.2.2.2.trans i2.k.2.2.2
  have gl : ∀ o ∈ plc, ({ r with lsn := 0 } : RV).gi o = r.gi o := fun o ho => by
    simp only [plc, List.mem_cons, List.mem_nil_iff, or_false] at ho
    rcases ho with rfl | rfl | rfl | rfl | rfl | rfl | rfl | rfl | rfl | rfl | rfl | rfl | rfl <;> rfl
  unfold rdTail
  dsimp only
  rw [hkb]
  by_cases e8 : r.kind = 8
  · rw [if_pos e8]
    obtain ⟨hl32, hd16, hL, hD⟩ := ok_lists hc e8
    have hcu := ok_cu hc e8
    have d2 := drop_next (drop_next hd)
    have htail : tailB r = vform r.live.length ++ (r.live.flatMap lvB ++ (vform r.dirty.length ++ r.dirty.flatMap dvB)) := by unfold tailB; rw [if_pos e8]
    rw [htail] at d2 ⊢
    simp only [List.append_assoc] at d2
    unfold rdCp
    dsimp only
    have u1 := rdU_ok (M := 32) (by omega) (by omega) d2
    have d3 := drop_next d2
    have u2 := rdLive_ok r.live [] _ (fun x hx => ⟨hL x hx, hcu x hx⟩) d3
    have d4 := drop_next d3
    have u3 := rdU_ok (M := 16) (by omega) (by omega) d4
    have d5 := drop_next d4
    have u4 := rdDirty_ok r.dirty [] _ hD d5
    rw [hlb, hdb]
    unfold intB sgnB at u1 u2 u3 u4
    simp only [u1, u2, u3, u4, List.nil_append]
    refine Prod.ext ?_ ?_
    · refine gi_ext hsb hkb (fun o ho => ?_) rfl rfl
      rw [gl o ho, ← hgi o ho]
      simp only [plc, List.mem_cons, List.mem_nil_iff, or_false] at ho
      rcases ho with rfl | rfl | rfl | rfl | rfl | rfl | rfl | rfl | rfl | rfl | rfl | rfl | rfl <;> rfl
    · refine Prod.ext ?_ rfl
      simp only [List.length_append]
      unfold intB sgnB
      omega
  · rw [if_neg e8]
    have htail : tailB r = [] := by unfold tailB; rw [if_neg e8]
    obtain ⟨hl0, hd0⟩ := hll e8
    refine Prod.ext ?_ ?_
    · exact gi_ext hsb hkb (fun o ho => by rw [gl o ho]; exact hgi o ho) (by rw [hlb]; exact hl0.symm) (by rw [hdb]; exact hd0.symm)
    · refine Prod.ext ?_ rfl
      rw [htail]
      simp only [List.length_append, List.length_nil]
      unfold intB sgnB
      omega

theorem inB0 : inB 0 0 2147483647 = true := by unfold inB; simp
theorem chk_lsn0 {r : RV} (h : chkN r = 0) : chkN { r with lsn := 0 } = 0 := by
  obtain ⟨h1, h8, hok⟩ := chk_kind h
  unfold chkN
  rw [if_neg (by dsimp only; omega), if_pos]
  unfold okB at hok ⊢
  dsimp only
  simp only [Bool.and_eq_true] at hok
  rw [inB0, Bool.true_and]
  obtain ⟨_, hok⟩ := hok
  by_cases e2 : r.kind = 2
  · rw [if_pos e2] at hok ⊢
    exact hok
  rw [if_neg e2] at hok ⊢
  by_cases e8 : r.kind = 8
  · rw [if_pos e8] at hok ⊢
    simp only [Bool.and_eq_true] at hok ⊢
    refine ⟨?_, hok.2⟩
    have := hok.1
    unfold cpB at this ⊢
    rw [liB_all, diB_all] at this
    simp only [Bool.and_eq_true] at this ⊢
    exact ⟨⟨this.1.1, this.1.2.1⟩, this.2.1⟩
  rw [if_neg e8] at hok ⊢
  by_cases e34 : r.kind = 3 ∨ r.kind = 4
  · rw [if_pos e34] at hok ⊢
    rw [belB_0]
    simp only [Bool.and_eq_true] at hok ⊢
    exact ⟨⟨⟨hok.1.1.1, hok.1.1.2.1, trivial⟩, hok.1.2⟩, hok.2⟩
  rw [if_neg e34] at hok ⊢
  by_cases e567 : r.kind = 5 ∨ r.kind = 6 ∨ r.kind = 7
  · rw [if_pos e567] at hok ⊢
    rw [belB_0]
    simp only [Bool.and_eq_true] at hok ⊢
    exact ⟨⟨⟨hok.1.1.1, trivial⟩, hok.1.2⟩, hok.2⟩
  · rw [if_neg e567] at hok ⊢
    exact hok
theorem flat_congr {α : Type} {f g : α → List UInt8} : ∀ {L : List α}, (∀ x ∈ L, f x = g x) → L.flatMap f = L.flatMap g
  | [], _ => rfl
  | x :: r, h => by rw [List.flatMap_cons, List.flatMap_cons, h x (List.mem_cons_self ..), flat_congr fun y hy => h y (List.mem_cons_of_mem _ hy)]
theorem enc_lsn (r : RV) (n : Int) : encB { r with lsn := n } = encB r := by
  unfold encB tailB
  dsimp only
  have : ∀ o ∈ plc, ({ r with lsn := n } : RV).gi o = r.gi o := fun o ho => by
    simp only [plc, List.mem_cons, List.mem_nil_iff, or_false] at ho
    rcases ho with rfl | rfl | rfl | rfl | rfl | rfl | rfl | rfl | rfl | rfl | rfl | rfl | rfl <;> rfl
  have e1 : (iof r.kind).flatMap (intB { r with lsn := n }) = (iof r.kind).flatMap (intB r) := flat_congr fun o ho => by unfold intB; rw [this o (iof_plc _ o ho)]
  have e2 : (sof r.kind).flatMap (sgnB { r with lsn := n }) = (sof r.kind).flatMap (sgnB r) := flat_congr fun o ho => by unfold sgnB; rw [this o (sof_plc _ o ho)]
  rw [e1, e2]

/-- There and back, with bytes behind it. -/
theorem dec_enc {r : RV} (hc : chkN r = 0) (h64 : r.w64) (more : List UInt8) : decB (encB r ++ more) = if more = [] then ({ r with lsn := 0 }, 0) else ({}, 21) := by
  obtain ⟨h1, h8, hok⟩ := chk_kind hc
  have hd : (encB r ++ more).drop 0 = vform r.kind.toNat ++ ((iof r.kind).flatMap (intB r) ++ ((sof r.kind).flatMap (sgnB r) ++ (tailB r ++ more))) := by
    unfold encB
    simp only [List.drop_zero, List.append_assoc]
  have u := rdU_ok (M := 18446744073709551615) (by omega) (by omega) hd
  have hk : ((r.kind.toNat : Nat) : Int) = r.kind := by omega
  have d1 := drop_next hd
  have hrec := rdRec_ok hc h64 d1
  have hlen : (vform r.kind.toNat).length + ((iof r.kind).flatMap (intB r) ++ ((sof r.kind).flatMap (sgnB r) ++ tailB r)).length = (encB r).length := by
    unfold encB
    simp only [List.length_append]
  unfold decB
  simp only [u, hk]
  rw [if_neg (by omega), if_neg (by omega), hrec]
  dsimp only
  rw [Nat.zero_add, hlen]
  by_cases hm : more = []
  · subst hm
    have e : endE (encB r ++ []) ((encB r).length, 0) = 0 := by
      unfold endE
      dsimp only
      rw [List.append_nil, if_neg (by omega)]
    rw [e, if_neg (by omega), if_pos rfl, chk_lsn0 hc]
    rfl
  · have : 0 < more.length := List.length_pos_iff.2 hm
    have e : endE (encB r ++ more) ((encB r).length, 0) = 21 := by
      unfold endE
      dsimp only
      rw [if_pos ⟨rfl, by rw [List.length_append]; omega⟩]
    rw [e, if_neg hm, if_pos (by omega)]
end Go.Proofs.Ytjhncijdkmbopaa
/-! Plain laws of a record's bytes: one form, cut, length. Conditions: none. -/
set_option linter.unusedVariables false
set_option linter.unusedSimpArgs false
namespace Go.Proofs.Ytjhncijdkmbopaa
open Go Go.RowKit

theorem dec_err {bs : List UInt8} (h : (decB bs).2 ≠ 0) : (decB bs).1 = {} := by
  unfold decB at h ⊢
  dsimp only at h ⊢
  split at h
  · rename_i h1
    rw [if_pos h1]
  · rename_i h1
    rw [if_neg h1]
    split at h
    · rename_i h2
      rw [if_pos h2]
    · rename_i h2
      rw [if_neg h2]
      split at h
      · rename_i h3
        rw [if_pos h3]
      · rename_i h3
        rw [if_neg h3]
        split at h
        · rename_i h4
          rw [if_pos h4]
        · exact absurd rfl h

/-- What a reading of numbers has read. -/
theorem rdInts_one {bs : List UInt8} {M : Nat} : ∀ (l : List Nat) (s : RV × (Nat × Nat)), l.Nodup → (∀ o ∈ l, o ∈ plc) → (rdInts bs M l s).2.2 = 0 →
    s.2.2 = 0 ∧ bs.drop s.2.1 = l.flatMap (intB (rdInts bs M l s).1) ++ bs.drop (rdInts bs M l s).2.1 ∧ Left l s.1 (rdInts bs M l s).1 (rdInts bs M l s).1.gi
  | [], s, _, _, h => ⟨h, rfl, ⟨fun o ho => (by cases ho), fun o _ _ => rfl, rfl, rfl, rfl, rfl⟩⟩
  | o :: l, s, hnd, hp, h => by
    rw [rdInts] at h ⊢
    obtain ⟨h1, h2, h3⟩ := rdInts_one l _ (List.nodup_cons.1 hnd).2 (fun q hq => hp q (List.mem_cons_of_mem _ hq)) h
    dsimp only at h1 h2
    obtain ⟨h4, h5⟩ := rdU_one h1
    have hv : (rdInts bs M l (s.1.put ((rdU bs s.2 M).1 : Int) o, (rdU bs s.2 M).2)).1.gi o = ((rdU bs s.2 M).1 : Int) := by
      rw [h3.old o (hp o (List.mem_cons_self ..)) (List.nodup_cons.1 hnd).1, gi_put_same (hp o (List.mem_cons_self ..))]
    refine ⟨h4, ?_, h3.cons (hp o (List.mem_cons_self ..)) (fun q hq => hp q (List.mem_cons_of_mem _ hq)) (List.nodup_cons.1 hnd).1 hv.symm⟩
    rw [h5, h2, List.flatMap_cons, List.append_assoc]
    congr 1
    unfold intB
    rw [hv, Int.toNat_natCast]
theorem rdSgn_one {bs : List UInt8} : ∀ (l : List Nat) (s : RV × (Nat × Nat)), l.Nodup → (∀ o ∈ l, o ∈ plc) → (rdSgn bs l s).2.2 = 0 →
    s.2.2 = 0 ∧ bs.drop s.2.1 = l.flatMap (sgnB (rdSgn bs l s).1) ++ bs.drop (rdSgn bs l s).2.1 ∧ Left l s.1 (rdSgn bs l s).1 (rdSgn bs l s).1.gi ∧ ∀ o ∈ l, i64 ((rdSgn bs l s).1.gi o)
  | [], s, _, _, h => ⟨h, rfl, ⟨fun o ho => (by cases ho), fun o _ _ => rfl, rfl, rfl, rfl, rfl⟩, fun o ho => (by cases ho)⟩
  | o :: l, s, hnd, hp, h => by
    rw [rdSgn] at h ⊢
    obtain ⟨h1, h2, h3, h6⟩ := rdSgn_one l _ (List.nodup_cons.1 hnd).2 (fun q hq => hp q (List.mem_cons_of_mem _ hq)) h
    dsimp only at h1 h2
    obtain ⟨h4, h5⟩ := rdU_one h1
    have hv : (rdSgn bs l (s.1.put (unzig (rdU bs s.2 18446744073709551615).1) o, (rdU bs s.2 18446744073709551615).2)).1.gi o = unzig (rdU bs s.2 18446744073709551615).1 := by
      rw [h3.old o (hp o (List.mem_cons_self ..)) (List.nodup_cons.1 hnd).1, gi_put_same (hp o (List.mem_cons_self ..))]
    refine ⟨h4, ?_, h3.cons (hp o (List.mem_cons_self ..)) (fun q hq => hp q (List.mem_cons_of_mem _ hq)) (List.nodup_cons.1 hnd).1 hv.symm, fun q hq => ?_⟩
    · rw [h5, h2, List.flatMap_cons, List.append_assoc]
      congr 1
      unfold sgnB
      rw [hv, zig_unzig]
    · rcases List.mem_cons.1 hq with rfl | hq
      · rw [hv]
        exact unzig_bd (rdU_lt _ _ _)
      · exact h6 q hq
theorem rdL1_one {bs : List UInt8} {st : Nat × Nat} (h : (rdL1 bs st).2.2 = 0) : st.2 = 0 ∧ bs.drop st.1 = lvB (rdL1 bs st).1 ++ bs.drop (rdL1 bs st).2.1 := by
  unfold rdL1 at h ⊢
  dsimp only at h ⊢
  obtain ⟨h1, e1⟩ := rdU_one h
  obtain ⟨h2, e2⟩ := rdU_one h1
  obtain ⟨h3, e3⟩ := rdU_one h2
  refine ⟨h3, ?_⟩
  rw [e3, e2, e1]
  unfold lvB
  dsimp only
  have hle := rdU_le bs (rdU bs (rdU bs st 2147483647).2 2147483647).2 2
  have hst : stN ⟨((rdU bs st 2147483647).1 : Int), ((rdU bs (rdU bs st 2147483647).2 2147483647).1 : Int), ((rdU bs (rdU bs (rdU bs st 2147483647).2 2147483647).2 2).1 : Int) == 1, ((rdU bs (rdU bs (rdU bs st 2147483647).2 2147483647).2 2).1 : Int) == 2⟩ = (rdU bs (rdU bs (rdU bs st 2147483647).2 2147483647).2 2).1 := by
    unfold stN
    dsimp only
    generalize (rdU bs (rdU bs (rdU bs st 2147483647).2 2147483647).2 2).1 = v at *
    have : v = 0 ∨ v = 1 ∨ v = 2 := by omega
    rcases this with rfl | rfl | rfl <;> rfl
  rw [hst, Int.toNat_natCast, Int.toNat_natCast]
  simp only [List.append_assoc]
theorem rdD1_one {bs : List UInt8} {st : Nat × Nat} (h : (rdD1 bs st).2.2 = 0) : st.2 = 0 ∧ bs.drop st.1 = dvB (rdD1 bs st).1 ++ bs.drop (rdD1 bs st).2.1 := by
  unfold rdD1 at h ⊢
  dsimp only at h ⊢
  obtain ⟨h1, e1⟩ := rdU_one h
  obtain ⟨h2, e2⟩ := rdU_one h1
  refine ⟨h2, ?_⟩
  rw [e2, e1]
  unfold dvB
  dsimp only
  rw [Int.toNat_natCast, Int.toNat_natCast]
  simp only [List.append_assoc]
theorem rdLive_one {bs : List UInt8} : ∀ (n : Nat) (A : List LV) (st : Nat × Nat), (rdLive bs n (A, st)).2.2 = 0 → st.2 = 0 ∧ ∃ L, (rdLive bs n (A, st)).1 = A ++ L ∧ L.length = n ∧ bs.drop st.1 = L.flatMap lvB ++ bs.drop (rdLive bs n (A, st)).2.1
  | 0, A, st, h => ⟨h, [], by simp [rdLive], rfl, rfl⟩
  | n + 1, A, st, h => by
    rw [rdLive] at h ⊢
    dsimp only at h ⊢
    obtain ⟨h1, L, h2, h3, h4⟩ := rdLive_one n _ _ h
    obtain ⟨h5, h6⟩ := rdL1_one h1
    refine ⟨h5, (rdL1 bs st).1 :: L, by rw [h2, List.append_assoc]; rfl, by simp [h3], ?_⟩
    rw [h6, h4, List.flatMap_cons, List.append_assoc]
theorem rdDirty_one {bs : List UInt8} : ∀ (n : Nat) (A : List DV) (st : Nat × Nat), (rdDirty bs n (A, st)).2.2 = 0 → st.2 = 0 ∧ ∃ D, (rdDirty bs n (A, st)).1 = A ++ D ∧ D.length = n ∧ bs.drop st.1 = D.flatMap dvB ++ bs.drop (rdDirty bs n (A, st)).2.1
  | 0, A, st, h => ⟨h, [], by simp [rdDirty], rfl, rfl⟩
  | n + 1, A, st, h => by
    rw [rdDirty] at h ⊢
    dsimp only at h ⊢
    obtain ⟨h1, L, h2, h3, h4⟩ := rdDirty_one n _ _ h
    obtain ⟨h5, h6⟩ := rdD1_one h1
    refine ⟨h5, (rdD1 bs st).1 :: L, by rw [h2, List.append_assoc]; rfl, by simp [h3], ?_⟩
    rw [h6, h4, List.flatMap_cons, List.append_assoc]

theorem rdRec_one {bs : List UInt8} {k : Int} {st : Nat × Nat} (h : (rdRec bs k st).2.2 = 0) : st.2 = 0 ∧ (rdRec bs k st).1.kind = k ∧ (rdRec bs k st).1.lsn = 0 ∧ (∀ o ∈ sof k, i64 ((rdRec bs k st).1.gi o)) ∧
    bs.drop st.1 = (iof k).flatMap (intB (rdRec bs k st).1) ++ ((sof k).flatMap (sgnB (rdRec bs k st).1) ++ (tailB (rdRec bs k st).1 ++ bs.drop (rdRec bs k st).2.1)) := by
  unfold rdRec at h ⊢
  generalize hA : rdInts bs (mst k) (iof k) ({ kind := k }, st) = A at h ⊢
  generalize hB : rdSgn bs (sof k) A = B at h ⊢
  have fin : B.2.2 = 0 → st.2 = 0 ∧ B.1.kind = k ∧ B.1.lsn = 0 ∧ B.1.live = [] ∧ B.1.dirty = [] ∧ (∀ o ∈ sof k, i64 (B.1.gi o)) ∧ bs.drop st.1 = (iof k).flatMap (intB B.1) ++ ((sof k).flatMap (sgnB B.1) ++ bs.drop B.2.1) := fun hz => by
    rw [← hB] at hz
    obtain ⟨j1, j2, j3, j4⟩ := rdSgn_one (sof k) A (sof_nodup k) (sof_plc k) hz
    rw [← hA] at j1
    obtain ⟨i1, i2, i3⟩ := rdInts_one (iof k) ({ kind := k }, st) (iof_nodup k) (iof_plc k) j1
    rw [hA] at i2 i3
    rw [hB] at j2 j3 j4
    refine ⟨i1, j3.k.1.trans i3.k.1, j3.k.2.2.2.trans i3.k.2.2.2, j3.k.2.1.trans i3.k.2.1, j3.k.2.2.1.trans i3.k.2.2.1, j4, ?_⟩
    dsimp only at i2
    rw [i2, j2]
    congr 1
    exact flat_congr fun o ho => by
      unfold intB
      rw [j3.old o (iof_plc k o ho) (iof_sof k o ho)]
  unfold rdTail at h ⊢
  by_cases e8 : B.1.kind = 8
  · rw [if_pos e8] at h ⊢
    unfold rdCp at h ⊢
    dsimp only at h ⊢
    obtain ⟨d1, D, d2, d3, d4⟩ := rdDirty_one _ _ _ h
    obtain ⟨u1, u2⟩ := rdU_one d1
    obtain ⟨l1, L, l2, l3, l4⟩ := rdLive_one _ _ _ u1
    obtain ⟨v1, v2⟩ := rdU_one l1
    obtain ⟨a1, a2, a3, a4, a5, a6, a7⟩ := fin v1
    have l2 := l2.trans (by rw [a4, List.nil_append] : B.1.live ++ L = L)
    have d2 := d2.trans (by rw [a5, List.nil_append] : B.1.dirty ++ D = D)
    have gl : ∀ (L : List LV) (D : List DV), ∀ o ∈ plc, ({ B.1 with live := L, dirty := D } : RV).gi o = B.1.gi o := fun L D o ho => by
      simp only [plc, List.mem_cons, List.mem_nil_iff, or_false] at ho
      rcases ho with rfl | rfl | rfl | rfl | rfl | rfl | rfl | rfl | rfl | rfl | rfl | rfl | rfl <;> rfl
    refine ⟨a1, a2, a3, fun o ho => by rw [gl _ _ o (sof_plc k o ho)]; exact a6 o ho, ?_⟩
    have eI : ∀ L D, (iof k).flatMap (intB { B.1 with live := L, dirty := D }) = (iof k).flatMap (intB B.1) := fun L D => flat_congr fun o ho => by unfold intB; rw [gl _ _ o (iof_plc k o ho)]
    have eS : ∀ L D, (sof k).flatMap (sgnB { B.1 with live := L, dirty := D }) = (sof k).flatMap (sgnB B.1) := fun L D => flat_congr fun o ho => by unfold sgnB; rw [gl _ _ o (sof_plc k o ho)]
    have eT : ∀ L D, tailB { B.1 with live := L, dirty := D } = vform L.length ++ (L.flatMap lvB ++ (vform D.length ++ D.flatMap dvB)) := fun L D => by
      unfold tailB
      rw [if_pos (by exact e8)]
    rw [eI, eS, eT, l2, d2, l3, d3, a7, v2, l4, u2, d4]
    simp only [List.append_assoc]
  · rw [if_neg e8] at h ⊢
    obtain ⟨a1, a2, a3, a4, a5, a6, a7⟩ := fin h
    refine ⟨a1, a2, a3, a6, ?_⟩
    have : tailB B.1 = [] := by unfold tailB; rw [if_neg e8]
    rw [this]
    exact a7

/-- Where bytes are a record's, they are its bytes. -/
theorem dec_one {bs : List UInt8} (h : (decB bs).2 = 0) : chkN (decB bs).1 = 0 ∧ (decB bs).1.lsn = 0 ∧ (decB bs).1.w64 ∧ encB (decB bs).1 = bs := by
  unfold decB at h ⊢
  dsimp only at h ⊢
  split at h
  · rename_i h1
    exact absurd h h1
  rename_i h1
  rw [if_neg h1]
  split at h
  · cases h
  rename_i h2
  rw [if_neg h2]
  split at h
  · rename_i h3
    exact absurd h h3
  rename_i h3
  rw [if_neg h3]
  split at h
  · rename_i h4
    exact absurd h h4
  rename_i h4
  rw [if_neg h4]
  dsimp only
  have he : endE bs (rdRec bs ((rdU bs (0, 0) 18446744073709551615).1 : Int) (rdU bs (0, 0) 18446744073709551615).2).2 = 0 := Decidable.not_not.1 h3
  have hc : chkN (rdRec bs ((rdU bs (0, 0) 18446744073709551615).1 : Int) (rdU bs (0, 0) 18446744073709551615).2).1 = 0 := Decidable.not_not.1 h4
  obtain ⟨u1, u2⟩ := rdU_one (Decidable.not_not.1 h1)
  generalize rdU bs (0, 0) 18446744073709551615 = a at *
  have hz : (rdRec bs (a.1 : Int) a.2).2.2 = 0 ∧ bs.length ≤ (rdRec bs (a.1 : Int) a.2).2.1 := by
    unfold endE at he
    split at he
    · cases he
    · rename_i hh
      exact ⟨he, by omega⟩
  obtain ⟨r1, r2, r3, r4, r5⟩ := rdRec_one hz.1
  generalize hx : rdRec bs (a.1 : Int) a.2 = x at *
  refine ⟨hc, r3, ?_, ?_⟩
  · obtain ⟨k1, k8, hok⟩ := chk_kind hc
    obtain ⟨hzz, _⟩ := ok_zero hok k1 k8
    rw [r2] at hzz
    have get : ∀ o, o ∈ plc → o ∉ iof (a.1 : Int) → i64 (x.1.gi o) := fun o ho hi => by
      by_cases hs : o ∈ sof (a.1 : Int)
      · exact r4 o hs
      · rw [hzz o ho hi hs]
        unfold i64
        omega
    have ni : ∀ o, o = 8 ∨ o = 11 ∨ o = 12 ∨ o = 13 → o ∉ iof (a.1 : Int) := fun o ho => by
      unfold iof
      rcases ho with rfl | rfl | rfl | rfl <;> (repeat' (split <;> try decide))
    exact ⟨get 8 (by decide) (ni 8 (by simp)), get 11 (by decide) (ni 11 (by simp)), get 12 (by decide) (ni 12 (by simp)), get 13 (by decide) (ni 13 (by simp))⟩
  · unfold encB
    rw [r2, Int.toNat_natCast]
    rw [List.drop_eq_nil_of_le hz.2, List.append_nil] at r5
    rw [← r5, ← u2, List.drop_zero]
end Go.Proofs.Ytjhncijdkmbopaa
/-! Plain laws of a record's bytes: cut anywhere; their length. Conditions: none. -/
set_option linter.unusedVariables false
set_option linter.unusedSimpArgs false
namespace Go.Proofs.Ytjhncijdkmbopaa
open Go Go.RowKit

theorem hi_all : ∀ (l : List UInt8) (j : Nat), hiRun l = l.length → j ≤ l.length → hiRun (l.take j) = j
  | [], j, _, h => by simp at h; subst h; rfl
  | c :: r, 0, _, _ => rfl
  | c :: r, j + 1, h, hj => by
    have hc : 128 ≤ c.toNat := by
      refine Decidable.by_contra fun hn => ?_
      rw [hiRun, if_neg hn] at h
      simp at h
    rw [hiRun, if_pos hc, List.length_cons] at h
    rw [List.take_succ_cons, hiRun, if_pos hc, hi_all r j (by omega) (by simpa using hj)]
theorem parse_pre {m j : Nat} (h : m < 18446744073709551616) (hj : j < (vform m).length) : parse ((vform m).take j) = (0, 0, 20) := by
  have hc := hiRun_cut m m (Nat.le_refl _)
  have hl := vform_len64 h
  have e : (vform m).take j = ((vform m).take ((vform m).length - 1)).take j := by rw [List.take_take, Nat.min_eq_left (by omega)]
  have hr : hiRun ((vform m).take j) = j := by
    rw [e]
    exact hi_all _ j (by rw [hc, List.length_take]; omega) (by rw [List.length_take]; omega)
  have hlen : ((vform m).take j).length = j := by rw [List.length_take]; omega
  unfold parse
  rw [if_neg (by omega), if_pos (by omega)]

/-- A reading of cut bytes beside that of all: the same so far, or short. -/
def CR {α : Type} (k : Nat) (s s' : α × (Nat × Nat)) : Prop := (s' = s ∧ s.2.1 ≤ k) ∨ s'.2.2 = 20
theorem rdU_cr {bs : List UInt8} {k M : Nat} {st st' : Nat × Nat} (h : (st' = st ∧ st.1 ≤ k) ∨ st'.2 = 20) (hz : (rdU bs st M).2.2 = 0) (hk : k ≤ bs.length) : CR k (rdU bs st M) (rdU (bs.take k) st' M) := by
  rcases h with ⟨rfl, hat⟩ | h
  · obtain ⟨h0, hd⟩ := rdU_one hz
    have hlt := rdU_lt bs st' M
    have hle := rdU_le bs st' M
    obtain ⟨at_, e⟩ := st'
    dsimp only at h0 hat hd
    subst h0
    generalize hu : rdU bs (at_, 0) M = u at *
    obtain ⟨v, at', e'⟩ := u
    dsimp only at hz hd hlt hle
    subst hz
    have hu2 := rdU_ok hlt hle hd
    rw [hu] at hu2
    have hat' : at' = at_ + (vform v).length := by
      have := congrArg (fun x => x.2.1) hu2
      exact this
    have hdk : (bs.take k).drop at_ = (vform v ++ bs.drop at').take (k - at_) := by rw [List.drop_take, hd]
    by_cases hc : (vform v).length ≤ k - at_
    · left
      have hd2 : (bs.take k).drop at_ = vform v ++ (bs.drop at').take (k - at_ - (vform v).length) := by rw [hdk, List.take_append, List.take_of_length_le hc]
      have := rdU_ok hlt hle hd2
      rw [this, hat']
      exact ⟨rfl, by dsimp only; omega⟩
    · right
      have hd2 : (bs.take k).drop at_ = (vform v).take (k - at_) := by rw [hdk, List.take_append_of_le_length (by omega)]
      unfold rdU
      rw [if_pos rfl]
      dsimp only
      rw [hd2, parse_pre hlt (by omega)]
      rfl
  · right
    rw [rdU_fault (by omega)]
    exact h
theorem CR.st {α : Type} {k : Nat} {s s' : α × (Nat × Nat)} (h : CR k s s') : (s'.2 = s.2 ∧ s.2.1 ≤ k) ∨ s'.2.2 = 20 := by
  rcases h with ⟨h, h'⟩ | h
  · exact .inl ⟨by rw [h], h'⟩
  · exact .inr h
theorem rdInts_cr {bs : List UInt8} {k M : Nat} (hk : k ≤ bs.length) : ∀ (l : List Nat) (s s' : RV × (Nat × Nat)), l.Nodup → (∀ o ∈ l, o ∈ plc) → CR k s s' → (rdInts bs M l s).2.2 = 0 → CR k (rdInts bs M l s) (rdInts (bs.take k) M l s')
  | [], s, s', _, _, h, _ => h
  | o :: l, s, s', hnd, hp, h, hz => by
    rw [rdInts] at hz ⊢
    rw [rdInts]
    have h1 := (rdInts_one l _ (List.nodup_cons.1 hnd).2 (fun q hq => hp q (List.mem_cons_of_mem _ hq)) hz).1
    refine rdInts_cr hk l _ _ (List.nodup_cons.1 hnd).2 (fun q hq => hp q (List.mem_cons_of_mem _ hq)) ?_ hz
    have hu := rdU_cr h.st h1 hk
    rcases h with ⟨rfl, hs⟩ | h
    · rcases hu with ⟨hu, hu'⟩ | hu
      · left
        rw [hu]
        exact ⟨rfl, hu'⟩
      · right
        exact hu
    · right
      dsimp only
      rw [rdU_fault (by omega)]
      exact h
theorem rdSgn_cr {bs : List UInt8} {k : Nat} (hk : k ≤ bs.length) : ∀ (l : List Nat) (s s' : RV × (Nat × Nat)), l.Nodup → (∀ o ∈ l, o ∈ plc) → CR k s s' → (rdSgn bs l s).2.2 = 0 → CR k (rdSgn bs l s) (rdSgn (bs.take k) l s')
  | [], s, s', _, _, h, _ => h
  | o :: l, s, s', hnd, hp, h, hz => by
    rw [rdSgn] at hz ⊢
    rw [rdSgn]
    have h1 := (rdSgn_one l _ (List.nodup_cons.1 hnd).2 (fun q hq => hp q (List.mem_cons_of_mem _ hq)) hz).1
    refine rdSgn_cr hk l _ _ (List.nodup_cons.1 hnd).2 (fun q hq => hp q (List.mem_cons_of_mem _ hq)) ?_ hz
    have hu := rdU_cr h.st h1 hk
    rcases h with ⟨rfl, hs⟩ | h
    · rcases hu with ⟨hu, hu'⟩ | hu
      · left
        rw [hu]
        exact ⟨rfl, hu'⟩
      · right
        exact hu
    · right
      dsimp only
      rw [rdU_fault (by omega)]
      exact h
theorem rdL1_cr {bs : List UInt8} {k : Nat} (hk : k ≤ bs.length) {st st' : Nat × Nat} (h : (st' = st ∧ st.1 ≤ k) ∨ st'.2 = 20) (hz : (rdL1 bs st).2.2 = 0) : CR k (rdL1 bs st) (rdL1 (bs.take k) st') := by
  unfold rdL1 at hz ⊢
  dsimp only at hz ⊢
  have z2 := (rdU_one hz).1
  have z1 := (rdU_one z2).1
  have c1 := rdU_cr h z1 hk
  have c2 := rdU_cr c1.st z2 hk
  have c3 := rdU_cr c2.st hz hk
  rcases c3 with ⟨e3, l3⟩ | c3
  · rcases c2 with ⟨e2, l2⟩ | c2
    · rcases c1 with ⟨e1, l1⟩ | c1
      · left
        rw [e3, e2, e1]
        exact ⟨rfl, l3⟩
      · right
        rw [rdU_fault (bs := bs.take k) (st := (rdU (bs.take k) st' 2147483647).2) (by omega)]
        dsimp only
        rw [rdU_fault (by omega)]
        exact c1
    · right
      rw [rdU_fault (bs := bs.take k) (st := (rdU (bs.take k) (rdU (bs.take k) st' 2147483647).2 2147483647).2) (by omega)]
      exact c2
  · exact .inr c3
theorem rdD1_cr {bs : List UInt8} {k : Nat} (hk : k ≤ bs.length) {st st' : Nat × Nat} (h : (st' = st ∧ st.1 ≤ k) ∨ st'.2 = 20) (hz : (rdD1 bs st).2.2 = 0) : CR k (rdD1 bs st) (rdD1 (bs.take k) st') := by
  unfold rdD1 at hz ⊢
  dsimp only at hz ⊢
  have z1 := (rdU_one hz).1
  have c1 := rdU_cr h z1 hk
  have c2 := rdU_cr c1.st hz hk
  rcases c2 with ⟨e2, l2⟩ | c2
  · rcases c1 with ⟨e1, l1⟩ | c1
    · left
      rw [e2, e1]
      exact ⟨rfl, l2⟩
    · right
      rw [rdU_fault (bs := bs.take k) (st := (rdU (bs.take k) st' 2147483647).2) (by omega)]
      exact c1
  · exact .inr c2
theorem rdLive_cr {bs : List UInt8} {k : Nat} (hk : k ≤ bs.length) : ∀ (n : Nat) (s s' : List LV × (Nat × Nat)), CR k s s' → (rdLive bs n s).2.2 = 0 → CR k (rdLive bs n s) (rdLive (bs.take k) n s')
  | 0, s, s', h, _ => h
  | n + 1, s, s', h, hz => by
    rw [rdLive] at hz ⊢
    rw [rdLive]
    have h1 := (rdLive_one n _ _ hz).1
    refine rdLive_cr hk n _ _ ?_ hz
    have hu := rdL1_cr hk h.st h1
    rcases h with ⟨rfl, hs⟩ | h
    · rcases hu with ⟨hu, hu'⟩ | hu
      · left
        rw [hu]
        exact ⟨rfl, hu'⟩
      · exact .inr hu
    · right
      dsimp only
      rw [rdL1_fault (by omega)]
      exact h
theorem rdDirty_cr {bs : List UInt8} {k : Nat} (hk : k ≤ bs.length) : ∀ (n : Nat) (s s' : List DV × (Nat × Nat)), CR k s s' → (rdDirty bs n s).2.2 = 0 → CR k (rdDirty bs n s) (rdDirty (bs.take k) n s')
  | 0, s, s', h, _ => h
  | n + 1, s, s', h, hz => by
    rw [rdDirty] at hz ⊢
    rw [rdDirty]
    have h1 := (rdDirty_one n _ _ hz).1
    refine rdDirty_cr hk n _ _ ?_ hz
    have hu := rdD1_cr hk h.st h1
    rcases h with ⟨rfl, hs⟩ | h
    · rcases hu with ⟨hu, hu'⟩ | hu
      · left
        rw [hu]
        exact ⟨rfl, hu'⟩
      · exact .inr hu
    · right
      dsimp only
      rw [rdD1_fault (by omega)]
      exact h
theorem rdCp_cr {bs : List UInt8} {k : Nat} (hk : k ≤ bs.length) {s s' : RV × (Nat × Nat)} (h : CR k s s') (hz : (rdCp bs s).2.2 = 0) : CR k (rdCp bs s) (rdCp (bs.take k) s') := by
  unfold rdCp at hz ⊢
  dsimp only at hz ⊢
  have z4 := (rdDirty_one _ _ _ hz).1
  have z3 := (rdU_one z4).1
  have z2 := (rdLive_one _ _ _ z3).1
  have c1 := rdU_cr h.st z2 hk
  rcases h with ⟨rfl, hs⟩ | h
  · rcases c1 with ⟨e1, l1⟩ | c1
    · rw [e1]
      have c2 : CR k (rdLive bs (rdU bs s'.2 32).1 (s'.1.live, (rdU bs s'.2 32).2)) (rdLive (bs.take k) (rdU bs s'.2 32).1 (s'.1.live, (rdU bs s'.2 32).2)) := rdLive_cr hk _ _ _ (.inl ⟨rfl, l1⟩) z3
      have c3 := rdU_cr c2.st z4 hk
      rcases c2 with ⟨e2, l2⟩ | c2
      · rw [e2] at c3 ⊢
        rcases c3 with ⟨e3, l3⟩ | c3
        · rw [e3]
          have c4 := rdDirty_cr hk _ _ _ (.inl ⟨rfl, l3⟩) hz
          rcases c4 with ⟨e4, l4⟩ | c4
          · left
            rw [e4]
            exact ⟨rfl, l4⟩
          · exact .inr c4
        · right
          rw [rdDirty_fault _ (by omega)]
          exact c3
      · right
        have f2 : (rdLive (bs.take k) (rdU bs s'.2 32).1 (s'.1.live, (rdU bs s'.2 32).2)).2.2 ≠ 0 := by omega
        rw [rdU_fault f2, rdDirty_fault _ f2]
        exact c2
    · right
      have f := rdLive_fault (bs := bs.take k) (rdU (bs.take k) s'.2 32).1 (L := s'.1.live) (st := (rdU (bs.take k) s'.2 32).2) (by omega)
      have f2 : (rdLive (bs.take k) (rdU (bs.take k) s'.2 32).1 (s'.1.live, (rdU (bs.take k) s'.2 32).2)).2.2 ≠ 0 := by rw [f]; omega
      rw [rdU_fault f2, rdDirty_fault _ f2, f]
      exact c1
  · right
    have f0 : rdU (bs.take k) s'.2 32 = (0, s'.2) := rdU_fault (by omega)
    rw [f0]
    have f2 : (rdLive (bs.take k) 0 (s'.1.live, s'.2)).2.2 ≠ 0 := by rw [rdLive]; dsimp only; omega
    rw [rdU_fault f2, rdDirty_fault _ f2, rdLive]
    exact h

theorem rdRec_cr {bs : List UInt8} {n : Nat} {k : Int} (hn : n ≤ bs.length) {st st' : Nat × Nat} (h : (st' = st ∧ st.1 ≤ n) ∨ st'.2 = 20) (hz : (rdRec bs k st).2.2 = 0) : CR n (rdRec bs k st) (rdRec (bs.take n) k st') := by
  unfold rdRec at hz ⊢
  have h0 : CR n (({ kind := k } : RV), st) (({ kind := k } : RV), st') := by
    rcases h with ⟨rfl, h⟩ | h
    · exact .inl ⟨rfl, h⟩
    · exact .inr h
  have tz : ∀ s : RV × (Nat × Nat), (rdTail bs s).2.2 = 0 → s.2.2 = 0 := fun s hs => by
    unfold rdTail at hs
    split at hs
    · unfold rdCp at hs
      dsimp only at hs
      exact (rdU_one (rdLive_one _ _ _ (rdU_one (rdDirty_one _ _ _ hs).1).1).1).1
    · exact hs
  have z2 := tz _ hz
  have z1 := (rdSgn_one (sof k) _ (sof_nodup k) (sof_plc k) z2).1
  have c1 := rdInts_cr hn (iof k) _ _ (iof_nodup k) (iof_plc k) h0 z1
  have c2 := rdSgn_cr hn (sof k) _ _ (sof_nodup k) (sof_plc k) c1 z2
  generalize rdSgn bs (sof k) (rdInts bs (mst k) (iof k) ({ kind := k }, st)) = A at *
  generalize rdSgn (bs.take n) (sof k) (rdInts (bs.take n) (mst k) (iof k) ({ kind := k }, st')) = B at *
  have kB : B.2.2 = 20 → (rdTail (bs.take n) B).2.2 = 20 := fun hb => by
    unfold rdTail
    split
    · unfold rdCp
      dsimp only
      have f0 : rdU (bs.take n) B.2 32 = (0, B.2) := rdU_fault (by omega)
      rw [f0]
      have f2 : (rdLive (bs.take n) 0 (B.1.live, B.2)).2.2 ≠ 0 := by rw [rdLive]; dsimp only; omega
      rw [rdU_fault f2, rdDirty_fault _ f2, rdLive]
      exact hb
    · exact hb
  rcases c2 with ⟨rfl, l2⟩ | c2
  · unfold rdTail at hz ⊢
    split
    · rename_i e8
      rw [if_pos e8] at hz
      exact rdCp_cr hn (.inl ⟨rfl, l2⟩) hz
    · exact .inl ⟨rfl, l2⟩
  · exact .inr (kB c2)

/-- Cut anywhere: short. -/
theorem dec_cut {r : RV} (hc : chkN r = 0) (h64 : r.w64) {n : Nat} (hn : n < (encB r).length) : decB ((encB r).take n) = ({}, 20) := by
  obtain ⟨h1, h8, hok⟩ := chk_kind hc
  have hd : (encB r).drop 0 = vform r.kind.toNat ++ ((iof r.kind).flatMap (intB r) ++ ((sof r.kind).flatMap (sgnB r) ++ (tailB r ++ []))) := by
    unfold encB
    simp only [List.drop_zero, List.append_assoc, List.append_nil]
  have u := rdU_ok (M := 18446744073709551615) (by omega) (by omega) hd
  have hk : ((r.kind.toNat : Nat) : Int) = r.kind := by omega
  have hrec := rdRec_ok hc h64 (drop_next hd)
  have hlen : (vform r.kind.toNat).length + ((iof r.kind).flatMap (intB r) ++ ((sof r.kind).flatMap (sgnB r) ++ tailB r)).length = (encB r).length := by
    unfold encB
    simp only [List.length_append]
  have hu : CR n (rdU (encB r) (0, 0) 18446744073709551615) (rdU ((encB r).take n) (0, 0) 18446744073709551615) := rdU_cr (.inl ⟨rfl, Nat.zero_le _⟩) (by rw [u]) (by omega)
  unfold decB
  dsimp only
  rcases hu with ⟨e1, l1⟩ | hu
  · rw [u] at e1 l1
    have hcr := rdRec_cr (k := r.kind) (n := n) (bs := encB r) (by omega) (.inl ⟨rfl, l1⟩) (by dsimp only; rw [hrec])
    dsimp only at hcr l1
    rw [hrec] at hcr
    rw [e1]
    dsimp only
    rw [if_neg (by omega), if_neg (by omega), hk]
    rcases hcr with ⟨_, l2⟩ | hcr
    · dsimp only at l2
      omega
    · generalize rdRec ((encB r).take n) r.kind (0 + (vform r.kind.toNat).length, 0) = x at *
      have e : endE ((encB r).take n) x.2 = 20 := by
        unfold endE
        rw [if_neg (by omega)]
        exact hcr
      rw [e, if_pos (by omega)]
  · rw [if_pos (by omega), hu]

theorem vlen_of {n k : Nat} (h : n < 128 ^ (k + 1)) : (vform n).length ≤ k + 1 := vform_len n k h
theorem flat_len_pos {α : Type} {f : α → List UInt8} (h : ∀ x, 0 < (f x).length) : ∀ (L : List α), L.length ≤ (L.flatMap f).length
  | [] => by simp
  | x :: r => by
    have := flat_len_pos h r
    have h1 := h x
    rw [List.flatMap_cons, List.length_append, List.length_cons]
    omega
/-- How long a record's bytes are. -/
theorem enc_len {r : RV} (hc : chkN r = 0) (h64 : r.w64) : 2 ≤ (encB r).length ∧ (encB r).length ≤ 502 := by
  obtain ⟨h1, h8, hok⟩ := chk_kind hc
  have hints := ok_ints hc
  have hsg := sgn_64 h64
  have hk := vlen_of (n := r.kind.toNat) (k := 0) (by omega)
  have hkp := vform_pos r.kind.toNat
  have hi := flat_len (f := intB r) (n := 5) (L := iof r.kind) fun o ho => vlen_of (k := 4) (by have := hints o ho; omega)
  have hip := flat_len_pos (f := intB r) (fun o => vform_pos _) (iof r.kind)
  have hs := flat_len (f := sgnB r) (n := 10) (L := sof r.kind) fun o ho => vform_len64 (zig_lt (hsg o ho).1 (hsg o ho).2)
  have hil : 1 ≤ (iof r.kind).length := by
    unfold iof
    repeat' (split <;> try decide)
  have hi7 := iof_len r.kind
  have hs3 := sof_len r.kind
  have ht : (tailB r).length ≤ 350 + 100 := by
    unfold tailB
    split
    · rename_i e8
      obtain ⟨hl, hd, hL, hD⟩ := ok_lists hc e8
      have a1 := vlen_of (n := r.live.length) (k := 0) (by omega)
      have a2 := vlen_of (n := r.dirty.length) (k := 0) (by omega)
      have a3 := flat_len (f := lvB) (n := 11) (L := r.live) fun x hx => by
        have hh := hL x hx
        have b1 := vlen_of (n := x.tx.toNat) (k := 4) (by omega)
        have b2 := vlen_of (n := x.last.toNat) (k := 4) (by omega)
        have b3 := vlen_of (n := stN x) (k := 0) (by unfold stN; split <;> (try split) <;> omega)
        unfold lvB
        simp only [List.length_append]
        omega
      have a4 := flat_len (f := dvB) (n := 6) (L := r.dirty) fun x hx => by
        have hh := hD x hx
        have b1 := vlen_of (n := x.page.toNat) (k := 0) (by omega)
        have b2 := vlen_of (n := x.since.toNat) (k := 4) (by omega)
        unfold dvB
        simp only [List.length_append]
        omega
      simp only [List.length_append]
      omega
    · simp
  have hI : (iof r.kind).length ≤ 1 ∨ tailB r = [] := by
    by_cases e8 : r.kind = 8
    · left
      unfold iof
      rw [if_neg (by omega), if_pos e8]
      simp
    · right
      unfold tailB
      rw [if_neg e8]
  have hS : sof r.kind = [] ∨ tailB r = [] := by
    by_cases e8 : r.kind = 8
    · left
      unfold sof
      rw [if_neg (by omega), if_neg (by omega)]
    · right
      unfold tailB
      rw [if_neg e8]
  unfold encB
  simp only [List.length_append]
  have hS' : (sof r.kind).length = 0 ∨ (tailB r).length = 0 := hS.imp (fun h => by rw [h]; rfl) (fun h => by rw [h]; rfl)
  have hI' : (iof r.kind).length ≤ 1 ∨ (tailB r).length = 0 := hI.imp id (fun h => by rw [h]; rfl)
  omega
end Go.Proofs.Ytjhncijdkmbopaa
