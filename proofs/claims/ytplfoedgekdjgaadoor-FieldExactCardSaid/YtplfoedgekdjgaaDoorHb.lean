/- Contracts of the document's package for layer 2: the reader's calls. Conditions: lengths below 2^46. -/
import Derived.Test.YtplfoedgekdjgaaDoorHa
set_option linter.unusedVariables false
set_option linter.unusedSimpArgs false
namespace Go.Proofs.YtplfoedgekdjgaaDoor
open Go Go.RowKit

theorem Rf.set {w : World} {B : Nat} {g : Option Addr} {bs : List UInt8} {a e : Nat} (h : Rf w B g bs a e) {i : Nat} {v : Value} {a' e' : Nat} (hi : i = 1 ∨ i = 2)
    (hv : ∀ c, (#[.slice g bs.length c, .int .i64 (a : Int), .int .i64 (e : Int)] : Array Value).setIfInBounds i v = #[.slice g bs.length c, .int .i64 (a' : Int), .int .i64 (e' : Int)]) (ha : a' ≤ bs.length) {K : World → Prop}
    (hk : ∀ w', Rf w' B g bs a' e' → Kp (fun k => k = B) w w' → K w') : StF w (Addr.add ⟨B, 0, none⟩ i) v K := by
  obtain ⟨⟨c, h1, h2⟩, h3, h4⟩ := h
  rw [add_at]
  refine StF.intro h1 (by rcases hi with rfl | rfl <;> simp) fun w' hb k1 _ => hk w' ⟨⟨c, ?_, h2.kp k1 fun b hib hbB => ?_⟩, h3, ha⟩ k1
  · rw [Nat.zero_add, hv c] at hb; exact hb
  · subst hbB; exact h3 hib
theorem Rf.slice {w : World} {B : Nat} {g : Option Addr} {bs : List UInt8} {a e : Nat} (h : Rf w B g bs a e) : ∃ c, w.cell? ⟨B, 0, none⟩ = some (.slice g bs.length c) := by
  obtain ⟨⟨c, h1, h2⟩, h3, h4⟩ := h
  exact ⟨c, by rw [h1.cell]; rfl⟩
theorem Rf.cat {w : World} {B : Nat} {g : Option Addr} {bs : List UInt8} {a e : Nat} (h : Rf w B g bs a e) : w.cell? (Addr.add ⟨B, 0, none⟩ 1) = some (.int .i64 (a : Int)) := by
  obtain ⟨⟨c, h1, h2⟩, h3, h4⟩ := h
  rw [add_at, h1.cell]; rfl
theorem Rf.cerr {w : World} {B : Nat} {g : Option Addr} {bs : List UInt8} {a e : Nat} (h : Rf w B g bs a e) : w.cell? (Addr.add ⟨B, 0, none⟩ 2) = some (.int .i64 (e : Int)) := by
  obtain ⟨⟨c, h1, h2⟩, h3, h4⟩ := h
  rw [add_at, h1.cell]; rfl

theorem ref_U {w : World} {B : Nat} {g : Option Addr} {bs : List UInt8} {st : Nat × Nat} {m : Nat} {R : Ending → World → Prop} (hr : Rf w B g bs st.1 st.2) (hb : bs.length < 70368744177664)
    (h : ∀ w', Rf w' B g bs (rdU bs st m).2.1 (rdU bs st m).2.2 → Kp (fun k => k = B) w w' → R (.returned (.int .u64 ((rdU bs st m).1 : Int))) w') :
    GoC Tryd.prog F_ref02_Reader_U #[.pointer (some ⟨B, 0, none⟩), .int .u64 (m : Int)] w R := by
  obtain ⟨at_, e⟩ := st
  dsimp only at hr
  refine S_ref02_Reader_U ?_
  unfold W_ref02_Reader_U
  refine ⟨_, hr.cerr, cond_ne (fun he => ?_) (fun he => ?_)⟩
  · have hu : rdU bs (at_, e) m = (0, (at_, e)) := by unfold rdU; rw [if_neg]; simp only; omega
    rw [hu] at h
    exact h w hr (Kp.refl _ _)
  · have he0 : e = 0 := by omega
    subst he0
    refine stands_c hr hb fun w1 k1 => ⟨_, _, _, rfl, ?_⟩
    have hr1 := hr.kp0 k1
    have hsz := parse_size (bs.drop at_)
    have hsz' : (parse (bs.drop at_)).2.1 ≤ bs.length - at_ := by simpa using hsz
    have hat := hr.le
    have hpe := parse_err (bs.drop at_)
    have hkp : ∀ w2, Kp (fun k => k = B) w1 w2 → Kp (fun k => k = B) w w2 := fun w2 k2 => k1.trans k2 (fun k _ h => h.elim) (fun k _ h => h)
    have hwrap : IntKind.wrap .i64 ((at_ : Int) + ((parse (bs.drop at_)).2.1 : Int)) = ((at_ + (parse (bs.drop at_)).2.1 : Nat) : Int) := by rw [wrap_i64 (by omega) (by omega)]; omega
    -- the three ends
    have ok : (parse (bs.drop at_)).2.2 = 0 → ¬ m < (parse (bs.drop at_)).1 → NilF (some ⟨B, 0, none⟩) fun d6 => ∃ n7 : Int, w1.cell? (Addr.add d6 1) = some (.int .i64 n7) ∧
        NilF (some ⟨B, 0, none⟩) fun d7 => StF w1 (Addr.add d7 1) (.int .i64 (IntKind.wrap .i64 (n7 + ((parse (bs.drop at_)).2.1 : Int)))) fun w5 => R (.returned (.int .u64 ((parse (bs.drop at_)).1 : Int))) w5 := by
      intro hp hm
      have hu : rdU bs (at_, 0) m = ((parse (bs.drop at_)).1, (at_ + (parse (bs.drop at_)).2.1, 0)) := by unfold rdU; rw [if_pos rfl, if_pos hp, if_neg hm]
      rw [hu] at h
      refine ⟨_, hr1.cat, hr1.set (.inl rfl) (fun c => by rw [hwrap]; rfl) (by dsimp only; omega) fun w2 hr2 k2 => h w2 hr2 (hkp _ k2)⟩
    have bad : ∀ (e' : Nat), rdU bs (at_, 0) m = (0, (at_, e')) → StF w1 (Addr.add ⟨B, 0, none⟩ 2) (.int .i64 (e' : Int)) fun w4 => R (.returned (.int .u64 0)) w4 := by
      intro e' hu
      rw [hu] at h
      exact hr1.set (.inr rfl) (fun c => rfl) hat fun w2 hr2 k2 => h w2 hr2 (hkp _ k2)
    refine cond_eq (fun hp => ?_) (fun hp => ?_)
    · have hp0 : (parse (bs.drop at_)).2.2 = 0 := by omega
      refine cond_d (fun hgt => ?_) (fun hle => ?_)
      · have hgt' : m < (parse (bs.drop at_)).1 := by omega
        have := bad 23 (by unfold rdU; rw [if_pos rfl, if_pos hp0, if_pos hgt'])
        exact cond_t (by decide) this
      · refine cond_ne (fun hh => absurd hp hh) (fun _ => ok hp0 (by omega))
    · have hp0 : (parse (bs.drop at_)).2.2 ≠ 0 := by omega
      refine cond_ne (fun _ => ?_) (fun hh => absurd hh hp)
      exact bad _ (by unfold rdU; rw [if_pos rfl, if_neg hp0])

theorem ref_S {w : World} {B : Nat} {g : Option Addr} {bs : List UInt8} {st : Nat × Nat} {R : Ending → World → Prop} (hr : Rf w B g bs st.1 st.2) (hb : bs.length < 70368744177664)
    (h : ∀ w', Rf w' B g bs (rdU bs st 18446744073709551615).2.1 (rdU bs st 18446744073709551615).2.2 → Kp (fun k => k = B) w w' → R (.returned (.int .i64 (unzig (rdU bs st 18446744073709551615).1))) w') :
    GoC Tryd.prog F_ref02_Reader_S #[.pointer (some ⟨B, 0, none⟩)] w R := by
  refine S_ref02_Reader_S ?_
  unfold W_ref02_Reader_S
  refine ref_U (m := 18446744073709551615) hr hb fun w' hr' k' => ⟨_, rfl, ?_⟩
  exact unsign_c (rdU_lt _ _ _) ⟨_, rfl, h w' hr' k'⟩

theorem ref_End {w : World} {B : Nat} {g : Option Addr} {bs : List UInt8} {st : Nat × Nat} {R : Ending → World → Prop} (hr : Rf w B g bs st.1 st.2)
    (h : ∀ w', Rf w' B g bs st.1 (if st.2 = 0 ∧ st.1 < bs.length then 21 else st.2) → Kp (fun k => k = B) w w' → R (.returned (.tuple #[])) w') :
    GoC Tryd.prog F_ref02_Reader_End #[.pointer (some ⟨B, 0, none⟩)] w R := by
  obtain ⟨at_, e⟩ := st
  dsimp only at hr h
  refine S_ref02_Reader_End ?_
  unfold W_ref02_Reader_End
  refine ⟨_, hr.cerr, cond_eq (fun he => ?_) (fun he => fun k1 => ?_)⟩
  · obtain ⟨c, hs⟩ := hr.slice
    refine ⟨_, hr.cat, g, bs.length, c, hs, fun k1 => cond_d (fun hlt => ?_) (fun hge => ?_)⟩
    · have hr1 := hr.kp0 (Kp.drew w k1)
      rw [if_pos ⟨by omega, by omega⟩] at h
      exact hr1.set (.inr rfl) (fun c => rfl) hr.le fun w2 hr2 k2 => h w2 hr2 ((Kp.drew w k1).trans k2 (fun k _ h => h.elim) (fun k _ h => h))
    · rw [if_neg (by omega)] at h
      exact h _ (hr.kp0 (Kp.drew w k1)) (Kp.drew w k1).of_no
  · rw [if_neg (by omega)] at h
    exact h _ (hr.kp0 (Kp.drew w k1)) (Kp.drew w k1).of_no

theorem ref_Fault {w : World} {B : Nat} {g : Option Addr} {bs : List UInt8} {st : Nat × Nat} {R : Ending → World → Prop} (hr : Rf w B g bs st.1 st.2)
    (h : ∀ w', Kp no w w' → R (.returned (.tuple #[.int .i64 ((if st.2 = 0 then 0 else st.1 : Nat) : Int), .int .i64 (st.2 : Int)])) w') :
    GoC Tryd.prog F_ref02_Reader_Fault #[.pointer (some ⟨B, 0, none⟩)] w R := by
  obtain ⟨at_, e⟩ := st
  dsimp only at hr h
  refine S_ref02_Reader_Fault ?_
  unfold W_ref02_Reader_Fault
  refine ⟨_, hr.cerr, cond_eq (fun he => ?_) (fun he => ?_)⟩
  · have he0 : e = 0 := by omega
    subst he0
    exact h w (Kp.refl _ _)
  · refine ⟨_, hr.cat, _, hr.cerr, fun k1 => ?_⟩
    rw [if_neg (by omega)] at h
    exact h _ (Kp.drew w k1)
end Go.Proofs.YtplfoedgekdjgaaDoor
