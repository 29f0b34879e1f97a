/- Contracts of the document's package for layer 2: numbers' forms and its reader. Conditions: lengths below 2^46. -/
import Derived.Test.YtplfoedgekdjgaaDoorPe
import Derived.Test.YtplfoedgekdjgaaDoorM2
set_option linter.unusedVariables false
set_option linter.unusedSimpArgs false
namespace Go.Proofs.YtplfoedgekdjgaaDoor
open Go Go.RowKit

theorem form_c {w : World} {n : Nat} {R : Ending → World → Prop} (hn : n < 18446744073709551616)
    (h : ∀ a c w', Sl w' T_uint8 1 a (vform n).length c (bvs (vform n)) → Kp no w w' → Fresh w a → R (.returned (.slice a (vform n).length c)) w') : GoC Tryd.prog F_ref02_Form #[.int .u64 (n : Int)] w R := by
  refine S_ref02_Form ?_
  unfold W_ref02_Form
  have h10 := vform_len64 hn
  refine loopN (fun s w1 => ∃ (m : Nat) (a : Option Addr) (c : Nat) (bs1 : List UInt8), s = ((m : Int), (a, bs1.length, c), ()) ∧ m < 18446744073709551616 ∧ Sl w1 T_uint8 1 a bs1.length c (bvs bs1) ∧ bs1 ++ vform m = vform n ∧ Kp no w w1 ∧ Fresh w a) (fun s _ => s.1.toNat)
    ⟨n, none, 0, [], rfl, hn, Sl.nil _ _ _, rfl, Kp.refl _ _, fun k hk => (not_is_none hk).elim⟩ ?_
  rintro s w1 ⟨m, a, c, bs1, rfl, hm, hs, he, k1, hf⟩ _
  dsimp only
  have hlen : bs1.length ≤ 10 := by
    have := congrArg List.length he
    simp only [List.length_append] at this
    omega
  have fin : ∀ (x : UInt8) (K : Option Addr → Nat → Nat → World → Prop), (∀ a' c' w', Sl w' T_uint8 1 a' (bs1 ++ [x]).length c' (bvs (bs1 ++ [x])) → Kp no w w' → Fresh w a' → K a' (bs1 ++ [x]).length c' w') →
      AlF w1 (.cells #[bv x] T_uint8) fun b w2 => RunF Tryd.prog (Builtin.append_ #[T_s_uint8, T_s_uint8] T_s_uint8 #[.slice a bs1.length c, .slice (some ⟨b, 0, none⟩) 1 1]) w2 fun r w3 => ∃ (a2 : Option Addr) (l2 c2 : Nat), r = .slice a2 l2 c2 ∧ K a2 l2 c2 w3 := by
    intro x K hK
    refine push_own er_u8 hs (v := bv x) rfl (by omega) (by omega) fun a' c' w' hs' k' hi' => ?_
    have hl : (bs1 ++ [x]).length = bs1.length + 1 := by simp
    have hh := hK a' c' w' (by rw [hl, bvs_app]; exact hs') (k1.trans k' (fun _ _ h => h) fun k hk hh => by have := hf k hh; omega) (fun k hk => by
      rcases hi' k hk with hh | hh
      · exact hf k hh
      · have := k1.size; omega)
    rw [hl] at hh
    exact hh
  refine cond_d (fun hge => ⟨by decide, ?_⟩) (fun hlt => ?_)
  · have hm128 : ¬ m < 128 := by omega
    have hv : Value.int .u8 (IntKind.wrap .u8 (IntKind.wrap .u8 (Int.tmod (m : Int) 128) + 128)) = bv (UInt8.ofNat (m % 128 + 128)) := by
      rw [Int.tmod_eq_emod_of_nonneg (by omega), wrap_u8 (x := (m : Int) % 128) (by omega) (by omega), wrap_u8 (by omega) (by omega)]
      unfold bv
      rw [ofNat_toNat (by omega)]
      congr 1
    rw [hv]
    refine fin _ _ fun a' c' w' hs' k' hf' => ⟨by decide, ?_⟩
    have hd : IntKind.wrap .u64 (Int.tdiv (m : Int) 128) = ((m / 128 : Nat) : Int) := by
      rw [Int.tdiv_eq_ediv_of_nonneg (by omega), wrap_u64 (by omega) (by omega)]
      omega
    rw [hd]
    refine ⟨⟨m / 128, a', c', _, rfl, by omega, hs', ?_, k', hf'⟩, by simp only [Int.toNat_natCast]; omega⟩
    rw [← he, vform_big hm128, List.append_assoc]
    rfl
  · have hm128 : m < 128 := by omega
    have hv : Value.int .u8 (IntKind.wrap .u8 (m : Int)) = bv (UInt8.ofNat m) := by
      rw [wrap_u8 (by omega) (by omega)]
      unfold bv
      rw [ofNat_toNat (by omega)]
    rw [hv]
    refine fin _ _ fun a' c' w' hs' k' hf' => ?_
    have e : bs1 ++ [UInt8.ofNat m] = vform n := by rw [← he, vform_small hm128]
    rw [e] at hs' ⊢
    exact h a' c' w' hs' k' hf'

theorem sign_c {w : World} {i : Int} {R : Ending → World → Prop} (h0 : -9223372036854775808 ≤ i) (h1 : i ≤ 9223372036854775807)
    (h : R (.returned (.int .u64 (zig i : Int))) w) : GoC Tryd.prog F_ref02_Sign #[.int .i64 i] w R := by
  refine S_ref02_Sign ?_
  unfold W_ref02_Sign
  refine cond_d (fun hg => ?_) (fun hg => ?_)
  · have e : IntKind.wrap .u64 (2 * IntKind.wrap .u64 i) = (zig i : Int) := by
      rw [wrap_u64 (x := i) (by omega) (by omega), wrap_u64 (by omega) (by omega)]
      unfold zig
      rw [if_pos (by omega)]
      omega
    rw [e]
    exact h
  · have e : IntKind.wrap .u64 (IntKind.wrap .u64 (2 * IntKind.wrap .u64 (IntKind.wrap .i64 (0 - IntKind.wrap .i64 (i + 1)))) + 1) = (zig i : Int) := by
      rw [wrap_i64 (x := i + 1) (by omega) (by omega), wrap_i64 (by omega) (by omega), wrap_u64 (x := 0 - (i + 1)) (by omega) (by omega), wrap_u64 (x := 2 * (0 - (i + 1))) (by omega) (by omega), wrap_u64 (by omega) (by omega)]
      unfold zig
      rw [if_neg (by omega)]
      omega
    rw [e]
    exact h

theorem unsign_c {w : World} {n : Nat} {R : Ending → World → Prop} (hn : n < 18446744073709551616)
    (h : R (.returned (.int .i64 (unzig n))) w) : GoC Tryd.prog F_ref02_Unsign #[.int .u64 (n : Int)] w R := by
  refine S_ref02_Unsign ?_
  unfold W_ref02_Unsign
  have ed : IntKind.wrap .u64 (Int.tdiv (n : Int) 2) = ((n / 2 : Nat) : Int) := by
    rw [Int.tdiv_eq_ediv_of_nonneg (by omega), wrap_u64 (by omega) (by omega)]
    omega
  have em : Int.tmod (n : Int) 2 = ((n % 2 : Nat) : Int) := by
    rw [Int.tmod_eq_emod_of_nonneg (by omega)]
    omega
  rw [ed, em, wrap_i64 (x := ((n / 2 : Nat) : Int)) (by omega) (by omega), wrap_i64 (x := 0 - ((n / 2 : Nat) : Int)) (by omega) (by omega), wrap_i64 (by omega) (by omega)]
  refine ⟨by decide, cond_eq (fun hz => ⟨by decide, ?_⟩) (fun hz => ⟨by decide, ?_⟩)⟩
  · have e : unzig n = ((n / 2 : Nat) : Int) := by unfold unzig; rw [if_pos (by omega)]
    rw [e] at h
    exact h
  · have e : unzig n = 0 - ((n / 2 : Nat) : Int) - 1 := by unfold unzig; rw [if_neg (by omega)]; omega
    rw [e] at h
    exact h

/-- The document's reader at block B. -/
structure Rf (w : World) (B : Nat) (g : Option Addr) (bs : List UInt8) (at_ e : Nat) : Prop where
  ex : ∃ c, Blk w B #[.slice g bs.length c, .int .i64 (at_ : Int), .int .i64 (e : Int)] T_quotaref02_Reader ∧ Sl w T_uint8 1 g bs.length c (bvs bs)
  ap : ¬ Is g B
  le : at_ ≤ bs.length

theorem Rf.kp {S : Nat → Prop} {w w' : World} {B : Nat} {g : Option Addr} {bs : List UInt8} {a e : Nat} (h : Rf w B g bs a e) (k : Kp S w w') (hn : ∀ b, fpW B g b → ¬ S b) : Rf w' B g bs a e := by
  obtain ⟨⟨c, h1, h2⟩, h3, h4⟩ := h
  exact ⟨⟨c, k.blk h1 (hn _ (.inl rfl)), h2.kp k fun b hb => hn b (.inr hb)⟩, h3, h4⟩
theorem Rf.kp0 {w w' : World} {B : Nat} {g : Option Addr} {bs : List UInt8} {a e : Nat} (h : Rf w B g bs a e) (k : Kp no w w') : Rf w' B g bs a e := h.kp k fun _ _ h => h.elim
theorem Rf.lt {w : World} {B : Nat} {g : Option Addr} {bs : List UInt8} {a e : Nat} (h : Rf w B g bs a e) : ∀ k, fpW B g k → k < w.heap.size := by
  obtain ⟨⟨c, h1, h2⟩, h3, _⟩ := h
  rintro k (rfl | hk)
  · exact h1.lt
  · exact h2.lt k hk

theorem refNewReader_c {a : Option Addr} {l c : Nat} {bs : List UInt8} {w : World} {R : Ending → World → Prop} (hr : Rd w a (bvs bs)) (hl : bs.length = l) (h0 : a = none → l = 0) (hb : l ≤ 70368744177664)
    (h : ∀ B g w', Rf w' B g bs 0 0 → Kp no w w' → w.heap.size ≤ B → Fresh w g → R (.returned (.pointer (some ⟨B, 0, none⟩))) w') : GoC Tryd.prog F_ref02_NewReader #[.slice a l c] w R := by
  subst hl
  refine S_ref02_NewReader ?_
  unfold W_ref02_NewReader
  refine append_new er_u8 hr (by rw [bvs_len]; omega) h0 bvs_one (by omega) (by omega) fun a' c' w1 hs k1 hf _ => ⟨a', _, c', rfl, ?_⟩
  refine AlF.intro fun B w2 hB hblk k2 _ => h B a' w2 ⟨⟨c', hblk, hs.kp0 k2⟩, fun hh => ?_, Nat.zero_le _⟩ (k1.trans0 k2) (by have := k1.size; omega) hf
  have := hs.lt B hh
  omega

theorem gval_drop_le : ∀ (k : Nat) (l : List UInt8), gval (l.drop k) ≤ gval l
  | 0, l => Nat.le_refl _
  | k + 1, [] => by simp
  | k + 1, c :: r => by
    have := gval_drop_le k r
    rw [List.drop_succ_cons, gval]
    omega

theorem stands_c {w : World} {B : Nat} {g : Option Addr} {bs : List UInt8} {at_ e : Nat} {R : Ending → World → Prop} (hr : Rf w B g bs at_ e) (hb : bs.length < 70368744177664)
    (h : ∀ w', Kp no w w' → R (.returned (.tuple #[.int .u64 ((parse (bs.drop at_)).1 : Int), .int .i64 ((parse (bs.drop at_)).2.1 : Int), .int .i64 ((parse (bs.drop at_)).2.2 : Int)])) w') :
    GoC Tryd.prog F_ref02_Reader_stands #[.pointer (some ⟨B, 0, none⟩)] w R := by
  refine S_ref02_Reader_stands ?_
  unfold W_ref02_Reader_stands
  obtain ⟨⟨c, h1, h2⟩, h3, h4⟩ := hr
  refine ⟨g, bs.length, c, by rw [h1.cell]; rfl, ?_⟩
  refine ⟨(at_ : Int), by rw [add_at, h1.cell]; rfl, trivial, ⟨by omega, by simp only [hiOf]; omega⟩, fun k1 => ?_⟩
  rw [Int.toNat_natCast]
  have hrd : Rd (w.drewN k1) (subA g c at_ 1) (bvs (bs.drop at_)) := rd_drop (h2.kp0 (Kp.drew w k1)).rd h2.2.1
  have hlen : bs.length - at_ = (bs.drop at_).length := by simp
  rw [hlen]
  have hrl : (bs.drop at_).length < 70368744177664 := by omega
  have hplt := parse_lt (bs.drop at_)
  generalize bs.drop at_ = rest at *
  have h' := fun hk => h (w.drewN k1) hk
  have k1' : Kp no w (w.drewN k1) := Kp.drew w k1
  have hhl := hiRun_le rest
  refine ⟨fun s w2 => w2 = w.drewN k1 ∧ ∃ k : Nat, s.1 = (k : Int) ∧ k ≤ rest.length ∧ k ≤ 10 ∧ k ≤ hiRun rest ∧ (k = 10 ∨ k = hiRun rest), ?_, ?_⟩
  · refine loopN (fun s w1 => w1 = w.drewN k1 ∧ ∃ k : Nat, s.1 = (k : Int) ∧ k ≤ rest.length ∧ k ≤ 10 ∧ k ≤ hiRun rest) (fun s _ => rest.length - s.1.toNat) ⟨rfl, 0, rfl, Nat.zero_le _, by omega, Nat.zero_le _⟩ ?_
    rintro ⟨kk, u⟩ w1 ⟨hw1, k, hk, hkl, hk10, hhi⟩ _
    dsimp only at hk ⊢
    subst hk
    rw [hw1]
    refine cond_d (fun hlt => cond_d (fun hlt10 => ?_) fun hge => ⟨rfl, k, rfl, hkl, hk10, hhi, by omega⟩) fun hge => ⟨rfl, k, rfl, hkl, hk10, hhi, by omega⟩
    have hkl' : k < rest.length := by omega
    refine hrd.idx (by omega) (by omega) (by rw [bvs_len]; omega) fun b o hg hc => ?_
    refine ⟨((rest[k]).toNat : Int), by rw [Int.toNat_natCast, add_at]; exact hc k _ (bvs_get hkl'), ?_⟩
    have hst := hi_step rest k hhi hkl'
    have hwk : IntKind.wrap .i64 ((k : Int) + 1) = ((k + 1 : Nat) : Int) := by rw [wrap_i64 (by omega) (by omega)]; omega
    rw [hwk]
    refine cond_d (fun hc128 => ?_) (fun hc128 => ?_)
    · exact ⟨⟨rfl, k + 1, rfl, by omega, by omega, hst.1 (by omega)⟩, by simp only [Int.toNat_natCast]; omega⟩
    · exact ⟨rfl, k, rfl, hkl, hk10, hhi, .inr (hst.2 (by omega)).symm⟩
  rintro ⟨kk, u⟩ w2 ⟨hw2, k, hk, hkl, hk10, hhi, hend⟩ _
  dsimp only at hk ⊢
  subst hk
  rw [hw2]
  refine cond_eq (fun h10 => ?_) (fun h10 => ?_)
  · rw [parse_form (l := rest) (by omega)] at h
    exact h _ k1'
  have hk9 : k ≤ 9 := by omega
  have hrun : hiRun rest = k := by omega
  have hnl : ¬ (10 ≤ hiRun rest) := by omega
  refine cond_eq (fun hkl2 => ?_) (fun hkl2 => ?_)
  · have hp : parse rest = (0, 0, 20) := by
      unfold parse
      rw [if_neg hnl, if_pos (by omega)]
    rw [hp] at h
    exact h _ k1'
  have hkl' : k < rest.length := by omega
  have hnl2 : ¬ (hiRun rest = rest.length) := by omega
  refine ⟨fun s w3 => w3 = w.drewN k1 ∧ s.1 = decide ((0 < k ∧ (rest[k]).toNat = 0) ∨ (k = 9 ∧ 1 < (rest[k]).toNat)), ?_, ?_⟩
  · have rdk : ∀ {K : Addr → Prop}, (∀ b o, subA g c at_ 1 = some ⟨b, o, none⟩ → (w.drewN k1).cell? ⟨b, o + k, none⟩ = some (bv rest[k]) → K ⟨b, o, none⟩) → IdxF (subA g c at_ 1) (k : Int) rest.length K :=
      fun hK => hrd.idx (by omega) (by omega) (by rw [bvs_len]; omega) fun b o hg hc => hK b o hg (hc k _ (bvs_get hkl'))
    refine cond_d (fun h0 => ?_) (fun h0 => ?_)
    · refine rdk fun b o hg hc => ⟨((rest[k]).toNat : Int), by rw [Int.toNat_natCast, add_at]; exact hc, ?_⟩
      refine cond_eq (fun hz => ⟨rfl, ?_⟩) (fun hz => ?_)
      · exact (decide_eq_true (.inl ⟨by omega, by omega⟩)).symm
      · refine cond_eq (fun h9 => ?_) (fun h9 => ⟨rfl, (decide_eq_false (by omega)).symm⟩)
        refine rdk fun b o hg hc => ⟨((rest[k]).toNat : Int), by rw [Int.toNat_natCast, add_at]; exact hc, rfl, ?_⟩
        exact decide_eq_decide.2 (by omega)
    · refine cond_eq (fun h9 => ?_) (fun h9 => ⟨rfl, (decide_eq_false (by omega)).symm⟩)
      refine rdk fun b o hg hc => ⟨((rest[k]).toNat : Int), by rw [Int.toNat_natCast, add_at]; exact hc, rfl, ?_⟩
      exact decide_eq_decide.2 (by omega)
  rintro ⟨b10, u10⟩ w3 ⟨hw3, hb10⟩ _
  dsimp only at hb10
  rw [hw3, hb10]
  refine cond_d (fun hyes => ?_) (fun hno => ?_)
  · have hp : parse rest = (0, 0, 22) := by
      unfold parse
      rw [if_neg hnl, if_neg hnl2, hrun, getD_get hkl', if_pos hyes]
    rw [hp] at h
    exact h _ k1'
  have hp : parse rest = (gval (rest.take (k + 1)), k + 1, 0) := by
    unfold parse
    rw [if_neg hnl, if_neg hnl2, hrun, getD_get hkl', if_neg hno]
  have hwk : IntKind.wrap .i64 ((k : Int) + 1) = ((k + 1 : Nat) : Int) := by rw [wrap_i64 (by omega) (by omega)]; omega
  rw [hp] at h hplt
  dsimp only at hplt
  rw [hwk]
  have hL : (rest.take (k + 1)).length = k + 1 := by rw [List.length_take]; omega
  refine loopN (fun s w4 => w4 = w.drewN k1 ∧ ∃ j : Nat, j ≤ k + 1 ∧ s.2.1 = (j : Int) - 1 ∧ s.1 = (gval ((rest.take (k + 1)).drop j) : Int)) (fun s _ => (s.2.1 + 1).toNat)
    ⟨rfl, k + 1, Nat.le_refl _, by dsimp only; omega, by dsimp only; rw [List.drop_eq_nil_of_le (by omega)]; rfl⟩ ?_
  rintro ⟨x0, j0, u⟩ w4 ⟨hw4, j, hj, hj0, hx0⟩ _
  dsimp only at hj0 hx0 ⊢
  subst hj0 hx0
  rw [hw4]
  refine cond_d (fun hge => ?_) (fun hlt => ?_)
  · obtain ⟨i, rfl⟩ : ∃ i, j = i + 1 := ⟨j - 1, by omega⟩
    have hil : i < rest.length := by omega
    have hij : (((i + 1 : Nat) : Int) - 1) = (i : Int) := by omega
    rw [hij]
    refine hrd.idx (by omega) (by omega) (by rw [bvs_len]; omega) fun b o hg hc => ?_
    refine ⟨((rest[i]).toNat : Int), by rw [Int.toNat_natCast, add_at]; exact hc i _ (bvs_get hil), by decide, ?_⟩
    have hcell : (rest.take (k + 1))[i]'(by omega) = rest[i] := List.getElem_take
    have hd : (rest.take (k + 1)).drop i = rest[i] :: (rest.take (k + 1)).drop (i + 1) := by rw [List.drop_eq_getElem_cons (by omega), hcell]
    have hg1 : gval ((rest.take (k + 1)).drop i) = (rest[i]).toNat % 128 + 128 * gval ((rest.take (k + 1)).drop (i + 1)) := by rw [hd, gval]
    have hg2 := gval_drop_le i (rest.take (k + 1))
    have hx := u8_lt rest[i]
    refine ⟨⟨rfl, i, by omega, ?_, ?_⟩, ?_⟩
    · rw [wrap_i64 (by omega) (by omega)]
    · generalize gval ((rest.take (k + 1)).drop (i + 1)) = y at *
      rw [hg1, Int.tmod_eq_emod_of_nonneg (by omega), wrap_u64 (x := (y : Int) * 128) (by omega) (by omega), wrap_u64 (x := ((rest[i]).toNat : Int) % 128) (by omega) (by omega), wrap_u64 (by omega) (by omega)]
      omega
    · rw [wrap_i64 (by omega) (by omega)]
      omega
  · have hj0 : j = 0 := by omega
    subst hj0
    rw [List.drop_zero]
    exact h _ k1'
end Go.Proofs.YtplfoedgekdjgaaDoor
