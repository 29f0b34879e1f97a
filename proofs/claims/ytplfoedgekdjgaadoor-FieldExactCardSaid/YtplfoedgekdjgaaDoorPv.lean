/- The plain law of the numbers' form: what is written is read, a cut form is short, what is read has one form. Conditions: none. -/
import Derived.Test.YtplfoedgekdjgaaDoorFd
set_option linter.unusedVariables false
set_option linter.unusedSimpArgs false
namespace Go.Proofs.YtplfoedgekdjgaaDoor
open Go Go.RowKit

theorem vform_small {m : Nat} (h : m < 128) : vform m = [UInt8.ofNat m] := by rw [vform, if_pos h]
theorem vform_big {m : Nat} (h : ¬ m < 128) : vform m = UInt8.ofNat (m % 128 + 128) :: vform (m / 128) := by rw [vform, if_neg h]
theorem ofNat_toNat {x : Nat} (h : x < 256) : (UInt8.ofNat x).toNat = x := by simp only [UInt8.toNat_ofNat']; omega

theorem hiRun_vform (rest : List UInt8) : ∀ n m, m ≤ n → hiRun (vform m ++ rest) + 1 = (vform m).length := by
  intro n
  induction n with
  | zero =>
    intro m hm
    have : m = 0 := by omega
    subst this
    rw [vform_small (by omega)]
    simp [hiRun]
  | succ n ih =>
    intro m hm
    by_cases h : m < 128
    · rw [vform_small h]
      have hx : (UInt8.ofNat m).toNat = m := ofNat_toNat (by omega)
      simp only [List.singleton_append, hiRun, hx, List.length_singleton]
      rw [if_neg (by omega)]
    · rw [vform_big h]
      have hx : (UInt8.ofNat (m % 128 + 128)).toNat = m % 128 + 128 := ofNat_toNat (by omega)
      simp only [List.cons_append, hiRun, hx, List.length_cons]
      rw [if_pos (by omega), ih (m / 128) (by omega)]

theorem gval_vform : ∀ n m, m ≤ n → gval (vform m) = m := by
  intro n
  induction n with
  | zero =>
    intro m hm
    have : m = 0 := by omega
    subst this
    rw [vform_small (by omega)]
    simp [gval]
  | succ n ih =>
    intro m hm
    by_cases h : m < 128
    · rw [vform_small h]
      have hx : (UInt8.ofNat m).toNat = m := ofNat_toNat (by omega)
      simp only [gval, hx]
      omega
    · rw [vform_big h]
      have hx : (UInt8.ofNat (m % 128 + 128)).toNat = m % 128 + 128 := ofNat_toNat (by omega)
      simp only [gval, hx]
      rw [ih (m / 128) (by omega)]
      omega

theorem last_vform (rest : List UInt8) : ∀ n m, m ≤ n → ((vform m ++ rest).getD ((vform m).length - 1) 0).toNat = m / 128 ^ ((vform m).length - 1) ∧ (1 < (vform m).length → 128 ^ ((vform m).length - 1) ≤ m) := by
  intro n
  induction n with
  | zero =>
    intro m hm
    have : m = 0 := by omega
    subst this
    rw [vform_small (by omega)]
    simp
  | succ n ih =>
    intro m hm
    by_cases h : m < 128
    · rw [vform_small h]
      have hx : (UInt8.ofNat m).toNat = m := ofNat_toNat (by omega)
      simp only [List.singleton_append, List.length_singleton, Nat.sub_self, List.getD_cons_zero, hx, Nat.pow_zero, Nat.div_one]
      exact ⟨trivial, fun h => by omega⟩
    · rw [vform_big h]
      obtain ⟨h1, h2⟩ := ih (m / 128) (by omega)
      have hp := vform_pos (m / 128)
      obtain ⟨j, hj⟩ : ∃ j, (vform (m / 128)).length = j + 1 := ⟨(vform (m / 128)).length - 1, by omega⟩
      simp only [List.cons_append, List.length_cons, hj, Nat.add_sub_cancel] at h1 h2 ⊢
      rw [List.getD_cons_succ, h1, Nat.div_div_eq_div_mul, Nat.pow_succ, Nat.mul_comm 128]
      refine ⟨rfl, fun _ => ?_⟩
      rcases Nat.eq_zero_or_pos j with h0 | h0
      · subst h0; omega
      · have := h2 (by omega)
        omega

theorem parse_vform {m : Nat} (h : m < 18446744073709551616) (rest : List UInt8) : parse (vform m ++ rest) = (m, (vform m).length, 0) := by
  have h1 := hiRun_vform rest m m (Nat.le_refl _)
  obtain ⟨h2, h3⟩ := last_vform rest m m (Nat.le_refl _)
  have h4 := vform_len64 h
  have hk : hiRun (vform m ++ rest) = (vform m).length - 1 := by omega
  have hp := vform_pos m
  unfold parse
  rw [if_neg (by omega), if_neg (by rw [List.length_append]; omega), hk, h2]
  rw [if_neg, show (vform m).length - 1 + 1 = (vform m).length by omega, List.take_left, gval_vform m m (Nat.le_refl _)]
  rintro (⟨h5, h6⟩ | ⟨h5, h6⟩)
  · have h7 := h3 (by omega)
    have := Nat.div_pos h7 (Nat.pow_pos (by omega))
    omega
  · rw [h5] at h6
    have : (128 : Nat) ^ 9 = 9223372036854775808 := by decide
    rw [this] at h6
    omega

theorem hiRun_cut : ∀ n m, m ≤ n → hiRun ((vform m).take ((vform m).length - 1)) = (vform m).length - 1 := by
  intro n
  induction n with
  | zero =>
    intro m hm
    have : m = 0 := by omega
    subst this
    rw [vform_small (by omega)]
    simp [hiRun]
  | succ n ih =>
    intro m hm
    by_cases h : m < 128
    · rw [vform_small h]
      simp [hiRun]
    · rw [vform_big h]
      have := ih (m / 128) (by omega)
      have hp := vform_pos (m / 128)
      obtain ⟨j, hj⟩ : ∃ j, (vform (m / 128)).length = j + 1 := ⟨(vform (m / 128)).length - 1, by omega⟩
      have hx : (UInt8.ofNat (m % 128 + 128)).toNat = m % 128 + 128 := ofNat_toNat (by omega)
      simp only [List.length_cons, hj, Nat.add_sub_cancel] at this ⊢
      rw [List.take_succ_cons]
      simp only [hiRun, hx]
      rw [if_pos (by omega), this]

theorem parse_short {m : Nat} (h : m < 18446744073709551616) : parse ((vform m).take ((vform m).length - 1)) = (0, 0, 20) := by
  have h1 := hiRun_cut m m (Nat.le_refl _)
  have h4 := vform_len64 h
  unfold parse
  rw [if_neg (by omega), if_pos (by rw [h1, List.length_take]; omega)]

theorem hiRun_low : ∀ (l : List UInt8), hiRun l < l.length → (l.getD (hiRun l) 0).toNat < 128
  | [], h => by simp at h
  | c :: r, h => by
    by_cases hc : 128 ≤ c.toNat
    · have e : hiRun (c :: r) = hiRun r + 1 := by simp only [hiRun, if_pos hc]
      rw [e] at h ⊢
      rw [List.getD_cons_succ]
      exact hiRun_low r (by simpa using h)
    · have e : hiRun (c :: r) = 0 := by simp only [hiRun, if_neg hc]
      rw [e, List.getD_cons_zero]
      omega

theorem gval_pos {l : List UInt8} (h : hiRun l < l.length) (h0 : (l.getD (hiRun l) 0).toNat ≠ 0) : 0 < gval (l.take (hiRun l + 1)) := by
  have h1 := hiRun_low l h
  rw [getD_get h] at h1 h0
  rw [take_snoc_get l _ h, gval_snoc]
  have : 0 < (l[hiRun l]).toNat % 128 * 128 ^ (l.take (hiRun l)).length := Nat.mul_pos (by omega) (Nat.pow_pos (by omega))
  omega

theorem one_form : ∀ (l : List UInt8), hiRun l < l.length → (0 < hiRun l → (l.getD (hiRun l) 0).toNat ≠ 0) → vform (gval (l.take (hiRun l + 1))) = l.take (hiRun l + 1)
  | [], h, _ => by simp at h
  | c :: r, h, h0 => by
    by_cases hc : 128 ≤ c.toNat
    · have e : hiRun (c :: r) = hiRun r + 1 := by simp only [hiRun, if_pos hc]
      rw [e] at h h0 ⊢
      rw [List.getD_cons_succ] at h0
      have hr : hiRun r < r.length := by simpa using h
      have hg := gval_pos hr (h0 (by omega))
      have ih := one_form r hr fun _ => h0 (by omega)
      have hb := u8_lt c
      rw [List.take_succ_cons, gval]
      rw [vform_big (by omega), show (c.toNat % 128 + 128 * gval (r.take (hiRun r + 1))) / 128 = gval (r.take (hiRun r + 1)) by omega, ih]
      congr 1
      apply UInt8.toNat.inj
      rw [ofNat_toNat (by omega)]
      omega
    · have e : hiRun (c :: r) = 0 := by simp only [hiRun, if_neg hc]
      rw [e]
      simp only [Nat.zero_add, List.take_succ_cons, List.take_zero, gval, Nat.mul_zero, Nat.add_zero]
      rw [vform_small (by omega)]
      congr 1
      apply UInt8.toNat.inj
      rw [ofNat_toNat (by omega)]
      omega

theorem parse_one {l : List UInt8} (h : (parse l).2.2 = 0) : vform (parse l).1 = l.take (parse l).2.1 := by
  have hle := hiRun_le l
  unfold parse at h ⊢
  split at h
  · cases h
  · split at h
    · cases h
    · split at h
      · cases h
      · rename_i h1 h2 h3
        rw [if_neg h1, if_neg h2, if_neg h3]
        simp only
        exact one_form l (by omega) fun hp hz => h3 (.inl ⟨hp, hz⟩)
end Go.Proofs.YtplfoedgekdjgaaDoor
