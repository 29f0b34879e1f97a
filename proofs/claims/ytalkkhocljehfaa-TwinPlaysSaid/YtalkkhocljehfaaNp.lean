/- Plain: the sectors behind writes and a sync; what a disk that gives up leaves. Conditions: none. -/
import Derived.Test.YtalkkhocljehfaaNb
set_option linter.unusedVariables false
set_option linter.unusedSimpArgs false
namespace Go.Proofs.Ytalkkhocljehfaa
open Go Go.RowKit

theorem putL_n : ∀ (l : List (List UInt8)) {v : Dv} (i : Int), v.Ok → (putL v i l).2.n = v.n
  | [], v, i, h => by
    show v.sync.2.n = v.n
    unfold Dv.sync
    split
    · rfl
    split
    · exact Dv.n_of (fallL_len _ _ _ v.n v.q 0 v.img h.len h.q)
    · exact Dv.n_of (syncL_len v.n v.q v.img h.len h.q)
  | b :: r, v, i, h => by
    have hw : (v.write i b).2.n = v.n := by
      unfold Dv.write
      split
      · rfl
      split
      · rfl
      rename_i hi
      split
      · rfl
      rename_i hb
      split
      · have ha := h.bump.add (i := i) (b := b) (Decidable.not_not.1 hi) (Decidable.not_not.1 hb)
        exact Dv.n_of (fallL_len _ _ _ v.n _ 0 v.img h.len ha.q)
      · rfl
    rw [putL]
    split
    · exact hw
    · rw [putL_n r _ (h.write i b), hw]
/-- The sectors behind a write. -/
theorem sect_len {v : Dv} (hok : v.Ok) {i : Nat} (hi : i < v.n) : (v.sect i).length = 512 := by
  have := hok.len
  unfold Dv.sect
  rw [List.length_take, List.length_drop]
  have : (i + 1) * 512 ≤ v.n * 512 := Nat.mul_le_mul_right _ hi
  omega
theorem sect_ovr {img b : List UInt8} {n i j : Nat} (hl : img.length = n * 512) (hi : i < n) (hb : b.length ≤ 512) :
    ((ovr img (i * 512) b).drop (j * 512)).take 512 = if j = i then b ++ ((img.drop (i * 512)).take 512).drop b.length else (img.drop (j * 512)).take 512 := by
  have h1 : (i + 1) * 512 ≤ n * 512 := Nat.mul_le_mul_right _ hi
  apply List.ext_getElem?
  intro k
  rw [List.getElem?_take]
  by_cases hk : k < 512
  · rw [if_pos hk, List.getElem?_drop, ovr_get (by omega)]
    by_cases hj : j = i
    · subst hj
      rw [if_pos rfl]
      by_cases h2 : k < b.length
      · rw [if_pos (by omega), List.getElem?_append_left h2]
        congr 1
        omega
      · rw [if_neg (by omega), List.getElem?_append_right (by omega), List.getElem?_drop, List.getElem?_take, if_pos (by omega), List.getElem?_drop]
        congr 1
        omega
    · rw [if_neg hj, if_neg, List.getElem?_take, if_pos hk, List.getElem?_drop]
      intro ⟨h3, h4⟩
      rcases Nat.lt_or_gt_of_ne hj with h | h
      · have : (j + 1) * 512 ≤ i * 512 := Nat.mul_le_mul_right _ h
        omega
      · have : (i + 1) * 512 ≤ j * 512 := Nat.mul_le_mul_right _ h
        omega
  · rw [if_neg hk]
    split
    · rw [List.getElem?_eq_none]
      rw [List.length_append, List.length_drop, List.length_take, List.length_drop]
      omega
    · rw [List.getElem?_take, if_neg hk]
theorem sect_all {img b : List UInt8} {n i j : Nat} (hl : img.length = n * 512) (hi : i < n) (hb : b.length = 512) :
    ((ovr img (i * 512) b).drop (j * 512)).take 512 = if j = i then b else (img.drop (j * 512)).take 512 := by
  rw [sect_ovr hl hi (by omega)]
  split
  · rw [List.drop_eq_nil_of_le (by rw [List.length_take]; omega), List.append_nil]
  · rfl

theorem lay_ln {img b : List UInt8} {n i : Nat} (h : img.length = n * 512) (hi : i < n) (hb : b.length ≤ 512) : (ovr img (i * 512) b).length = n * 512 := by
  have : (i + 1) * 512 ≤ n * 512 := Nat.mul_le_mul_right _ hi
  rw [ovr_len (by omega), h]
/-- Sectors behind a sync, behind a fall. -/
theorem sect_sync {n j : Nat} (hj : j < n) : ∀ (q : List (Int × List UInt8)) (img : List UInt8), img.length = n * 512 → (∀ p ∈ q, 0 ≤ p.1 ∧ p.1 < (n : Int) ∧ p.2.length = 512) →
    ((syncL q img).drop (j * 512)).take 512 = readL (j : Int) q ((img.drop (j * 512)).take 512)
  | [], _, _, _ => rfl
  | p :: r, img, h, hq => by
    have hp := hq p (by simp)
    rw [syncL, sect_sync hj r _ (lay_ln h (by omega) (by omega)) fun x hx => hq x (by simp [hx]), readL, sect_all h (by omega) hp.2.2]
    congr 1
    by_cases e : p.1 = (j : Int)
    · rw [if_pos e, if_pos (by omega)]
    · rw [if_neg e, if_neg (by omega)]
theorem sect_fall {n j : Nat} (hj : j < n) (keep : List Nat) (torn off : Int) : ∀ (q : List (Int × List UInt8)) (k : Nat) (img : List UInt8), img.length = n * 512 → (∀ p ∈ q, 0 ≤ p.1 ∧ p.1 < (n : Int) ∧ p.2.length = 512) → (∀ p ∈ q, p.1 ≠ (j : Int)) →
    ((fallL keep torn off k q img).drop (j * 512)).take 512 = (img.drop (j * 512)).take 512
  | [], _, _, _, _, _ => rfl
  | p :: r, k, img, h, hq, hn => by
    have hp := hq p (by simp)
    have hne := hn p (by simp)
    rw [fallL, sect_fall hj keep torn off r _ _ _ (fun x hx => hq x (by simp [hx])) fun x hx => hn x (by simp [hx])]
    · split
      · rw [sect_all h (by omega) hp.2.2, if_neg (by omega)]
      · split
        · rw [sect_ovr h (by omega) (by rw [List.length_take]; omega), if_neg (by omega)]
        · rfl
    · split
      · exact lay_ln h (by omega) (by omega)
      · split
        · exact lay_ln h (by omega) (by rw [List.length_take]; omega)
        · exact h
/-- A torn sector. -/
def Mix (b o x : List UInt8) : Prop := ∃ c, c ≤ 512 ∧ x = b.take c ++ o.drop c
theorem sect_fall1 {n j : Nat} (hj : j < n) {keep : List Nat} {torn off : Int} {b img : List UInt8} (h : img.length = n * 512) (hb : b.length = 512) :
    Mix b ((img.drop (j * 512)).take 512) (((fallL keep torn off 0 [((j : Int), b)] img).drop (j * 512)).take 512) := by
  simp only [fallL, Int.toNat_natCast]
  split
  · refine ⟨512, by omega, ?_⟩
    rw [sect_all h hj hb, if_pos rfl, List.take_of_length_le (by omega), List.drop_eq_nil_of_le (by rw [List.length_take]; omega), List.append_nil]
  · split
    · refine ⟨clampN off, clamp_le off, ?_⟩
      have hl : (b.take (clampN off)).length = clampN off := by have := clamp_le off; rw [List.length_take]; omega
      rw [sect_ovr h hj (by have := clamp_le off; omega), if_pos rfl, hl]
    · exact ⟨0, by omega, by simp⟩

def zipI : Int → List (List UInt8) → List (Int × List UInt8)
  | _, [] => []
  | i, b :: r => (i, b) :: zipI (i + 1) r
theorem zipI_mem : ∀ (l : List (List UInt8)) (i : Int), (∀ b ∈ l, b.length = 512) → ∀ p ∈ zipI i l, i ≤ p.1 ∧ p.1 < i + l.length ∧ p.2.length = 512
  | [], _, _, p, hp => by cases hp
  | b :: r, i, hb, p, hp => by
    rw [zipI, List.mem_cons] at hp
    rw [List.length_cons]
    rcases hp with rfl | hp
    · exact ⟨Int.le_refl _, by show i < _; omega, hb b (by simp)⟩
    · have := zipI_mem r (i + 1) (fun x hx => hb x (by simp [hx])) p hp
      exact ⟨by omega, by omega, this.2.2⟩

theorem Dv.Ok.bump_n {v : Dv} : v.bump.n = v.n := rfl
/-- Writes and a sync on a disk that stays up; on one that gives up. -/
theorem putL_up : ∀ (l : List (List UInt8)) {v : Dv} {i : Int}, v.Ok → v.down = false → 0 ≤ i → i + l.length ≤ (v.n : Int) → (∀ b ∈ l, b.length = 512) → (v.step = 0 ∨ (l.length : Int) + 1 < v.step) →
    (putL v i l).1 = 0 ∧ (putL v i l).2.down = false ∧ (putL v i l).2.q = [] ∧ (putL v i l).2.img = syncL (v.q ++ zipI i l) v.img ∧ (putL v i l).2.step = (if v.step = 0 then 0 else v.step - (l.length + 1)) ∧ (0 ≤ v.calls → v.calls + l.length + 1 < 1000000000000 → (putL v i l).2.calls = v.calls + (l.length + 1))
  | [], v, i, hok, hd, h0, hn, hb, hs => by
    have e : v.sync = (0, v.bump.synced) := by
      unfold Dv.sync
      rw [hd, if_neg (by simp), if_neg]
      have := hok.step
      simp only [List.length_nil] at hs
      omega
    rw [putL, e, zipI, List.append_nil]
    refine ⟨rfl, hd, rfl, rfl, ?_, ?_⟩
    · show (if v.step = 0 then (0 : Int) else v.step - 1) = _
      rfl
    · intro hc hc2
      show IntKind.wrap .i64 (v.calls + 1) = _
      simp only [List.length_nil] at hc2 ⊢
      rw [wrap_i64 (by omega) (by omega)]
      rfl
  | b :: r, v, i, hok, hd, h0, hn, hb, hs => by
    rw [List.length_cons] at hn hs
    have hbl := hb b (by simp)
    have st := hok.step
    have e : v.write i b = (0, v.bump.add i b) := by
      unfold Dv.write
      rw [hd, if_neg (by simp), if_neg (fun hh => hh ⟨h0, by omega⟩), if_neg (fun hh => hh hbl), if_neg (by omega)]
    have ok1 := hok.write i b
    rw [e] at ok1
    have sE : (v.bump.add i b).step = if v.step = 0 then 0 else v.step - 1 := rfl
    have ih := putL_up r (v := v.bump.add i b) (i := i + 1) ok1 hd (by omega) (by show _ ≤ (v.n : Int); omega) (fun x hx => hb x (by simp [hx])) (by rw [sE]; split <;> omega)
    rw [putL, e, if_neg (by simp)]
    refine ⟨ih.1, ih.2.1, ih.2.2.1, ?_, ?_, ?_⟩
    · rw [ih.2.2.2.1]
      show syncL ((v.q ++ [(i, b)]) ++ _) v.img = _
      rw [zipI, List.append_assoc]
      rfl
    · rw [ih.2.2.2.2.1, sE, List.length_cons]
      by_cases z : v.step = 0
      · simp only [z, ↓reduceIte]
      · simp only [z, ↓reduceIte]
        rw [if_neg (by omega)]
        omega
    · intro hc hc2
      rw [List.length_cons] at hc2
      have cE : (v.bump.add i b).calls = v.calls + 1 := by
        show IntKind.wrap .i64 (v.calls + 1) = _
        rw [wrap_i64 (by omega) (by omega)]
      rw [ih.2.2.2.2.2 (by omega) (by omega), cE, List.length_cons]
      omega
theorem putL_fall : ∀ (l : List (List UInt8)) {v : Dv} {i : Int}, v.Ok → v.down = false → 0 ≤ i → i + l.length ≤ (v.n : Int) → (∀ b ∈ l, b.length = 512) → (1 ≤ v.step ∧ v.step ≤ (l.length : Int) + 1) →
    (putL v i l).1 = 40 ∧ (putL v i l).2.down = true ∧ (putL v i l).2.q = [] ∧ (putL v i l).2.n = v.n ∧ ∃ m, (l ≠ [] → 1 ≤ m) ∧ (putL v i l).2.img = fallL v.keep v.torn v.off 0 (v.q ++ zipI i (l.take m)) v.img
  | [], v, i, hok, hd, h0, hn, hb, hs => by
    simp only [List.length_nil] at hs
    have e : v.sync = (40, v.bump.fall v.keep v.torn v.off) := by
      unfold Dv.sync
      rw [hd, if_neg (by simp), if_pos (by omega)]
    have hnn := putL_n [] i hok
    rw [putL, e] at hnn ⊢
    exact ⟨rfl, rfl, rfl, hnn, 0, fun h => absurd rfl h, by simp [zipI, Dv.fall, Dv.bump]⟩
  | b :: r, v, i, hok, hd, h0, hn, hb, hs => by
    rw [List.length_cons] at hn hs
    have hbl := hb b (by simp)
    have st := hok.step
    have hnn := putL_n (b :: r) i hok
    by_cases h1 : v.step = 1
    · have e : v.write i b = (40, (v.bump.add i b).fall v.keep v.torn v.off) := by
        unfold Dv.write
        rw [hd, if_neg (by simp), if_neg (fun hh => hh ⟨h0, by omega⟩), if_neg (fun hh => hh hbl), if_pos h1]
      rw [putL, e, if_pos (by simp)] at hnn ⊢
      exact ⟨rfl, rfl, rfl, hnn, 1, fun _ => Nat.le_refl _, rfl⟩
    · have e : v.write i b = (0, v.bump.add i b) := by
        unfold Dv.write
        rw [hd, if_neg (by simp), if_neg (fun hh => hh ⟨h0, by omega⟩), if_neg (fun hh => hh hbl), if_neg h1]
      have ok1 := hok.write i b
      rw [e] at ok1
      have sE : (v.bump.add i b).step = if v.step = 0 then 0 else v.step - 1 := rfl
      obtain ⟨i1, i2, i3, i4, m, i5, i6⟩ := putL_fall r (v := v.bump.add i b) (i := i + 1) ok1 hd (by omega) (by show _ ≤ (v.n : Int); omega) (fun x hx => hb x (by simp [hx])) (by rw [sE, if_neg (by omega)]; omega)
      rw [putL, e, if_neg (by simp)]
      refine ⟨i1, i2, i3, i4, m + 1, fun _ => by omega, ?_⟩
      rw [i6]
      show fallL v.keep v.torn v.off 0 ((v.q ++ [(i, b)]) ++ zipI (i + 1) (r.take m)) v.img = _
      rw [List.take_succ_cons, zipI, List.append_assoc]
      rfl
end Go.Proofs.Ytalkkhocljehfaa
