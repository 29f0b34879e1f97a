/- Plain: byte for byte what a crash leaves. Conditions: none. -/
import Derived.Test.YtkhdmbgcbogndaaTl
set_option linter.unusedVariables false
set_option linter.unusedSimpArgs false
namespace Go.Proofs.Ytkhdmbgcbogndaa
open Go Go.RowKit

/-- One byte's way through a crash. -/
def gB (keep : List Nat) (torn off : Int) (sec pos : Nat) : Nat → List (Int × List UInt8) → UInt8 → UInt8
  | _, [], g => g
  | k, p :: r, g => gB keep torn off sec pos (k + 1) r (if p.1 = (sec : Int) ∧ (keptN keep k = true ∨ ((k : Int) = torn ∧ pos < clampN off)) then p.2.getD pos 0 else g)
theorem getD_some {l : List UInt8} {i : Nat} {x : UInt8} (h : l[i]? = some x) : l.getD i 0 = x := by rw [List.getD_eq_getElem?_getD, h]; rfl
theorem ovr_getD {l x : List UInt8} {i k : Nat} (h : i + x.length ≤ l.length) : (ovr l i x).getD k 0 = if i ≤ k ∧ k < i + x.length then x.getD (k - i) 0 else l.getD k 0 := by
  rw [List.getD_eq_getElem?_getD, ovr_get h]
  split
  · rw [List.getD_eq_getElem?_getD]
  · rw [List.getD_eq_getElem?_getD]
theorem sec_iff {p : Int} {i : Nat} (h0 : 0 ≤ p) : (p.toNat * 512 ≤ i ∧ i < p.toNat * 512 + 512) ↔ p = ((i / 512 : Nat) : Int) := by omega
theorem fall_byte (keep : List Nat) (torn off : Int) {n i : Nat} (hi : i < n * 512) : ∀ (q : List (Int × List UInt8)) (k : Nat) (img : List UInt8), img.length = n * 512 → (∀ p ∈ q, 0 ≤ p.1 ∧ p.1 < (n : Int) ∧ p.2.length = 512) →
    (fallL keep torn off k q img).getD i 0 = gB keep torn off (i / 512) (i % 512) k q (img.getD i 0)
  | [], _, _, _, _ => rfl
  | p :: r, k, img, hl, hq => by
    have hp := hq p (by simp)
    have h1 : p.1.toNat * 512 + p.2.length ≤ img.length := by omega
    have h2 : p.1.toNat * 512 + (p.2.take (clampN off)).length ≤ img.length := by have := clamp_le off; rw [List.length_take]; omega
    have hc := clamp_le off
    rw [fallL, gB]
    have step : ∀ X : List UInt8, X.length = n * 512 → X.getD i 0 = (if p.1 = ((i / 512 : Nat) : Int) ∧ (keptN keep k = true ∨ ((k : Int) = torn ∧ i % 512 < clampN off)) then p.2.getD (i % 512) 0 else img.getD i 0) →
        (fallL keep torn off (k + 1) r X).getD i 0 = gB keep torn off (i / 512) (i % 512) (k + 1) r (if p.1 = ((i / 512 : Nat) : Int) ∧ (keptN keep k = true ∨ ((k : Int) = torn ∧ i % 512 < clampN off)) then p.2.getD (i % 512) 0 else img.getD i 0) := fun X hX he => by
      rw [fall_byte keep torn off hi r (k + 1) X hX fun x hx => hq x (by simp [hx]), he]
    split
    · rename_i hk
      refine step _ (by rw [ovr_len h1]; exact hl) ?_
      rw [ovr_getD h1, hp.2.2]
      by_cases hs : p.1 = ((i / 512 : Nat) : Int)
      · rw [if_pos ((sec_iff hp.1).2 hs), if_pos ⟨hs, .inl hk⟩]
        congr 1
        omega
      · rw [if_neg fun h => hs ((sec_iff hp.1).1 h), if_neg fun h => hs h.1]
    · rename_i hk
      split
      · rename_i ht
        refine step _ (by rw [ovr_len h2]; exact hl) ?_
        rw [ovr_getD h2, List.length_take, hp.2.2, Nat.min_eq_left hc]
        by_cases hs : p.1 = ((i / 512 : Nat) : Int)
        · by_cases hpos : i % 512 < clampN off
          · rw [if_pos (by omega), if_pos ⟨hs, .inr ⟨ht, hpos⟩⟩]
            have e : i - p.1.toNat * 512 = i % 512 := by omega
            rw [e, List.getD_eq_getElem?_getD, List.getElem?_take, if_pos hpos, List.getD_eq_getElem?_getD]
          · rw [if_neg (by omega), if_neg]
            rintro ⟨_, h | h⟩
            · exact hk h
            · exact hpos h.2
        · rw [if_neg (by omega), if_neg fun h => hs h.1]
      · rename_i ht
        refine step _ hl ?_
        rw [if_neg]
        rintro ⟨_, h | h⟩
        · exact hk h
        · exact ht h.1
theorem gB_one (keep : List Nat) (torn off : Int) (sec pos : Nat) : ∀ (q : List (Int × List UInt8)) (k : Nat) (g : UInt8), gB keep torn off sec pos k q g = g ∨ ∃ j, ∃ h : j < q.length, (q[j]).1 = (sec : Int) ∧ gB keep torn off sec pos k q g = (q[j]).2.getD pos 0
  | [], _, _ => .inl rfl
  | p :: r, k, g => by
    rw [gB]
    rcases gB_one keep torn off sec pos r (k + 1) (if p.1 = (sec : Int) ∧ (keptN keep k = true ∨ ((k : Int) = torn ∧ pos < clampN off)) then p.2.getD pos 0 else g) with h | ⟨j, hj, h1, h2⟩
    · rw [h]
      by_cases hc : p.1 = (sec : Int) ∧ (keptN keep k = true ∨ ((k : Int) = torn ∧ pos < clampN off))
      · rw [if_pos hc]
        exact .inr ⟨0, by simp, hc.1, rfl⟩
      · rw [if_neg hc]
        exact .inl rfl
    · exact .inr ⟨j + 1, by simpa using hj, by simpa using h1, by rw [h2]; simp⟩
theorem gB_stay (keep : List Nat) (torn off : Int) (sec pos : Nat) : ∀ (q : List (Int × List UInt8)) (k : Nat) (g : UInt8), (∀ p ∈ q, p.1 ≠ (sec : Int)) → gB keep torn off sec pos k q g = g
  | [], _, _, _ => rfl
  | p :: r, k, g, h => by
    rw [gB, if_neg fun hc => h p (by simp) hc.1]
    exact gB_stay keep torn off sec pos r (k + 1) g fun x hx => h x (by simp [hx])
theorem gB_last (keep : List Nat) (torn off : Int) (sec pos : Nat) : ∀ (q : List (Int × List UInt8)) (k j : Nat) (g : UInt8) (h : j < q.length), (q[j]).1 = (sec : Int) → (∀ j' (h' : j' < q.length), j < j' → (q[j']).1 ≠ (sec : Int)) → keptN keep (k + j) = true → gB keep torn off sec pos k q g = (q[j]).2.getD pos 0
  | p :: r, k, 0, g, h, hs, hl, hk => by
    rw [gB, if_pos ⟨hs, .inl hk⟩]
    refine gB_stay keep torn off sec pos r (k + 1) _ fun x hx => ?_
    obtain ⟨m, hm, rfl⟩ := List.getElem_of_mem hx
    exact hl (m + 1) (by simpa using hm) (by omega)
  | p :: r, k, j + 1, g, h, hs, hl, hk => by
    rw [gB]
    have := gB_last keep torn off sec pos r (k + 1) j (if p.1 = (sec : Int) ∧ (keptN keep k = true ∨ ((k : Int) = torn ∧ pos < clampN off)) then p.2.getD pos 0 else g) (by simpa using h) (by simpa using hs) (fun j' h' hj => by have := hl (j' + 1) (by simpa using h') (by omega); simpa using this) (by rw [show k + 1 + j = k + (j + 1) by omega]; exact hk)
    rw [this]
    simp
theorem syncL_app : ∀ (q r : List (Int × List UInt8)) (img : List UInt8), syncL (q ++ r) img = syncL r (syncL q img)
  | [], r, img => rfl
  | p :: q, r, img => by rw [List.cons_append, syncL, syncL, syncL_app q r]
theorem fillN_getD (f : UInt8) {m k : Nat} (h : k < m) : (fillN f m).getD k 0 = f + UInt8.ofNat (k / 200) := by
  rw [List.getD_eq_getElem?_getD]
  simp [fillN, h]
end Go.Proofs.Ytkhdmbgcbogndaa
