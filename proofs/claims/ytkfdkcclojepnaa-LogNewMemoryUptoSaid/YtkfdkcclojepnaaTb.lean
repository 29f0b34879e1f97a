/- Plain: a disk as numbers and lists. Conditions: none. -/
import Derived.Test.YtkfdkcclojepnaaTa
set_option linter.unusedVariables false
set_option linter.unusedSimpArgs false
namespace Go.Proofs.Ytkfdkcclojepnaa
open Go Go.RowKit

/-- x in the place of what lies from i on. -/
def ovr (l : List UInt8) (i : Nat) (x : List UInt8) : List UInt8 := l.take i ++ x ++ l.drop (i + x.length)
theorem ovr_len {l x : List UInt8} {i : Nat} (h : i + x.length ≤ l.length) : (ovr l i x).length = l.length := by
  simp [ovr]; omega
theorem ovr_nil (l : List UInt8) (i : Nat) : ovr l i [] = l := by simp [ovr]
theorem ovr_get {l x : List UInt8} {i k : Nat} (h : i + x.length ≤ l.length) : (ovr l i x)[k]? = if i ≤ k ∧ k < i + x.length then x[k - i]? else l[k]? := by
  unfold ovr
  by_cases h1 : k < i
  · rw [if_neg (by omega), List.append_assoc, List.getElem?_append_left (by simp; omega), List.getElem?_take, if_pos h1]
  · by_cases h2 : k < i + x.length
    · rw [if_pos ⟨by omega, h2⟩, List.append_assoc, List.getElem?_append_right (by simp; omega), List.getElem?_append_left (by simp; omega)]
      congr 1
      simp
      omega
    · rw [if_neg (by omega), List.append_assoc, List.getElem?_append_right (by simp; omega), List.getElem?_append_right (by simp; omega), List.getElem?_drop]
      congr 1
      simp
      omega
theorem ovr_set {l x : List UInt8} {i : Nat} {c : UInt8} (h : i + x.length < l.length) : (ovr l i x).set (i + x.length) c = ovr l i (x ++ [c]) := by
  apply List.ext_getElem?
  intro k
  rw [List.getElem?_set, ovr_get (by omega), ovr_get (by simp; omega), ovr_len (by omega)]
  by_cases h1 : i + x.length = k
  · subst h1
    rw [if_pos rfl, if_pos h, if_pos (by simp)]
    simp
  · rw [if_neg h1]
    by_cases h2 : i ≤ k ∧ k < i + x.length
    · rw [if_pos h2, if_pos (by simp; omega), List.getElem?_append_left (by omega)]
    · rw [if_neg h2, if_neg (by simp; omega)]

/-- A disk. -/
structure Dv where
  img : List UInt8
  q : List (Int × List UInt8)
  step : Int
  keep : List Nat
  torn : Int
  off : Int
  down : Bool
  calls : Int
def Dv.n (v : Dv) : Nat := v.img.length / 512
structure Dv.Ok (v : Dv) : Prop where
  n1 : 1 ≤ v.n
  n2 : v.n ≤ 8192
  len : v.img.length = v.n * 512
  q : ∀ p ∈ v.q, 0 ≤ p.1 ∧ p.1 < (v.n : Int) ∧ p.2.length = 512
  step : 0 ≤ v.step ∧ v.step ≤ 9223372036854775807
  keep : ∀ x ∈ v.keep, x < 18446744073709551616
/-- Does a loss keep the write with that number? -/
def keptN (keep : List Nat) (k : Nat) : Bool := decide (k / 64 < keep.length) && decide ((keep.getD (k / 64) 0) / 2 ^ (k % 64) % 2 = 1)
/-- How much of a torn write lies there. -/
def clampN (off : Int) : Nat := min off.toNat 512
def fallL (keep : List Nat) (torn off : Int) : Nat → List (Int × List UInt8) → List UInt8 → List UInt8
  | _, [], img => img
  | k, p :: r, img => fallL keep torn off (k + 1) r (if keptN keep k then ovr img (p.1.toNat * 512) p.2 else if (k : Int) = torn then ovr img (p.1.toNat * 512) (p.2.take (clampN off)) else img)
def syncL : List (Int × List UInt8) → List UInt8 → List UInt8
  | [], img => img
  | p :: r, img => syncL r (ovr img (p.1.toNat * 512) p.2)
def readL (i : Int) : List (Int × List UInt8) → List UInt8 → List UInt8
  | [], b => b
  | p :: r, b => readL i r (if p.1 = i then p.2 else b)
def Dv.fall (v : Dv) (keep : List Nat) (torn off : Int) : Dv := { v with img := fallL keep torn off 0 v.q v.img, q := [], step := 0, keep := [], torn := 0, off := 0, down := true }
def Dv.bump (v : Dv) : Dv := { v with calls := IntKind.wrap .i64 (v.calls + 1), step := if v.step = 0 then 0 else v.step - 1 }
def Dv.add (v : Dv) (i : Int) (b : List UInt8) : Dv := { v with q := v.q ++ [(i, b)] }
def Dv.synced (v : Dv) : Dv := { v with img := syncL v.q v.img, q := [] }
def Dv.sect (v : Dv) (i : Nat) : List UInt8 := (v.img.drop (i * 512)).take 512
def Dv.there (v : Dv) (i : Int) : Prop := 0 ≤ i ∧ i < (v.n : Int)
instance (v : Dv) (i : Int) : Decidable (v.there i) := inferInstanceAs (Decidable (_ ∧ _))
def Dv.read (v : Dv) (i : Int) : List UInt8 × Nat := if v.down then ([], 40) else if ¬ v.there i then ([], 41) else (readL i v.q (v.sect i.toNat), 0)
def Dv.write (v : Dv) (i : Int) (b : List UInt8) : Nat × Dv :=
  if v.down then (40, v) else if ¬ v.there i then (41, v) else if b.length ≠ 512 then (42, v) else if v.step = 1 then (40, (v.bump.add i b).fall v.keep v.torn v.off) else (0, v.bump.add i b)
def Dv.sync (v : Dv) : Nat × Dv := if v.down then (40, v) else if v.step = 1 then (40, v.bump.fall v.keep v.torn v.off) else (0, v.bump.synced)
def Dv.arm (v : Dv) (step : Int) (keep : List Nat) (torn off : Int) : Nat × Dv := if v.down then (40, v) else if step < 0 then (4, v) else (0, { v with step := step, keep := keep, torn := torn, off := off })
def Dv.crash (v : Dv) (keep : List Nat) (torn off : Int) : Nat × Dv := if v.down then (40, v) else (0, v.fall keep torn off)
def Dv.up (v : Dv) : Dv := { v with down := false, step := 0 }
def Dv.new (n : Nat) : Dv := ⟨List.replicate (n * 512) 0, [], 0, [], 0, 0, false, 0⟩
def Dv.load (img : List UInt8) : Dv := ⟨img, [], 0, [], 0, 0, false, 0⟩

theorem lay_len {img b : List UInt8} {n : Nat} (h : img.length = n * 512) {i : Int} (h0 : 0 ≤ i) (h1 : i < (n : Int)) (hb : b.length ≤ 512) : (ovr img (i.toNat * 512) b).length = n * 512 := by
  rw [ovr_len, h]
  have : i.toNat + 1 ≤ n := by omega
  omega
theorem fallL_len (keep : List Nat) (torn off : Int) (n : Nat) : ∀ (q : List (Int × List UInt8)) (k : Nat) (img : List UInt8), img.length = n * 512 → (∀ p ∈ q, 0 ≤ p.1 ∧ p.1 < (n : Int) ∧ p.2.length = 512) → (fallL keep torn off k q img).length = n * 512
  | [], _, _, h, _ => h
  | p :: r, k, img, h, hq => by
    have hp := hq p (by simp)
    rw [fallL]
    refine fallL_len keep torn off n r (k + 1) _ ?_ fun x hx => hq x (by simp [hx])
    split
    · exact lay_len h hp.1 hp.2.1 (by omega)
    · split
      · exact lay_len h hp.1 hp.2.1 (by simp; omega)
      · exact h
theorem syncL_len (n : Nat) : ∀ (q : List (Int × List UInt8)) (img : List UInt8), img.length = n * 512 → (∀ p ∈ q, 0 ≤ p.1 ∧ p.1 < (n : Int) ∧ p.2.length = 512) → (syncL q img).length = n * 512
  | [], _, h, _ => h
  | p :: r, img, h, hq => by
    have hp := hq p (by simp)
    rw [syncL]
    exact syncL_len n r _ (lay_len h hp.1 hp.2.1 (by omega)) fun x hx => hq x (by simp [hx])
theorem Dv.n_of {v : Dv} {n : Nat} (h : v.img.length = n * 512) : v.n = n := by unfold Dv.n; omega
theorem Dv.Ok.fall {v : Dv} (h : v.Ok) (keep : List Nat) (torn off : Int) : (v.fall keep torn off).Ok := by
  have hl := fallL_len keep torn off v.n v.q 0 v.img h.len h.q
  have hn : (v.fall keep torn off).n = v.n := Dv.n_of hl
  refine ⟨by rw [hn]; exact h.n1, by rw [hn]; exact h.n2, by rw [hn]; exact hl, fun p hp => absurd hp (by simp [Dv.fall]), ⟨Int.le_refl _, by simp [Dv.fall]⟩, fun x hx => absurd hx (by simp [Dv.fall])⟩
theorem Dv.Ok.bump {v : Dv} (h : v.Ok) : v.bump.Ok := by
  refine ⟨h.n1, h.n2, h.len, h.q, ?_, h.keep⟩
  have := h.step
  show 0 ≤ (if v.step = 0 then (0 : Int) else v.step - 1) ∧ (if v.step = 0 then (0 : Int) else v.step - 1) ≤ _
  split <;> omega
theorem Dv.Ok.add {v : Dv} (h : v.Ok) {i : Int} {b : List UInt8} (hi : v.there i) (hb : b.length = 512) : (v.add i b).Ok := by
  refine ⟨h.n1, h.n2, h.len, fun p hp => ?_, h.step, h.keep⟩
  rcases List.mem_append.1 hp with hp | hp
  · exact h.q p hp
  · rw [List.mem_singleton] at hp
    subst hp
    exact ⟨hi.1, hi.2, hb⟩
theorem Dv.Ok.synced {v : Dv} (h : v.Ok) : v.synced.Ok := by
  have hl := syncL_len v.n v.q v.img h.len h.q
  have hn : v.synced.n = v.n := Dv.n_of hl
  exact ⟨by rw [hn]; exact h.n1, by rw [hn]; exact h.n2, by rw [hn]; exact hl, fun p hp => absurd hp (by simp [Dv.synced]), h.step, h.keep⟩
theorem Dv.Ok.write {v : Dv} (h : v.Ok) (i : Int) (b : List UInt8) : (v.write i b).2.Ok := by
  unfold Dv.write
  split
  · exact h
  · split
    · exact h
    · rename_i hi
      split
      · exact h
      · rename_i hb
        have ha := h.bump.add (i := i) (b := b) (Decidable.not_not.1 hi) (Decidable.not_not.1 hb)
        split
        · exact ha.fall _ _ _
        · exact ha
theorem Dv.Ok.sync {v : Dv} (h : v.Ok) : v.sync.2.Ok := by
  unfold Dv.sync
  split
  · exact h
  · split
    · exact h.bump.fall _ _ _
    · exact h.bump.synced
theorem Dv.Ok.crash {v : Dv} (h : v.Ok) (keep : List Nat) (torn off : Int) : (v.crash keep torn off).2.Ok := by
  unfold Dv.crash
  split
  · exact h
  · exact h.fall _ _ _
theorem Dv.Ok.arm {v : Dv} (h : v.Ok) {step : Int} {keep : List Nat} (torn off : Int) (hs : step ≤ 9223372036854775807) (hk : ∀ x ∈ keep, x < 18446744073709551616) : (v.arm step keep torn off).2.Ok := by
  unfold Dv.arm
  split
  · exact h
  · split
    · exact h
    · exact ⟨h.n1, h.n2, h.len, h.q, ⟨by simp only; omega, hs⟩, hk⟩
theorem Dv.Ok.up {v : Dv} (h : v.Ok) : v.up.Ok := ⟨h.n1, h.n2, h.len, h.q, ⟨Int.le_refl _, by simp [Dv.up]⟩, h.keep⟩
theorem Dv.Ok.load {img : List UInt8} {n : Nat} (h : img.length = n * 512) (h1 : 1 ≤ n) (h2 : n ≤ 8192) : (Dv.load img).Ok := by
  have hn : (Dv.load img).n = n := Dv.n_of h
  exact ⟨by rw [hn]; exact h1, by rw [hn]; exact h2, by rw [hn]; exact h, fun p hp => absurd hp (by simp [Dv.load]), ⟨Int.le_refl _, by simp [Dv.load]⟩, fun x hx => absurd hx (by simp [Dv.load])⟩
theorem Dv.new_load (n : Nat) : Dv.new n = Dv.load (List.replicate (n * 512) 0) := rfl
end Go.Proofs.Ytkfdkcclojepnaa
