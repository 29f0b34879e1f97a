/- The checksum: by exclusive or; and bytes that are turned within 32 bits have another one. Plain numbers and lists. Conditions: none. -/
import Derived.Test.YtnkdonpammdldaaDoorFf
namespace Go.Proofs.YtnkdonpammdldaaDoor
open Go Go.RowKit

/-- One bit falls out. -/
def stp (r : Nat) : Nat := if r % 2 = 0 then r / 2 else r / 2 ^^^ 3988292384

theorem xor_div2 (a b k : Nat) : (a ^^^ b) / 2 ^ k = a / 2 ^ k ^^^ b / 2 ^ k := by
  rw [← Nat.shiftRight_eq_div_pow, ← Nat.shiftRight_eq_div_pow, ← Nat.shiftRight_eq_div_pow, Nat.shiftRight_xor_distrib]
theorem xor_mod2 (a b k : Nat) : (a ^^^ b) % 2 ^ k = a % 2 ^ k ^^^ b % 2 ^ k := Nat.xor_mod_two_pow

theorem stp_xor (a b : Nat) : stp (a ^^^ b) = stp a ^^^ stp b := by
  have hd : (a ^^^ b) / 2 = a / 2 ^^^ b / 2 := xor_div2 a b 1
  have hm : (a ^^^ b) % 2 = a % 2 ^^^ b % 2 := xor_mod2 a b 1
  unfold stp
  rw [hd, hm]
  rcases Nat.mod_two_eq_zero_or_one a with ha | ha <;> rcases Nat.mod_two_eq_zero_or_one b with hb | hb <;> rw [ha, hb] <;> simp only [Nat.xor_self, Nat.xor_zero, Nat.zero_xor, if_true, Nat.one_ne_zero, if_false]
  · rw [Nat.xor_assoc]
  · rw [Nat.xor_assoc, Nat.xor_assoc, Nat.xor_comm 3988292384]
  · rw [Nat.xor_assoc, ← Nat.xor_assoc 3988292384, Nat.xor_comm 3988292384, Nat.xor_assoc, Nat.xor_self, Nat.xor_zero]
theorem stp_even (q : Nat) : stp (2 * q) = q := by
  unfold stp
  rw [if_pos (by omega)]
  omega
theorem stp_zero : stp 0 = 0 := rfl
theorem stp_lt {r : Nat} (h : r < 4294967296) : stp r < 4294967296 := by
  unfold stp
  split
  · omega
  · exact Nat.xor_lt_two_pow (n := 32) (by omega) (by omega)

/-- The states behind bits. -/
def bf (r : Nat) (l : List Bool) : Nat := l.foldl (fun s b => stp (s ^^^ b.toNat)) r

theorem bf_append (r : Nat) (l k : List Bool) : bf r (l ++ k) = bf (bf r l) k := by simp [bf]
theorem toNat_xor (a b : Bool) : (Bool.xor a b).toNat = a.toNat ^^^ b.toNat := by cases a <;> cases b <;> rfl
theorem bf_xor : ∀ (l k : List Bool) (r s : Nat), l.length = k.length → bf (r ^^^ s) (List.zipWith Bool.xor l k) = bf r l ^^^ bf s k
  | [], [], _, _, _ => rfl
  | a :: l, b :: k, r, s, h => by
    have hl : l.length = k.length := by simpa using h
    show bf (stp (r ^^^ s ^^^ (Bool.xor a b).toNat)) (List.zipWith Bool.xor l k) = bf (stp (r ^^^ a.toNat)) l ^^^ bf (stp (s ^^^ b.toNat)) k
    rw [← bf_xor l k _ _ hl, ← stp_xor, toNat_xor]
    congr 2
    rw [Nat.xor_assoc, Nat.xor_assoc, ← Nat.xor_assoc s, Nat.xor_comm s, Nat.xor_assoc]
  | [], _ :: _, _, _, h => by simp at h
  | _ :: _, [], _, _, h => by simp at h

/-- A byte's bits, the lowest first. -/
def bitsB (b : UInt8) : List Bool := (List.range 8).map fun i => b.toNat.testBit i

theorem bit_split (b k : Nat) : b / 2 ^ k = (b.testBit k).toNat ^^^ 2 * (b / 2 ^ (k + 1)) := by
  have h1 : b / 2 ^ (k + 1) = b / 2 ^ k / 2 := by rw [Nat.pow_succ, Nat.div_div_eq_div_mul]
  have h2 : (b.testBit k).toNat = b / 2 ^ k % 2 := by rw [Nat.testBit_eq_decide_div_mod_eq]; rcases Nat.mod_two_eq_zero_or_one (b / 2 ^ k) with h | h <;> simp [h]
  rw [h1, h2]
  generalize b / 2 ^ k = x
  have : ∀ q m, m < 2 → m ^^^ 2 * q = 2 * q + m := by
    intro q m hm
    have := Nat.two_pow_add_eq_or_of_lt (i := 1) (b := m) (by simpa using hm) q
    rw [Nat.xor_comm]
    rcases (show m = 0 ∨ m = 1 by omega) with rfl | rfl
    · simp
    · apply Nat.eq_of_testBit_eq
      intro i
      rw [Nat.testBit_xor]
      rw [Nat.pow_one] at this
      rw [this, Nat.testBit_or]
      cases i with
      | zero => simp [Nat.testBit_zero]
      | succ i => simp [Nat.testBit_succ]
  rw [this _ _ (Nat.mod_lt _ (by omega))]
  omega

theorem byte_bits (b : Nat) : ∀ (k r : Nat), bf r ((List.range k).map fun i => b.testBit i) ^^^ b / 2 ^ k = Nat.repeat stp k (r ^^^ b)
  | 0, r => by simp [bf, Nat.repeat]
  | k + 1, r => by
    rw [List.range_succ, List.map_append, bf_append]
    show stp (bf r ((List.range k).map fun i => b.testBit i) ^^^ (b.testBit k).toNat) ^^^ b / 2 ^ (k + 1) = stp (Nat.repeat stp k (r ^^^ b))
    rw [← byte_bits b k r, bit_split b k, ← Nat.xor_assoc, stp_xor (_ ^^^ _), stp_even]

theorem rep_xor (k a b : Nat) : Nat.repeat stp k (a ^^^ b) = Nat.repeat stp k a ^^^ Nat.repeat stp k b := by
  induction k with
  | zero => rfl
  | succ k ih => show stp (Nat.repeat stp k (a ^^^ b)) = stp _ ^^^ stp _; rw [ih, stp_xor]
theorem rep_even (k : Nat) : ∀ q, Nat.repeat stp k (2 ^ k * q) = q := by
  induction k with
  | zero => intro q; simp [Nat.repeat]
  | succ k ih => intro q; show stp (Nat.repeat stp k (2 ^ (k + 1) * q)) = q; rw [Nat.pow_succ, Nat.mul_assoc, ih, stp_even]
theorem rep_four : ∀ m, m < 16 → Nat.repeat stp 4 m = nibT m := by decide +kernel
theorem nst_rep (r : Nat) : nst r = Nat.repeat stp 4 r := by
  have h : r = 2 ^ 4 * (r / 16) ^^^ r % 16 := by
    have := Nat.two_pow_add_eq_or_of_lt (i := 4) (b := r % 16) (by omega) (r / 16)
    apply Nat.eq_of_testBit_eq
    intro i
    have e : r = 2 ^ 4 * (r / 16) ||| r % 16 := by omega
    rw [Nat.testBit_xor]
    conv => lhs; rw [e]
    rw [Nat.testBit_or, Nat.testBit_two_pow_mul]
    by_cases hi : 4 ≤ i
    · have : (r % 16).testBit i = false := Nat.testBit_lt_two_pow (Nat.lt_of_lt_of_le (show r % 16 < 2 ^ 4 by omega) (Nat.pow_le_pow_right (by omega) hi))
      simp [this]
    · simp [hi]
  conv => rhs; rw [h]
  rw [rep_xor, rep_even, rep_four _ (by omega)]
  rfl
theorem rep_add (j k r : Nat) : Nat.repeat stp j (Nat.repeat stp k r) = Nat.repeat stp (j + k) r := by
  induction j with
  | zero => simp [Nat.repeat]
  | succ j ih => rw [Nat.succ_add]; show stp _ = stp _; rw [ih]
/-- A byte is its bits. -/
theorem bst_bits (r : Nat) (b : UInt8) : bst r b = bf r (bitsB b) := by
  have h := byte_bits b.toNat 8 r
  have h0 : b.toNat / 2 ^ 8 = 0 := by have := u8_lt b; omega
  rw [h0, Nat.xor_zero] at h
  unfold bst bitsB
  rw [h, nst_rep, nst_rep, rep_add]
def bits (l : List UInt8) : List Bool := l.flatMap bitsB
theorem fold_bits : ∀ (l : List UInt8) (r : Nat), l.foldl bst r = bf r (bits l)
  | [], r => rfl
  | b :: l, r => by
    rw [List.foldl_cons, fold_bits l, bst_bits]
    show _ = bf r (List.flatMap bitsB (b :: l))
    rw [List.flatMap_cons, bf_append]
    rfl

theorem bitsB_len (b : UInt8) : (bitsB b).length = 8 := by simp [bitsB]
theorem bits_len : ∀ l : List UInt8, (bits l).length = 8 * l.length
  | [] => rfl
  | b :: l => by rw [bits, List.flatMap_cons, List.length_append, bitsB_len]; have := bits_len l; simp only [bits] at this; rw [this]; simp; omega
/-- A bit of bytes. -/
def bitAt (l : List UInt8) (p : Nat) : Bool := (l.getD (p / 8) 0).toNat.testBit (p % 8)
theorem bits_get : ∀ (l : List UInt8) (p : Nat), p < 8 * l.length → (bits l)[p]? = some (bitAt l p)
  | [], p, h => by simp at h
  | b :: l, p, h => by
    rw [bits, List.flatMap_cons]
    by_cases hp : p < 8
    · rw [List.getElem?_append_left (by rw [bitsB_len]; exact hp)]
      have h0 : p / 8 = 0 := by omega
      have h1 : p % 8 = p := by omega
      simp [bitsB, bitAt, h0, h1, hp]
    · rw [List.getElem?_append_right (by rw [bitsB_len]; omega), bitsB_len]
      have ih := bits_get l (p - 8) (by simp at h; omega)
      simp only [bits] at ih
      rw [ih]
      have h0 : p / 8 = (p - 8) / 8 + 1 := by omega
      have h1 : p % 8 = (p - 8) % 8 := by omega
      simp [bitAt, h0, h1]

/-! ### By exclusive or -/
theorem bst_xor (r s : Nat) (a b : UInt8) : bst (r ^^^ s) (a ^^^ b) = bst r a ^^^ bst s b := by
  have e : (a ^^^ b).toNat = a.toNat ^^^ b.toNat := UInt8.toNat_xor a b
  have nx : ∀ x y, nst (x ^^^ y) = nst x ^^^ nst y := fun x y => by rw [nst_rep, nst_rep, nst_rep, rep_xor]
  unfold bst
  rw [e, ← nx, ← nx]
  congr 2
  rw [Nat.xor_assoc, Nat.xor_assoc, ← Nat.xor_assoc s, Nat.xor_comm s, Nat.xor_assoc]
theorem fold_xor : ∀ (a b : List UInt8) (r s : Nat), a.length = b.length → (List.zipWith (· ^^^ ·) a b).foldl bst (r ^^^ s) = a.foldl bst r ^^^ b.foldl bst s
  | [], [], _, _, _ => rfl
  | x :: a, y :: b, r, s, h => by
    simp only [List.zipWith_cons_cons, List.foldl_cons]
    rw [bst_xor, fold_xor a b _ _ (by simpa using h)]
  | [], _ :: _, _, _, h => by simp at h
  | _ :: _, [], _, _, h => by simp at h

theorem sum_lin {a b : List UInt8} (h : a.length = b.length) : sumN (List.zipWith (· ^^^ ·) a b) = sumN a ^^^ sumN b ^^^ sumN (List.replicate a.length 0) := by
  have hz : List.zipWith (· ^^^ ·) (List.zipWith (· ^^^ ·) a b) (List.replicate a.length (0 : UInt8)) = List.zipWith (· ^^^ ·) a b := by
    apply List.ext_getElem
    · simp [h]
    · intro i h1 h2
      simp
  unfold sumN
  generalize (4294967295 : Nat) = c
  have e := fold_xor (List.zipWith (· ^^^ ·) a b) (List.replicate a.length 0) (c ^^^ c) c (by simp [h])
  have e1 := fold_xor a b c c h
  rw [hz, e1] at e
  have e0 : c ^^^ c ^^^ c = c := by rw [Nat.xor_self, Nat.zero_xor]
  rw [e0] at e
  rw [e]
  generalize a.foldl bst c = x
  generalize b.foldl bst c = y
  generalize (List.replicate a.length (0 : UInt8)).foldl bst c = z
  apply Nat.eq_of_testBit_eq
  intro i
  simp only [Nat.testBit_xor]
  cases x.testBit i <;> cases y.testBit i <;> cases z.testBit i <;> cases c.testBit i <;> rfl

/-! ### Bits turned within 32 -/
theorem high_set {x : Nat} (h : x < 2147483648) : 2147483648 ≤ x ^^^ 3988292384 := by
  have h1 : (x ^^^ 3988292384).testBit 31 = true := by
    rw [Nat.testBit_xor, Nat.testBit_lt_two_pow (show x < 2 ^ 31 by omega)]
    decide
  exact Nat.ge_two_pow_of_testBit h1

/-- Bits from nothing: if the state is small, they are all 0. -/
theorem burst : ∀ (l : List Bool), l.length ≤ 32 → bf 0 l.reverse < 2 ^ (32 - l.length) → (∀ b ∈ l, b = false) ∧ bf 0 l.reverse = 0
  | [], _, _ => ⟨by simp, rfl⟩
  | b :: l, hl, h => by
    rw [List.reverse_cons, bf_append] at h ⊢
    have hl' : l.length + 1 ≤ 32 := by simpa using hl
    change stp (bf 0 l.reverse ^^^ b.toNat) < _ at h
    show _ ∧ stp (bf 0 l.reverse ^^^ b.toNat) = 0
    simp only [List.length_cons] at h
    have hp : 2 ^ (32 - l.length) = 2 * 2 ^ (32 - (l.length + 1)) := by
      rw [show 32 - l.length = (32 - (l.length + 1)) + 1 by omega, Nat.pow_succ]; omega
    have hp31 : 2 ^ (32 - (l.length + 1)) ≤ 2147483648 := Nat.pow_le_pow_right (n := 2) (by omega) (show 32 - (l.length + 1) ≤ 31 by omega)
    have hlt32 : ∀ k : List Bool, bf 0 k < 4294967296 := by
      intro k
      have : ∀ (k : List Bool) (r : Nat), r < 4294967296 → bf r k < 4294967296 := by
        intro k
        induction k with
        | nil => exact fun r h => h
        | cons c k ih => intro r h; exact ih _ (stp_lt (Nat.xor_lt_two_pow (n := 32) h (by cases c <;> decide)))
      exact this k 0 (by omega)
    generalize hd : bf 0 l.reverse = d at *
    have hd32 : d < 4294967296 := hd ▸ hlt32 _
    have hy32 : d ^^^ b.toNat < 4294967296 := Nat.xor_lt_two_pow (n := 32) hd32 (by cases b <;> decide)
    have heven : (d ^^^ b.toNat) % 2 = 0 := by
      apply Classical.byContradiction
      intro hn
      unfold stp at h
      rw [if_neg hn] at h
      have := high_set (x := (d ^^^ b.toNat) / 2) (by omega)
      omega
    have hst : stp (d ^^^ b.toNat) = (d ^^^ b.toNat) / 2 := by unfold stp; rw [if_pos heven]
    rw [hst] at h ⊢
    have hm : (d ^^^ b.toNat) % 2 = d % 2 ^^^ b.toNat % 2 := xor_mod2 d b.toNat 1
    have hdv : (d ^^^ b.toNat) / 2 = d / 2 ^^^ b.toNat / 2 := xor_div2 d b.toNat 1
    have hb2 : b.toNat / 2 = 0 := by cases b <;> rfl
    rw [hb2, Nat.xor_zero] at hdv
    have hdlt : d < 2 ^ (32 - l.length) := by rw [hp]; omega
    obtain ⟨h1, h2⟩ := burst l (by omega) (by rw [hd]; exact hdlt)
    rw [hd] at h2
    subst h2
    have hbf : b = false := by
      cases b
      · rfl
      · exfalso; revert heven; decide
    subst hbf
    refine ⟨fun x hx => ?_, by decide⟩
    rcases List.mem_cons.1 hx with rfl | hx
    · rfl
    · exact h1 x hx

theorem bf_zeros : ∀ (k r : Nat), r ≠ 0 → r < 4294967296 → bf r (List.replicate k false) ≠ 0
  | 0, r, h, _ => h
  | k + 1, r, h, h32 => by
    have hs : stp (r ^^^ 0) ≠ 0 := by
      rw [Nat.xor_zero]
      unfold stp
      split
      · omega
      · have := high_set (x := r / 2) (by omega); omega
    exact bf_zeros k _ hs (stp_lt (show r ^^^ 0 < 4294967296 by rw [Nat.xor_zero]; exact h32))
theorem bf_zero : ∀ k, bf 0 (List.replicate k false) = 0
  | 0 => rfl
  | k + 1 => bf_zero k
theorem bf_lt : ∀ (k : List Bool) (r : Nat), r < 4294967296 → bf r k < 4294967296
  | [], _, h => h
  | c :: k, r, h => bf_lt k _ (stp_lt (Nat.xor_lt_two_pow (n := 32) h (by cases c <;> decide)))

/-- Bytes that differ just in some bits of a window of 32 have another checksum. -/
theorem sum_turned {x t : List UInt8} {at_ m : Nat} (hl : t.length = x.length) (hat : at_ + 32 ≤ 8 * x.length) (hm : m ≠ 0) (hm32 : m < 4294967296)
    (hb : ∀ p, p < 8 * x.length → bitAt t p = Bool.xor (bitAt x p) (decide (at_ ≤ p ∧ p < at_ + 32) && m.testBit (p - at_))) : sumN t ≠ sumN x := by
  intro he
  have hd : List.zipWith Bool.xor (bits t) (bits x) = List.replicate at_ false ++ ((List.range 32).map fun i => m.testBit i) ++ List.replicate (8 * x.length - at_ - 32) false := by
    apply List.ext_getElem?
    intro p
    by_cases hp : p < 8 * x.length
    · have h1 := bits_get t p (by omega)
      have h2 := bits_get x p hp
      rw [List.getElem?_zipWith, h1, h2]
      simp only
      rw [hb p hp]
      by_cases ha : p < at_
      · rw [List.append_assoc, List.getElem?_append_left (by simpa using ha)]
        have : ¬ (at_ ≤ p ∧ p < at_ + 32) := by omega
        simp [this, ha]
      · by_cases hc : p < at_ + 32
        · rw [List.append_assoc, List.getElem?_append_right (by simp; omega), List.getElem?_append_left (by simp; omega)]
          have : at_ ≤ p ∧ p < at_ + 32 := by omega
          simp only [List.length_replicate, List.getElem?_map]
          rw [List.getElem?_range (by omega)]
          simp only [this, and_self, decide_true, Bool.true_and, Option.map_some, Option.some.injEq]
          cases bitAt x p <;> cases m.testBit (p - at_) <;> rfl
        · rw [List.getElem?_append_right (by simp; omega)]
          have : ¬ (at_ ≤ p ∧ p < at_ + 32) := by omega
          simp only [List.length_append, List.length_replicate, List.length_map, List.length_range, List.getElem?_replicate]
          rw [if_pos (by omega)]
          simp [this]
    · rw [List.getElem?_eq_none (by rw [List.length_zipWith, bits_len, bits_len]; omega), List.getElem?_eq_none (by simp; omega)]
  have hx := bf_xor (bits t) (bits x) 4294967295 4294967295 (by rw [bits_len, bits_len, hl])
  rw [Nat.xor_self, hd, bf_append, bf_append, bf_zero] at hx
  have h0 : bf 4294967295 (bits t) ^^^ bf 4294967295 (bits x) = 0 := by
    unfold sumN at he
    rw [fold_bits, fold_bits] at he
    have : bf 4294967295 (bits t) = bf 4294967295 (bits x) := by
      have := congrArg (· ^^^ 4294967295) he
      simpa [Nat.xor_assoc] using this
    rw [this, Nat.xor_self]
  rw [h0] at hx
  have hne : bf 0 ((List.range 32).map fun i => m.testBit i) ≠ 0 := by
    intro h32
    have hr : ((List.range 32).map fun i => m.testBit i).reverse.reverse = (List.range 32).map fun i => m.testBit i := List.reverse_reverse _
    obtain ⟨h1, _⟩ := burst ((List.range 32).map fun i => m.testBit i).reverse (by simp) (by rw [hr, h32]; simp)
    apply hm
    apply Nat.eq_of_testBit_eq
    intro i
    rw [Nat.zero_testBit]
    by_cases hi : i < 32
    · exact h1 _ (by simp only [List.mem_reverse, List.mem_map, List.mem_range]; exact ⟨i, hi, rfl⟩)
    · exact Nat.testBit_lt_two_pow (Nat.lt_of_lt_of_le hm32 (Nat.pow_le_pow_right (n := 2) (by omega) (show 32 ≤ i by omega)))
  exact bf_zeros _ _ hne (bf_lt _ _ (by omega)) hx
end Go.Proofs.YtnkdonpammdldaaDoor
