/- Numbers: what the formulas' operations on whole numbers are on natural numbers. Conditions: none. -/
import Derived.Test.YtkfdkcclojepnaaGreatM
namespace Go.Proofs.YtkfdkcclojepnaaGreat
open Go Go.RowKit
theorem wrap_nat {k : IntKind} (hk : k.signed = false) {a : Nat} (h : a < 2 ^ k.bits) : IntKind.wrap k (a : Int) = (a : Int) := by
  cases k <;> simp only [IntKind.signed] at hk <;> first
    | (cases hk; done)
    | (simp only [IntKind.bits] at h; simp only [IntKind.wrap, IntKind.bits, IntKind.signed, Bool.false_and, Bool.false_eq_true, if_false]; omega)
theorem ofInt_nat (n a : Nat) : BitVec.ofInt n (a : Int) = BitVec.ofNat n a := BitVec.ofInt_ofNat n a
theorem andV_nat {k : IntKind} (hk : k.signed = false) {a b : Nat} (ha : a < 2 ^ k.bits) (hb : b < 2 ^ k.bits) : andV k (a : Int) (b : Int) = ((a &&& b : Nat) : Int) := by
  unfold andV
  rw [ofInt_nat, ofInt_nat, BitVec.toNat_and, BitVec.toNat_ofNat, BitVec.toNat_ofNat, Nat.mod_eq_of_lt ha, Nat.mod_eq_of_lt hb]
  exact wrap_nat hk (Nat.lt_of_le_of_lt Nat.and_le_left ha)
theorem orV_nat {k : IntKind} (hk : k.signed = false) {a b : Nat} (ha : a < 2 ^ k.bits) (hb : b < 2 ^ k.bits) : orV k (a : Int) (b : Int) = ((a ||| b : Nat) : Int) := by
  unfold orV
  rw [ofInt_nat, ofInt_nat, BitVec.toNat_or, BitVec.toNat_ofNat, BitVec.toNat_ofNat, Nat.mod_eq_of_lt ha, Nat.mod_eq_of_lt hb]
  exact wrap_nat hk (Nat.or_lt_two_pow ha hb)
theorem xorV_nat {k : IntKind} (hk : k.signed = false) {a b : Nat} (ha : a < 2 ^ k.bits) (hb : b < 2 ^ k.bits) : xorV k (a : Int) (b : Int) = ((a ^^^ b : Nat) : Int) := by
  unfold xorV
  rw [ofInt_nat, ofInt_nat, BitVec.toNat_xor, BitVec.toNat_ofNat, BitVec.toNat_ofNat, Nat.mod_eq_of_lt ha, Nat.mod_eq_of_lt hb]
  exact wrap_nat hk (Nat.xor_lt_two_pow ha hb)
theorem shrV_nat {k : IntKind} {a s : Nat} (hs : s ≤ k.bits) : shrV k (a : Int) (s : Int) = ((a / 2 ^ s : Nat) : Int) := by
  unfold shrV
  rw [Int.toNat_natCast, Nat.min_eq_left hs, Int.fdiv_eq_ediv_of_nonneg _ (by exact Int.pow_nonneg (by omega))]
  norm_cast
theorem shlV_nat {k : IntKind} (hk : k.signed = false) {a s : Nat} (hs : s ≤ k.bits) : shlV k (a : Int) (s : Int) = ((a * 2 ^ s % 2 ^ k.bits : Nat) : Int) := by
  unfold shlV
  rw [Int.toNat_natCast, Nat.min_eq_left hs]
  have : (a : Int) * 2 ^ s = ((a * 2 ^ s : Nat) : Int) := by norm_cast
  rw [this]
  generalize a * 2 ^ s = x
  cases k <;> simp only [IntKind.signed] at hk <;> first
    | (cases hk; done)
    | (simp only [IntKind.wrap, IntKind.bits, IntKind.signed, Bool.false_and, Bool.false_eq_true, if_false]; omega)
theorem wrap_mod {k : IntKind} (hk : k.signed = false) (a : Nat) : IntKind.wrap k (a : Int) = ((a % 2 ^ k.bits : Nat) : Int) := by
  cases k <;> simp only [IntKind.signed] at hk <;> first
    | (cases hk; done)
    | (simp only [IntKind.wrap, IntKind.bits, IntKind.signed, Bool.false_and, Bool.false_eq_true, if_false]; omega)
theorem u8_mod (a : Nat) : IntKind.wrap .u8 (a : Int) = ((a % 256 : Nat) : Int) := wrap_mod (k := .u8) rfl a
theorem u64_mod (a : Nat) : IntKind.wrap .u64 (a : Int) = ((a % 18446744073709551616 : Nat) : Int) := wrap_mod (k := .u64) rfl a
theorem or_128 : ∀ x : Nat, x < 256 → x ||| 128 = x % 128 + 128 := by decide +kernel
theorem and_127 (x : Nat) : x &&& 127 = x % 128 := Nat.and_two_pow_sub_one_eq_mod x 7
theorem and_1 (x : Nat) : x &&& 1 = x % 2 := Nat.and_two_pow_sub_one_eq_mod x 1
theorem bv_of {x : Nat} (h : x < 256) : (Value.int .u8 (x : Int)) = bv (UInt8.ofNat x) := by
  simp [bv, UInt8.toNat_ofNat', Nat.mod_eq_of_lt h]
theorem u8_lt (x : UInt8) : x.toNat < 256 := x.toNat_lt
end Go.Proofs.YtkfdkcclojepnaaGreat
