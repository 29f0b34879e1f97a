/- Contracts of the package field: the writer's S and Out; the reader. Conditions: lengths below 2^46. -/
import Derived.Test.YtplfoedgekdjgaaDoorFa
namespace Go.Proofs.YtplfoedgekdjgaaDoor
open Go Go.RowKit

theorem xor_ones {n x : Nat} (h : x < 2 ^ n) : x ^^^ (2 ^ n - 1) = 2 ^ n - 1 - x := by
  have h1 : (BitVec.ofNat n x ^^^ BitVec.allOnes n).toNat = x ^^^ (2 ^ n - 1) := by
    rw [BitVec.toNat_xor, BitVec.toNat_allOnes, BitVec.toNat_ofNat, Nat.mod_eq_of_lt h]
  rw [← h1, BitVec.xor_allOnes, BitVec.toNat_not, BitVec.toNat_ofNat, Nat.mod_eq_of_lt h]

theorem xor_ones64 {x : Nat} (h : x < 18446744073709551616) : x ^^^ 18446744073709551615 = 18446744073709551615 - x := xor_ones (n := 64) h

theorem zig_lt {i : Int} (h0 : -9223372036854775808 ≤ i) (h1 : i ≤ 9223372036854775807) : zig i < 18446744073709551616 := by
  unfold zig; split <;> omega

theorem zig_code {i : Int} (h0 : -9223372036854775808 ≤ i) (h1 : i ≤ 9223372036854775807) :
    xorV .u64 (shlV .u64 (IntKind.wrap .u64 i) 1) (IntKind.wrap .u64 (shrV .i64 i 63)) = (zig i : Int) := by
  have hs : shrV .i64 i 63 = if 0 ≤ i then 0 else -1 := by
    unfold shrV
    simp only [IntKind.bits]
    have : (2 : Int) ^ (min (63 : Int).toNat 64) = 9223372036854775808 := by decide
    rw [this]
    split
    · rw [Int.fdiv_eq_ediv_of_nonneg _ (by omega)]; omega
    · rw [Int.fdiv_eq_ediv_of_nonneg _ (by omega)]; omega
  rw [hs]
  by_cases hi : 0 ≤ i
  · rw [if_pos hi]
    obtain ⟨n, rfl⟩ := Int.eq_ofNat_of_zero_le hi
    rw [u64_mod, show (1 : Int) = ((1 : Nat) : Int) from rfl, shlV_nat rfl (by simp [IntKind.bits]), show (0 : Int) = ((0 : Nat) : Int) from rfl, u64_mod]
    rw [xorV_nat rfl (by simp only [IntKind.bits]; omega) (by simp [IntKind.bits])]
    simp only [Nat.zero_mod, Nat.xor_zero, zig, hi, if_true, IntKind.bits]
    omega
  · rw [if_neg hi]
    have hw : IntKind.wrap .u64 i = ((i + 18446744073709551616).toNat : Int) := by
      simp only [IntKind.wrap, IntKind.bits, IntKind.signed, Bool.false_and, Bool.false_eq_true, if_false]; omega
    have hw1 : IntKind.wrap .u64 (-1) = ((18446744073709551615 : Nat) : Int) := by decide
    rw [hw, hw1, show (1 : Int) = ((1 : Nat) : Int) from rfl, shlV_nat rfl (by simp [IntKind.bits])]
    rw [xorV_nat rfl (by simp only [IntKind.bits]; omega) (by simp [IntKind.bits])]
    simp only [IntKind.bits]
    rw [xor_ones64 (by omega)]
    simp only [zig, hi, if_false]
    omega

def unzig (n : Nat) : Int := if n % 2 = 0 then ((n / 2 : Nat) : Int) else -((n / 2 : Nat) : Int) - 1

theorem unzig_code {n : Nat} (h : n < 18446744073709551616) :
    xorV .i64 (IntKind.wrap .i64 (shrV .u64 (n : Int) 1)) (IntKind.wrap .i64 (0 - (IntKind.wrap .i64 (andV .u64 (n : Int) 1)))) = unzig n := by
  rw [show (1 : Int) = ((1 : Nat) : Int) from rfl, shrV_nat (by simp [IntKind.bits]), andV_nat rfl (by simpa [IntKind.bits] using h) (by simp [IntKind.bits]), and_1]
  rw [wrap_i64 (x := ((n / 2 ^ 1 : Nat) : Int)) (by omega) (by omega), wrap_i64 (x := ((n % 2 : Nat) : Int)) (by omega) (by omega)]
  unfold unzig xorV
  have hb : (2 ^ 1 : Nat) = 2 := rfl
  rw [hb]
  split
  · rename_i he
    have w0 : IntKind.wrap .i64 ((0 : Int) - ((0 : Nat) : Int)) = 0 := by decide
    rw [he, w0]
    show IntKind.wrap .i64 ((BitVec.ofInt 64 ((n / 2 : Nat) : Int) ^^^ BitVec.ofInt 64 0 : BitVec 64).toNat : Int) = _
    have : BitVec.ofInt 64 0 = 0#64 := by decide
    rw [this, BitVec.xor_zero, ofInt_nat, BitVec.toNat_ofNat, Nat.mod_eq_of_lt (by omega)]
    exact wrap_i64 (by omega) (by omega)
  · rename_i he
    have he1 : n % 2 = 1 := by omega
    have w1 : IntKind.wrap .i64 ((0 : Int) - ((1 : Nat) : Int)) = -1 := by decide
    rw [he1, w1]
    show IntKind.wrap .i64 ((BitVec.ofInt 64 ((n / 2 : Nat) : Int) ^^^ BitVec.ofInt 64 (-1) : BitVec 64).toNat : Int) = _
    have : BitVec.ofInt 64 (-1) = BitVec.allOnes 64 := by decide
    rw [this, BitVec.xor_allOnes, ofInt_nat, BitVec.toNat_not, BitVec.toNat_ofNat, Nat.mod_eq_of_lt (by omega)]
    simp only [IntKind.wrap, IntKind.bits, IntKind.signed, Bool.true_and]
    split
    · omega
    · rename_i hh; have := of_decide_eq_false (Bool.eq_false_iff.2 hh); omega

theorem unzig_zig (i : Int) : unzig (zig i) = i := by
  unfold unzig zig
  split <;> split <;> omega

theorem writer_S {w : World} {B : Nat} {g : Option Addr} {bs : List UInt8} {i : Int} {R : Ending → World → Prop} (hw : Wr w B g bs) (h0 : -9223372036854775808 ≤ i) (h1 : i ≤ 9223372036854775807) (hb : bs.length + 20 < 70368744177664)
    (h : ∀ g' w', Wr w' B g' (bs ++ vform (zig i)) → Kp (fpW B g) w w' → (∀ k, Is g' k → Is g k ∨ w.heap.size ≤ k) → R (.returned (.tuple #[])) w') :
    GoC Tryd.prog F_field_Writer_S #[.pointer (some ⟨B, 0, none⟩), .int .i64 i] w R := by
  refine S_field_Writer_S ?_
  unfold W_field_Writer_S
  refine ⟨by decide, by decide, ?_⟩
  rw [zig_code h0 h1]
  exact writer_U hw (zig_lt h0 h1) hb fun g' w' a b c => ⟨rfl, h g' w' a b c⟩

theorem Wr.len {w : World} {B : Nat} {g : Option Addr} {bs : List UInt8} (h : Wr w B g bs) : ∃ l c, Blk w B #[.slice g l c] T_field_Writer ∧ Sl w T_uint8 1 g l c (bvs bs) ∧ bs.length = l := by
  obtain ⟨⟨l, c, h1, h2⟩, _⟩ := h
  exact ⟨l, c, h1, h2, by rw [← bvs_len]; exact h2.len⟩

theorem writer_Out {w : World} {B : Nat} {g : Option Addr} {bs : List UInt8} {R : Ending → World → Prop} (hw : Wr w B g bs) (hb : bs.length < 70368744177664)
    (h : ∀ a c w', Sl w' T_uint8 1 a bs.length c (bvs bs) → Kp no w w' → Fresh w a → R (.returned (.slice a bs.length c)) w') :
    GoC Tryd.prog F_field_Writer_Out #[.pointer (some ⟨B, 0, none⟩)] w R := by
  refine S_field_Writer_Out ?_
  unfold W_field_Writer_Out
  obtain ⟨l, c, h1, h2, rfl⟩ := hw.len
  refine ⟨g, _, c, by rw [h1.cell]; rfl, ?_⟩
  refine clone_c h2.rd rfl (fun hn => ?_) (by omega) fun a' c' w' hs hk hf => ⟨a', _, c', rfl, h a' c' w' hs hk hf⟩
  subst hn
  rcases h2.2.2 with ⟨_, h0⟩ | ⟨_, _, h0, _⟩
  · have := h2.2.1; omega
  · cases h0

/-! ### The reader -/
/-- A reader at block B over the bytes bs, which lie at g, are its own and are never written; it stands at 'at_'; its fault is e. -/
structure Re (w : World) (B : Nat) (g : Option Addr) (bs : List UInt8) (at_ e : Nat) : Prop where
  ex : ∃ c, Blk w B #[.slice g bs.length c, .int .i64 (at_ : Int), .int .i64 (e : Int)] T_field_Reader ∧ Sl w T_uint8 1 g bs.length c (bvs bs)
  ap : ¬ Is g B
  le : at_ ≤ bs.length

theorem Re.kp {S : Nat → Prop} {w w' : World} {B : Nat} {g : Option Addr} {bs : List UInt8} {a e : Nat} (h : Re w B g bs a e) (k : Kp S w w') (hn : ∀ b, fpW B g b → ¬ S b) : Re w' B g bs a e := by
  obtain ⟨⟨c, h1, h2⟩, h3, h4⟩ := h
  exact ⟨⟨c, k.blk h1 (hn _ (.inl rfl)), h2.kp k fun b hb => hn b (.inr hb)⟩, h3, h4⟩
theorem Re.kp0 {w w' : World} {B : Nat} {g : Option Addr} {bs : List UInt8} {a e : Nat} (h : Re w B g bs a e) (k : Kp no w w') : Re w' B g bs a e := h.kp k fun _ _ h => h.elim
theorem Re.lt {w : World} {B : Nat} {g : Option Addr} {bs : List UInt8} {a e : Nat} (h : Re w B g bs a e) : ∀ k, fpW B g k → k < w.heap.size := by
  obtain ⟨⟨c, h1, h2⟩, h3, _⟩ := h
  rintro k (rfl | hk)
  · exact h1.lt
  · exact h2.lt k hk

theorem newReader_c {a : Option Addr} {l c : Nat} {bs : List UInt8} {w : World} {R : Ending → World → Prop} (hr : Rd w a (bvs bs)) (hl : bs.length = l) (h0 : a = none → l = 0) (hb : l ≤ 70368744177664)
    (h : ∀ B g w', Re w' B g bs 0 0 → Kp no w w' → w.heap.size ≤ B → Fresh w g → R (.returned (.pointer (some ⟨B, 0, none⟩))) w') : GoC Tryd.prog F_field_NewReader #[.slice a l c] w R := by
  subst hl
  refine S_field_NewReader ?_
  unfold W_field_NewReader
  refine clone_c hr rfl h0 hb fun a' c' w1 hs k1 hf => ⟨a', _, c', rfl, ?_⟩
  refine AlF.intro fun B w2 hB hblk k2 _ => h B a' w2 ⟨⟨c', hblk, hs.kp0 k2⟩, fun hh => ?_, Nat.zero_le _⟩ (k1.trans0 k2) (by have := k1.size; omega) hf
  have := hs.lt B hh
  omega

/-- How many bytes from the first on have their highest bit set. -/
def hiRun : List UInt8 → Nat
  | [] => 0
  | c :: r => if 128 ≤ c.toNat then hiRun r + 1 else 0
theorem hiRun_le : ∀ l : List UInt8, hiRun l ≤ l.length
  | [] => Nat.le_refl _
  | c :: r => by
    unfold hiRun
    split
    · have := hiRun_le r; simp; omega
    · simp
/-- The number whose groups these are. -/
def gval : List UInt8 → Nat
  | [] => 0
  | c :: r => c.toNat % 128 + 128 * gval r
/-- The number that stands at the head of these bytes: it, how many bytes it has, the fault (0: none). -/
def parse (l : List UInt8) : Nat × Nat × Nat :=
  if 10 ≤ hiRun l then (0, 0, 22)
  else if hiRun l = l.length then (0, 0, 20)
  else if (0 < hiRun l ∧ (l.getD (hiRun l) 0).toNat = 0) ∨ (hiRun l = 9 ∧ 1 < (l.getD (hiRun l) 0).toNat) then (0, 0, 22)
  else (gval (l.take (hiRun l + 1)), hiRun l + 1, 0)
end Go.Proofs.YtplfoedgekdjgaaDoor
