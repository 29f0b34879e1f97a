/- Several texts in one: Fa, Fb, Fc, Fd, Pv, Ra, Rb. Conditions: lengths below 2^47. -/
import Derived.Test.YtjhncijdkmbopaaF0
import Derived.Test.YtjhncijdkmbopaaNum
import Derived.Test.YtjhncijdkmbopaaM2
/-! Contracts of the package field: Clone, the writer. Each says, of any memory in which the objects stand as told, what the call answers and what it leaves. Conditions: lengths below 2^46. -/
namespace Go.Proofs.Ytjhncijdkmbopaa
open Go Go.RowKit

/-- slices.Clone of bytes. -/
theorem clone_c {a : Option Addr} {l c : Nat} {bs : List UInt8} {w : World} {R : Ending → World → Prop} (hr : Rd w a (bvs bs)) (hl : bs.length = l) (h0 : a = none → l = 0) (hb : l ≤ 140737488355328)
    (h : ∀ a' c' w', Sl w' T_uint8 1 a' l c' (bvs bs) → Kp no w w' → Fresh w a' → R (.returned (.slice a' l c')) w') : GoC Try.prog F_slices_Clone_s_byte_byte #[.slice a l c] w R := by
  refine S_slices_Clone_s_byte_byte ?_
  unfold W_slices_Clone_s_byte_byte
  refine cond_b (fun ha => ?_) (fun ha => ?_)
  · have ha' : a = none := by simpa using ha
    have hl0 := h0 ha'
    subst hl0
    have : bs = [] := List.eq_nil_of_length_eq_zero hl
    subst this
    exact h none 0 w (Sl.nil _ _ _) (Kp.refl _ _) (by rintro k ⟨ad, had, _⟩; cases had)
  · refine AlF.intro fun b w1 hbe hblk k1 _ => ?_
    have hs0 : Sl w1 T_uint8 1 (some ⟨b, 0, none⟩) 0 0 [] := ⟨by simp, Nat.le_refl _, .inr ⟨b, _, rfl, hblk, by simp, by simp⟩⟩
    refine append_own er_u8 hs0 (hr.kp0 k1) (by rw [bvs_len]; omega) (fun hn => by rw [hn] at ha; cases ha) bvs_one (by omega) (by omega) fun a' c' w' hs hk hi hroom hgrow => ?_
    simp only [Nat.zero_add, List.nil_append] at hs hroom hgrow ⊢
    refine ⟨a', l, c', rfl, h a' c' w' hs ?_ ?_⟩
    · refine k1.trans hk (fun k _ h => h) fun k hk1 hk2 => ?_
      obtain ⟨ad, had, hk2⟩ := hk2
      cases had
      simp only at hk2
      omega
    · intro k hk2
      rcases hi k hk2 with ⟨ad, had, hk3⟩ | hk3
      · cases had; simp only at hk3; omega
      · have := k1.size; omega

/-! ### The writer -/
/-- The form of a number from 0 on: groups of seven bits, the lowest first. -/
def vform (n : Nat) : List UInt8 := if n < 128 then [UInt8.ofNat n] else UInt8.ofNat (n % 128 + 128) :: vform (n / 128)
termination_by n
decreasing_by omega

theorem vform_len (n : Nat) : ∀ k, n < 128 ^ (k + 1) → (vform n).length ≤ k + 1 := by
  intro k
  induction k generalizing n with
  | zero => intro h; unfold vform; rw [if_pos (by omega)]; simp
  | succ k ih =>
    intro h
    unfold vform
    split
    · simp
    · simp only [List.length_cons]
      have := ih (n / 128) (by rw [Nat.pow_succ] at h; omega)
      omega
theorem vform_len64 {n : Nat} (h : n < 18446744073709551616) : (vform n).length ≤ 10 := vform_len n 9 (by omega)
theorem vform_pos (n : Nat) : 0 < (vform n).length := by unfold vform; split <;> simp

/-- A writer at block B, whose bytes lie at g: bs. -/
structure Wr (w : World) (B : Nat) (g : Option Addr) (bs : List UInt8) : Prop where
  ex : ∃ l c, Blk w B #[.slice g l c] T_field_Writer ∧ Sl w T_uint8 1 g l c (bvs bs)
  ap : ¬ Is g B

def fpW (B : Nat) (g : Option Addr) : Nat → Prop := fun k => k = B ∨ Is g k

theorem Wr.kp {S : Nat → Prop} {w w' : World} {B : Nat} {g : Option Addr} {bs : List UInt8} (h : Wr w B g bs) (k : Kp S w w') (hn : ∀ b, fpW B g b → ¬ S b) : Wr w' B g bs := by
  obtain ⟨⟨l, c, h1, h2⟩, h3⟩ := h
  exact ⟨⟨l, c, k.blk h1 (hn _ (.inl rfl)), h2.kp k fun b hb => hn b (.inr hb)⟩, h3⟩
theorem Wr.kp0 {w w' : World} {B : Nat} {g : Option Addr} {bs : List UInt8} (h : Wr w B g bs) (k : Kp no w w') : Wr w' B g bs := h.kp k fun _ _ h => h.elim
theorem Wr.lt {w : World} {B : Nat} {g : Option Addr} {bs : List UInt8} (h : Wr w B g bs) : ∀ k, fpW B g k → k < w.heap.size := by
  obtain ⟨⟨l, c, h1, h2⟩, h3⟩ := h
  rintro k (rfl | hk)
  · exact h1.lt
  · exact h2.lt k hk

theorem newWriter_c {w : World} {R : Ending → World → Prop} (h : ∀ B w', Wr w' B none [] → Kp no w w' → w.heap.size ≤ B → R (.returned (.pointer (some ⟨B, 0, none⟩))) w') : GoC Try.prog F_field_NewWriter #[] w R := by
  refine S_field_NewWriter ?_
  unfold W_field_NewWriter
  refine AlF.intro fun b w1 hbe hblk k1 _ => h b w1 ⟨⟨0, 0, hblk, Sl.nil _ _ _⟩, by rintro ⟨ad, had, _⟩; cases had⟩ k1 (by omega)

/-- One byte more. -/
theorem wr_push {w : World} {B : Nat} {g : Option Addr} {bs : List UInt8} (hw : Wr w B g bs) (x : UInt8) (v : Int) (hv : v = (x.toNat : Int)) (hb : bs.length < 140737488355328) {K : World → Prop}
    (h : ∀ g' w', Wr w' B g' (bs ++ [x]) → Kp (fpW B g) w w' → (∀ k, Is g' k → Is g k ∨ w.heap.size ≤ k) → K w') :
    NilF (some ⟨B, 0, none⟩) fun d1 => ∃ (a1 : Option Addr) (l1 c1 : Nat), w.cell? d1 = some (.slice a1 l1 c1) ∧ AlF w (.cells #[.int .u8 v] T_uint8) fun b1 w2 =>
      RunF Try.prog (Builtin.append_ #[T_s_uint8, T_s_uint8] T_s_uint8 #[.slice a1 l1 c1, .slice (some ⟨b1, 0, none⟩) 1 1]) w2 fun r1 w3 => ∃ (a2 : Option Addr) (l2 c2 : Nat), r1 = .slice a2 l2 c2 ∧ NilF (some ⟨B, 0, none⟩) fun d2 => StF w3 d2 (.slice a2 l2 c2) K := by
  obtain ⟨⟨l, c, h1, h2⟩, h3⟩ := hw
  refine ⟨g, l, c, by rw [h1.cell]; rfl, AlF.intro fun b w1 hbe hblk k1 hsz => ?_⟩
  have hn : Rd w1 (some ⟨b, 0, none⟩) (bvs [x]) := Rd.of_blk hblk fun i u hu => by
    subst hv
    rw [Nat.zero_add]
    match i, hu with
    | 0, hu => exact hu
  have hll : bs.length = l := by rw [← bvs_len]; exact h2.len
  refine append_own er_u8 (h2.kp0 k1) hn (by simp [bvs]) (fun hh => by cases hh) bvs_one (by omega) (by omega) fun a' c' w' hs hk hi _ _ => ?_
  have hB : B < w.heap.size := h1.lt
  have hB1 : Blk w1 B #[.slice g l c] T_field_Writer := k1.blk h1 id
  have hB2 : Blk w' B #[.slice g l c] T_field_Writer := hk.blk hB1 h3
  have hne : ¬ Is a' B := fun hh => by
    rcases hi B hh with hh | hh
    · exact h3 hh
    · omega
  refine ⟨a', l + 1, c', rfl, StF.intro hB2 (by simp) fun w2 hb2 k2 _ => ?_⟩
  have hs2 : Sl w2 T_uint8 1 a' (l + 1) c' (bvs (bs ++ [x])) := by
    rw [bvs_app]
    refine hs.kp k2 fun k hk hkB => ?_
    subst hkB
    exact hne hk
  refine h a' w2 ⟨⟨l + 1, c', by simpa using hb2, hs2⟩, hne⟩ ?_ ?_
  · refine (k1.trans hk (fun k _ h => h.elim) (fun k _ h => h)).trans k2 (fun k _ h => .inr h) (fun k _ h => .inl h)
  · intro k hk2
    rcases hi k hk2 with hh | hh
    · exact .inl hh
    · exact .inr (by omega)

theorem writer_U {w : World} {B : Nat} {g : Option Addr} {bs : List UInt8} {n : Nat} {R : Ending → World → Prop} (hw : Wr w B g bs) (hn : n < 18446744073709551616) (hb : bs.length + 20 < 140737488355329)
    (h : ∀ g' w', Wr w' B g' (bs ++ vform n) → Kp (fpW B g) w w' → (∀ k, Is g' k → Is g k ∨ w.heap.size ≤ k) → R (.returned (.tuple #[])) w') :
    GoC Try.prog F_field_Writer_U #[.pointer (some ⟨B, 0, none⟩), .int .u64 (n : Int)] w R := by
  refine S_field_Writer_U ?_
  unfold W_field_Writer_U
  have h10 := vform_len64 hn
  refine loopN (fun s w1 => ∃ (m : Nat) (g1 : Option Addr) (bs1 : List UInt8), s.1 = (m : Int) ∧ m < 18446744073709551616 ∧ Wr w1 B g1 bs1 ∧ bs1 ++ vform m = bs ++ vform n ∧ Kp (fpW B g) w w1 ∧ (∀ k, Is g1 k → Is g k ∨ w.heap.size ≤ k)) (fun s _ => s.1.toNat)
    ⟨n, g, bs, rfl, hn, hw, rfl, Kp.refl _ _, fun k hk => .inl hk⟩ ?_
  rintro ⟨s, u⟩ w1 ⟨m, g1, bs1, hs, hm, hw1, he, k1, hi1⟩ _
  dsimp only at hs ⊢
  subst hs
  have hlen : bs1.length < 140737488355328 := by
    have := congrArg List.length he
    simp only [List.length_append] at this
    omega
  have fp : ∀ k, k < w.heap.size → fpW B g1 k → fpW B g k := by
    rintro k hk (hh | hh)
    · exact .inl hh
    · rcases hi1 k hh with h2 | h2
      · exact .inr h2
      · omega
  refine cond_d (fun hge => ?_) (fun hlt => ?_)
  · have hm128 : 128 ≤ m := by omega
    have hv : orV .u8 (IntKind.wrap .u8 (m : Int)) 128 = ((UInt8.ofNat (m % 128 + 128)).toNat : Int) := by
      rw [u8_mod, show (128 : Int) = ((128 : Nat) : Int) from rfl, orV_nat rfl (by simp [IntKind.bits]; omega) (by simp [IntKind.bits]), or_128 _ (by omega)]
      simp only [UInt8.toNat_ofNat']
      omega
    refine wr_push hw1 _ _ hv hlen fun g2 w2 hw2 k2 hi2 => ?_
    refine ⟨by decide, ?_⟩
    have hsh : shrV .u64 (m : Int) 7 = ((m / 128 : Nat) : Int) := by
      rw [show (7 : Int) = ((7 : Nat) : Int) from rfl, shrV_nat (by simp [IntKind.bits])]
    rw [hsh]
    refine ⟨⟨m / 128, g2, _, rfl, by omega, hw2, ?_, k1.trans k2 (fun k _ h => h) fp, fun k hk => ?_⟩, ?_⟩
    · rw [← he]
      conv => rhs; rw [vform]
      rw [if_neg (by omega)]
      simp
    · rcases hi2 k hk with hh | hh
      · exact hi1 k hh
      · have := k1.size; exact .inr (by omega)
    · simp only [Int.toNat_natCast]; omega
  · have hm128 : m < 128 := by omega
    have hv : IntKind.wrap .u8 (m : Int) = ((UInt8.ofNat m).toNat : Int) := by
      rw [u8_mod]
      simp only [UInt8.toNat_ofNat']
    refine wr_push hw1 _ _ hv hlen fun g2 w2 hw2 k2 hi2 => ?_
    refine h g2 w2 ?_ (k1.trans k2 (fun k _ h => h) fp) fun k hk => ?_
    · rw [← he]
      conv in vform m => rw [vform]
      rw [if_pos hm128]
      exact hw2
    · rcases hi2 k hk with hh | hh
      · exact hi1 k hh
      · have := k1.size; exact .inr (by omega)

/-- The number as which one with a sign is written. -/
def zig (i : Int) : Nat := if 0 ≤ i then (2 * i).toNat else (-2 * i - 1).toNat
end Go.Proofs.Ytjhncijdkmbopaa
/-! Contracts of the package field: the writer's S and Out; the reader. Conditions: lengths below 2^46. -/
namespace Go.Proofs.Ytjhncijdkmbopaa
open Go Go.RowKit

theorem xor_ones {n x : Nat} (h : x < 2 ^ n) : x ^^^ (2 ^ n - 1) = 2 ^ n - 1 - x := by
  have h1 : (BitVec.ofNat n x ^^^ BitVec.allOnes n).toNat = x ^^^ (2 ^ n - 1) := by
    rw [BitVec.toNat_xor, BitVec.toNat_allOnes, BitVec.toNat_ofNat, Nat.mod_eq_of_lt h]
  rw [← h1, BitVec.xor_allOnes, BitVec.toNat_not, BitVec.toNat_ofNat, Nat.mod_eq_of_lt h]

theorem xor_ones64 {x : Nat} (h : x < 18446744073709551616) : x ^^^ 18446744073709551615 = 18446744073709551615 - x := xor_ones (n := 64) h

theorem zig_lt {i : Int} (h0 : -9223372036854775808 ≤ i) (h1 : i ≤ 9223372036854775807) : zig i < 18446744073709551616 := by
  unfold zig; split <;> omega

theorem zig_code {i : Int} (h0 : -9223372036854775808 ≤ i) (h1 : i ≤ 9223372036854775807) :
    xorV .u64 (shlV .u64 (IntKind.wrap .u64 i) 1) (IntKind.wrap .u64 (shrV .i64 i 63)) = (zig i : Int) := by
  have hs : shrV .i64 i 63 = if 0 ≤ i then 0 else -1 := by
    unfold shrV
    simp only [IntKind.bits]
    have : (2 : Int) ^ (min (63 : Int).toNat 64) = 9223372036854775808 := by decide
    rw [this]
    split
    · rw [Int.fdiv_eq_ediv_of_nonneg _ (by omega)]; omega
    · rw [Int.fdiv_eq_ediv_of_nonneg _ (by omega)]; omega
  rw [hs]
  by_cases hi : 0 ≤ i
  · rw [if_pos hi]
    obtain ⟨n, rfl⟩ := Int.eq_ofNat_of_zero_le hi
    rw [u64_mod, show (1 : Int) = ((1 : Nat) : Int) from rfl, shlV_nat rfl (by simp [IntKind.bits]), show (0 : Int) = ((0 : Nat) : Int) from rfl, u64_mod]
    rw [xorV_nat rfl (by simp only [IntKind.bits]; omega) (by simp [IntKind.bits])]
    simp only [Nat.zero_mod, Nat.xor_zero, zig, hi, if_true, IntKind.bits]
    omega
  · rw [if_neg hi]
    have hw : IntKind.wrap .u64 i = ((i + 18446744073709551616).toNat : Int) := by
      simp only [IntKind.wrap, IntKind.bits, IntKind.signed, Bool.false_and, Bool.false_eq_true, if_false]; omega
    have hw1 : IntKind.wrap .u64 (-1) = ((18446744073709551615 : Nat) : Int) := by decide
    rw [hw, hw1, show (1 : Int) = ((1 : Nat) : Int) from rfl, shlV_nat rfl (by simp [IntKind.bits])]
    rw [xorV_nat rfl (by simp only [IntKind.bits]; omega) (by simp [IntKind.bits])]
    simp only [IntKind.bits]
    rw [xor_ones64 (by omega)]
    simp only [zig, hi, if_false]
    omega

def unzig (n : Nat) : Int := if n % 2 = 0 then ((n / 2 : Nat) : Int) else -((n / 2 : Nat) : Int) - 1

theorem unzig_code {n : Nat} (h : n < 18446744073709551616) :
    xorV .i64 (IntKind.wrap .i64 (shrV .u64 (n : Int) 1)) (IntKind.wrap .i64 (0 - (IntKind.wrap .i64 (andV .u64 (n : Int) 1)))) = unzig n := by
  rw [show (1 : Int) = ((1 : Nat) : Int) from rfl, shrV_nat (by simp [IntKind.bits]), andV_nat rfl (by simpa [IntKind.bits] using h) (by simp [IntKind.bits]), and_1]
  rw [wrap_i64 (x := ((n / 2 ^ 1 : Nat) : Int)) (by omega) (by omega), wrap_i64 (x := ((n % 2 : Nat) : Int)) (by omega) (by omega)]
  unfold unzig xorV
  have hb : (2 ^ 1 : Nat) = 2 := rfl
  rw [hb]
  split
  · rename_i he
    have w0 : IntKind.wrap .i64 ((0 : Int) - ((0 : Nat) : Int)) = 0 := by decide
    rw [he, w0]
    show IntKind.wrap .i64 ((BitVec.ofInt 64 ((n / 2 : Nat) : Int) ^^^ BitVec.ofInt 64 0 : BitVec 64).toNat : Int) = _
    have : BitVec.ofInt 64 0 = 0#64 := by decide
    rw [this, BitVec.xor_zero, ofInt_nat, BitVec.toNat_ofNat, Nat.mod_eq_of_lt (by omega)]
    exact wrap_i64 (by omega) (by omega)
  · rename_i he
    have he1 : n % 2 = 1 := by omega
    have w1 : IntKind.wrap .i64 ((0 : Int) - ((1 : Nat) : Int)) = -1 := by decide
    rw [he1, w1]
    show IntKind.wrap .i64 ((BitVec.ofInt 64 ((n / 2 : Nat) : Int) ^^^ BitVec.ofInt 64 (-1) : BitVec 64).toNat : Int) = _
    have : BitVec.ofInt 64 (-1) = BitVec.allOnes 64 := by decide
    rw [this, BitVec.xor_allOnes, ofInt_nat, BitVec.toNat_not, BitVec.toNat_ofNat, Nat.mod_eq_of_lt (by omega)]
    simp only [IntKind.wrap, IntKind.bits, IntKind.signed, Bool.true_and]
    split
    · omega
    · rename_i hh; have := of_decide_eq_false (Bool.eq_false_iff.2 hh); omega

theorem unzig_zig (i : Int) : unzig (zig i) = i := by
  unfold unzig zig
  split <;> split <;> omega

theorem writer_S {w : World} {B : Nat} {g : Option Addr} {bs : List UInt8} {i : Int} {R : Ending → World → Prop} (hw : Wr w B g bs) (h0 : -9223372036854775808 ≤ i) (h1 : i ≤ 9223372036854775807) (hb : bs.length + 20 < 140737488355329)
    (h : ∀ g' w', Wr w' B g' (bs ++ vform (zig i)) → Kp (fpW B g) w w' → (∀ k, Is g' k → Is g k ∨ w.heap.size ≤ k) → R (.returned (.tuple #[])) w') :
    GoC Try.prog F_field_Writer_S #[.pointer (some ⟨B, 0, none⟩), .int .i64 i] w R := by
  refine S_field_Writer_S ?_
  unfold W_field_Writer_S
  refine ⟨by decide, by decide, ?_⟩
  rw [zig_code h0 h1]
  exact writer_U hw (zig_lt h0 h1) hb fun g' w' a b c => ⟨rfl, h g' w' a b c⟩

theorem Wr.len {w : World} {B : Nat} {g : Option Addr} {bs : List UInt8} (h : Wr w B g bs) : ∃ l c, Blk w B #[.slice g l c] T_field_Writer ∧ Sl w T_uint8 1 g l c (bvs bs) ∧ bs.length = l := by
  obtain ⟨⟨l, c, h1, h2⟩, _⟩ := h
  exact ⟨l, c, h1, h2, by rw [← bvs_len]; exact h2.len⟩

theorem writer_Out {w : World} {B : Nat} {g : Option Addr} {bs : List UInt8} {R : Ending → World → Prop} (hw : Wr w B g bs) (hb : bs.length < 140737488355329)
    (h : ∀ a c w', Sl w' T_uint8 1 a bs.length c (bvs bs) → Kp no w w' → Fresh w a → R (.returned (.slice a bs.length c)) w') :
    GoC Try.prog F_field_Writer_Out #[.pointer (some ⟨B, 0, none⟩)] w R := by
  refine S_field_Writer_Out ?_
  unfold W_field_Writer_Out
  obtain ⟨l, c, h1, h2, rfl⟩ := hw.len
  refine ⟨g, _, c, by rw [h1.cell]; rfl, ?_⟩
  refine clone_c h2.rd rfl (fun hn => ?_) (by omega) fun a' c' w' hs hk hf => ⟨a', _, c', rfl, h a' c' w' hs hk hf⟩
  subst hn
  rcases h2.2.2 with ⟨_, h0⟩ | ⟨_, _, h0, _⟩
  · have := h2.2.1; omega
  · cases h0

/-! ### The reader -/
/-- A reader at block B over the bytes bs, which lie at g, are its own and are never written; it stands at 'at_'; its fault is e. -/
structure Re (w : World) (B : Nat) (g : Option Addr) (bs : List UInt8) (at_ e : Nat) : Prop where
  ex : ∃ c, Blk w B #[.slice g bs.length c, .int .i64 (at_ : Int), .int .i64 (e : Int)] T_field_Reader ∧ Sl w T_uint8 1 g bs.length c (bvs bs)
  ap : ¬ Is g B
  le : at_ ≤ bs.length

theorem Re.kp {S : Nat → Prop} {w w' : World} {B : Nat} {g : Option Addr} {bs : List UInt8} {a e : Nat} (h : Re w B g bs a e) (k : Kp S w w') (hn : ∀ b, fpW B g b → ¬ S b) : Re w' B g bs a e := by
  obtain ⟨⟨c, h1, h2⟩, h3, h4⟩ := h
  exact ⟨⟨c, k.blk h1 (hn _ (.inl rfl)), h2.kp k fun b hb => hn b (.inr hb)⟩, h3, h4⟩
theorem Re.kp0 {w w' : World} {B : Nat} {g : Option Addr} {bs : List UInt8} {a e : Nat} (h : Re w B g bs a e) (k : Kp no w w') : Re w' B g bs a e := h.kp k fun _ _ h => h.elim
theorem Re.lt {w : World} {B : Nat} {g : Option Addr} {bs : List UInt8} {a e : Nat} (h : Re w B g bs a e) : ∀ k, fpW B g k → k < w.heap.size := by
  obtain ⟨⟨c, h1, h2⟩, h3, _⟩ := h
  rintro k (rfl | hk)
  · exact h1.lt
  · exact h2.lt k hk

theorem newReader_c {a : Option Addr} {l c : Nat} {bs : List UInt8} {w : World} {R : Ending → World → Prop} (hr : Rd w a (bvs bs)) (hl : bs.length = l) (h0 : a = none → l = 0) (hb : l ≤ 140737488355328)
    (h : ∀ B g w', Re w' B g bs 0 0 → Kp no w w' → w.heap.size ≤ B → Fresh w g → R (.returned (.pointer (some ⟨B, 0, none⟩))) w') : GoC Try.prog F_field_NewReader #[.slice a l c] w R := by
  subst hl
  refine S_field_NewReader ?_
  unfold W_field_NewReader
  refine clone_c hr rfl h0 hb fun a' c' w1 hs k1 hf => ⟨a', _, c', rfl, ?_⟩
  refine AlF.intro fun B w2 hB hblk k2 _ => h B a' w2 ⟨⟨c', hblk, hs.kp0 k2⟩, fun hh => ?_, Nat.zero_le _⟩ (k1.trans0 k2) (by have := k1.size; omega) hf
  have := hs.lt B hh
  omega

/-- How many bytes from the first on have their highest bit set. -/
def hiRun : List UInt8 → Nat
  | [] => 0
  | c :: r => if 128 ≤ c.toNat then hiRun r + 1 else 0
theorem hiRun_le : ∀ l : List UInt8, hiRun l ≤ l.length
  | [] => Nat.le_refl _
  | c :: r => by
    unfold hiRun
    split
    · have := hiRun_le r; simp; omega
    · simp
/-- The number whose groups these are. -/
def gval : List UInt8 → Nat
  | [] => 0
  | c :: r => c.toNat % 128 + 128 * gval r
/-- The number that stands at the head of these bytes: it, how many bytes it has, the fault (0: none). -/
def parse (l : List UInt8) : Nat × Nat × Nat :=
  if 10 ≤ hiRun l then (0, 0, 22)
  else if hiRun l = l.length then (0, 0, 20)
  else if (0 < hiRun l ∧ (l.getD (hiRun l) 0).toNat = 0) ∨ (hiRun l = 9 ∧ 1 < (l.getD (hiRun l) 0).toNat) then (0, 0, 22)
  else (gval (l.take (hiRun l + 1)), hiRun l + 1, 0)
end Go.Proofs.Ytjhncijdkmbopaa
/-! Contracts of the package field: the reader's next, U, S, End, Fault. Conditions: lengths below 2^46. -/
namespace Go.Proofs.Ytjhncijdkmbopaa
open Go Go.RowKit

theorem hi_step : ∀ (l : List UInt8) (k : Nat), k ≤ hiRun l → (h : k < l.length) → (128 ≤ (l[k]).toNat → k + 1 ≤ hiRun l) ∧ ((l[k]).toNat < 128 → hiRun l = k)
  | c :: r, 0, _, _ => by
    simp only [hiRun, List.getElem_cons_zero]
    constructor
    · intro h; rw [if_pos h]; omega
    · intro h; rw [if_neg (by omega)]
  | c :: r, k + 1, hk, h => by
    have hc : 128 ≤ c.toNat := by
      apply Classical.byContradiction
      intro hn
      simp only [hiRun, if_neg hn] at hk
      omega
    simp only [hiRun, if_pos hc] at hk ⊢
    have := hi_step r k (by omega) (by simpa using h)
    simp only [List.getElem_cons_succ]
    exact ⟨fun h => by have := this.1 h; omega, fun h => by rw [this.2 h]⟩
  | [], k, _, h => by simp at h

theorem gval_lt : ∀ l : List UInt8, gval l < 128 ^ l.length
  | [] => by simp [gval]
  | c :: r => by
    have := gval_lt r
    simp only [gval, List.length_cons, Nat.pow_succ]
    omega
theorem gval_snoc : ∀ (l : List UInt8) (x : UInt8), gval (l ++ [x]) = gval l + (x.toNat % 128) * 128 ^ l.length
  | [], x => by simp [gval]
  | c :: r, x => by
    rw [List.cons_append, gval, gval_snoc r x, gval, List.length_cons, Nat.pow_succ, Nat.mul_add, ← Nat.mul_assoc, ← Nat.mul_assoc, Nat.add_assoc]
    congr 2
    rw [Nat.mul_comm 128, Nat.mul_assoc, Nat.mul_assoc, Nat.mul_comm 128]
theorem pow128 (k : Nat) : 128 ^ k = 2 ^ (7 * k) := by rw [Nat.pow_mul]

/-- One group more: what the loop reckons. -/
theorem group_or {a k : Nat} {x : UInt8} (ha : a < 128 ^ k) (hk : k ≤ 8 ∨ (k = 9 ∧ x.toNat ≤ 1)) :
    orV .u64 (a : Int) (shlV .u64 (IntKind.wrap .u64 (andV .u8 ((x.toNat : Nat) : Int) 127)) (((7 * k : Nat)) : Int)) = ((a + (x.toNat % 128) * 128 ^ k : Nat) : Int) := by
  have hx := u8_lt x
  rw [show (127 : Int) = ((127 : Nat) : Int) from rfl, andV_nat rfl (by simpa [IntKind.bits] using hx) (by simp [IntKind.bits]), and_127, wrap_nat rfl (by simp only [IntKind.bits]; omega)]
  rw [shlV_nat rfl (by simp only [IntKind.bits]; omega)]
  have hp : 128 ^ k = 2 ^ (7 * k) := pow128 k
  have hlt : x.toNat % 128 * 2 ^ (7 * k) < 2 ^ 64 := by
    rcases hk with hk | ⟨rfl, h1⟩
    · have h2 : 2 ^ (7 * k) ≤ 2 ^ 56 := Nat.pow_le_pow_right (by omega) (by omega)
      have h3 : x.toNat % 128 < 128 := Nat.mod_lt _ (by omega)
      calc x.toNat % 128 * 2 ^ (7 * k) ≤ 127 * 2 ^ 56 := Nat.mul_le_mul (by omega) h2
        _ < 2 ^ 64 := by decide
    · have h3 : x.toNat % 128 ≤ 1 := by omega
      calc x.toNat % 128 * 2 ^ (7 * 9) ≤ 1 * 2 ^ (7 * 9) := Nat.mul_le_mul_right _ h3
        _ < 2 ^ 64 := by decide
  simp only [IntKind.bits]
  rw [Nat.mod_eq_of_lt hlt]
  have ha64 : a < 2 ^ 64 := by
    refine Nat.lt_of_lt_of_le ha ?_
    rw [hp]
    exact Nat.pow_le_pow_right (by omega) (by omega)
  rw [orV_nat rfl ha64 hlt, or_shift (hp ▸ ha), hp]

theorem parse_form {l : List UInt8} (h : 10 ≤ hiRun l) : parse l = (0, 0, 22) := by unfold parse; rw [if_pos h]
theorem next_c {w : World} {B : Nat} {g : Option Addr} {bs : List UInt8} {at_ e : Nat} {R : Ending → World → Prop} (hr : Re w B g bs at_ e) (hb : bs.length < 140737488355329)
    (h : ∀ w', Kp no w w' → R (.returned (.tuple #[.int .u64 ((parse (bs.drop at_)).1 : Int), .int .i64 ((parse (bs.drop at_)).2.1 : Int), .int .i64 ((parse (bs.drop at_)).2.2 : Int)])) w') :
    GoC Try.prog F_field_Reader_next #[.pointer (some ⟨B, 0, none⟩)] w R := by
  refine S_field_Reader_next ?_
  unfold W_field_Reader_next
  obtain ⟨⟨c, h1, h2⟩, h3, h4⟩ := hr
  have hcells : ∀ k, Blk (w.drewN k) B #[.slice g bs.length c, .int .i64 (at_ : Int), .int .i64 (e : Int)] T_field_Reader := fun k => h1
  refine ⟨g, bs.length, c, by rw [h1.cell]; rfl, ?_⟩
  refine ⟨(at_ : Int), by rw [add_at, h1.cell]; rfl, trivial, ⟨by omega, by simp only [hiOf]; omega⟩, fun k1 => ?_⟩
  rw [Int.toNat_natCast]
  have hrd : Rd (w.drewN k1) (subA g c at_ 1) (bvs (bs.drop at_)) := rd_drop (h2.kp0 (Kp.drew w k1)).rd h2.2.1
  have hlen : (bs.drop at_).length = bs.length - at_ := by simp
  generalize hrest : bs.drop at_ = rest at *
  refine loopN (fun s w1 => w1 = w.drewN k1 ∧ ∃ k : Nat, s.2.1 = (k : Int) ∧ k ≤ rest.length ∧ k ≤ 10 ∧ k ≤ hiRun rest ∧ (k ≤ 9 → s.1 = (gval (rest.take k) : Int))) (fun s _ => rest.length - s.2.1.toNat)
    ⟨rfl, 0, rfl, Nat.zero_le _, by omega, Nat.zero_le _, fun _ => by simp [gval]⟩ ?_
  rintro ⟨n, kk, u⟩ w1 ⟨rfl, k, hk, hkl, hk10, hhi, hn⟩ _
  dsimp only at hk hn ⊢
  subst hk
  refine cond_d (fun hlt => ?_) (fun hge => ?_)
  · have hkl' : k < rest.length := by omega
    refine hrd.idx (by omega) hlt (by rw [bvs_len]; omega) fun b o hg hc => ?_
    refine ⟨((rest[k]).toNat : Int), ?_, ?_⟩
    · rw [Int.toNat_natCast, add_at]
      exact hc k _ (bvs_get hkl')
    have hst := hi_step rest k hhi hkl'
    refine cond_eq (fun h10 => ?_) (fun h10 => ?_)
    · have : k = 10 := by omega
      have hp := parse_form (l := rest) (by omega)
      rw [hp] at h
      exact h _ (Kp.drew w k1)
    · have hk9 : k ≤ 9 := by omega
      have hw7 : IntKind.wrap .i64 (7 * (k : Int)) = ((7 * k : Nat) : Int) := by rw [wrap_i64 (by omega) (by omega)]; omega
      have hwk : IntKind.wrap .i64 ((k : Int) + 1) = ((k + 1 : Nat) : Int) := by rw [wrap_i64 (by omega) (by omega)]; omega
      have hgl : (rest.take k).length = k := by rw [List.length_take]; omega
      have hglt : gval (rest.take k) < 128 ^ k := by have := gval_lt (rest.take k); rwa [hgl] at this
      rw [hw7, hwk, hn hk9]
      refine ⟨by omega, cond_d (fun hc128 => ?_) (fun hc128 => ?_)⟩
      · refine ⟨⟨rfl, k + 1, rfl, by omega, by omega, hst.1 (by omega), fun hk8 => ?_⟩, by simp only [Int.toNat_natCast]; omega⟩
        rw [group_or hglt (.inl (by omega)), take_snoc_get rest k hkl', gval_snoc, hgl]
      · have hrun : hiRun rest = k := hst.2 (by omega)
        have hnl : ¬ (10 ≤ hiRun rest) := by omega
        have hnl2 : ¬ (hiRun rest = rest.length) := by omega
        have good : ¬ ((0 < k ∧ (rest[k]).toNat = 0) ∨ (k = 9 ∧ 1 < (rest[k]).toNat)) →
            R (.returned (.tuple #[.int .u64 (orV .u64 ((gval (rest.take k) : Nat) : Int) (shlV .u64 (IntKind.wrap .u64 (andV .u8 ((rest[k]).toNat : Int) 127)) ((7 * k : Nat) : Int))), .int .i64 ((k + 1 : Nat) : Int), .int .i64 0])) (w.drewN k1) := by
          intro hno
          have hp : parse rest = (gval (rest.take (k + 1)), k + 1, 0) := by
            unfold parse
            rw [if_neg hnl, if_neg hnl2, hrun, getD_get hkl', if_neg hno]
          rw [hp] at h
          rw [group_or hglt (by omega)]
          have := h _ (Kp.drew w k1)
          rw [take_snoc_get rest k hkl', gval_snoc, hgl] at this
          exact this
        have bad : ((0 < k ∧ (rest[k]).toNat = 0) ∨ (k = 9 ∧ 1 < (rest[k]).toNat)) → R (.returned (.tuple #[.int .u64 0, .int .i64 0, .int .i64 22])) (w.drewN k1) := by
          intro hyes
          have hp : parse rest = (0, 0, 22) := by
            unfold parse
            rw [if_neg hnl, if_neg hnl2, hrun, getD_get hkl', if_pos hyes]
          rw [hp] at h
          exact h _ (Kp.drew w k1)
        refine cond_d (fun h0 => cond_eq (fun hz => bad (.inl ⟨by omega, by omega⟩)) fun hz => ?_) (fun h0 => ?_)
        · exact cond_eq (fun h9 => cond_d (fun h1 => bad (.inr ⟨by omega, by omega⟩)) fun h1 => good (by omega)) fun h9 => good (by omega)
        · exact cond_eq (fun h9 => cond_d (fun h1 => bad (.inr ⟨by omega, by omega⟩)) fun h1 => good (by omega)) fun h9 => good (by omega)
  · have hkl' : k = rest.length := by omega
    refine ⟨g, bs.length, c, by rw [(hcells k1).cell]; rfl, ?_⟩
    refine ⟨(at_ : Int), by rw [add_at, (hcells k1).cell]; rfl, fun k2 => ?_⟩
    rw [wrap_i64 (by omega) (by omega)]
    have hhl := hiRun_le rest
    have kk : Kp no w ((w.drewN k1).drewN k2) := (Kp.drew w k1).trans0 (Kp.drew _ k2)
    refine cond_d (fun h10 => ?_) (fun h10 => ?_)
    · rw [parse_form (l := rest) (by omega)] at h
      exact h _ kk
    · have hp : parse rest = (0, 0, 20) := by
        unfold parse
        rw [if_neg (by omega), if_pos (by omega)]
      rw [hp] at h
      exact h _ kk
end Go.Proofs.Ytjhncijdkmbopaa
/-! Contracts of the package field: the reader's U, S, End, Fault. Conditions: lengths below 2^46. -/
namespace Go.Proofs.Ytjhncijdkmbopaa
open Go Go.RowKit

theorem parse_size (l : List UInt8) : (parse l).2.1 ≤ l.length := by
  unfold parse
  have := hiRun_le l
  split
  · simp
  · split
    · simp
    · split
      · simp
      · rename_i h1 h2 h3
        simp only
        omega

theorem parse_lt (l : List UInt8) : (parse l).1 < 18446744073709551616 := by
  unfold parse
  split
  · simp
  · split
    · simp
    · split
      · simp
      · rename_i h1 h2 h3
        simp only
        have hl := hiRun_le l
        have hk : hiRun l < l.length := by omega
        rw [take_snoc_get l _ hk, gval_snoc]
        have hlen : (l.take (hiRun l)).length = hiRun l := by rw [List.length_take]; omega
        have hg := gval_lt (l.take (hiRun l))
        rw [hlen] at hg ⊢
        rw [getD_get hk] at h3
        generalize (l[hiRun l]).toNat = c at *
        generalize gval (l.take (hiRun l)) = a at *
        generalize hiRun l = k at *
        have hp := pow128 k
        rcases Nat.lt_or_ge k 9 with h8 | h9
        · have h2 : 128 ^ k ≤ 2 ^ 56 := by rw [hp]; exact Nat.pow_le_pow_right (by omega) (by omega)
          have h4 : c % 128 * 128 ^ k ≤ 127 * 2 ^ 56 := Nat.mul_le_mul (by omega) h2
          omega
        · have h99 : k = 9 := by omega
          subst h99
          have h4 : c % 128 * 128 ^ 9 ≤ 1 * 128 ^ 9 := Nat.mul_le_mul_right _ (by omega)
          have h5 : (128 : Nat) ^ 9 = 9223372036854775808 := by decide
          omega

theorem parse_err (l : List UInt8) : (parse l).2.2 = 0 ∨ (parse l).2.2 = 20 ∨ (parse l).2.2 = 22 := by
  unfold parse
  split
  · simp
  · split
    · simp
    · split <;> simp

/-- What U does to a reader's state (where it stands, its fault): the answer, and the state. -/
def rdU (bs : List UInt8) (st : Nat × Nat) (m : Nat) : Nat × (Nat × Nat) :=
  if st.2 = 0 then
    if (parse (bs.drop st.1)).2.2 = 0 then
      if m < (parse (bs.drop st.1)).1 then (0, (st.1, 23)) else ((parse (bs.drop st.1)).1, (st.1 + (parse (bs.drop st.1)).2.1, 0))
    else (0, (st.1, (parse (bs.drop st.1)).2.2))
  else (0, st)

theorem rdU_lt (bs : List UInt8) (st : Nat × Nat) (m : Nat) : (rdU bs st m).1 < 18446744073709551616 := by
  unfold rdU
  have := parse_lt (bs.drop st.1)
  split
  · split
    · split
      · simp
      · exact this
    · simp
  · simp

theorem Re.set {w : World} {B : Nat} {g : Option Addr} {bs : List UInt8} {a e : Nat} (h : Re w B g bs a e) {i : Nat} {v : Value} {a' e' : Nat} (hi : i = 1 ∨ i = 2)
    (hv : ∀ c, (#[.slice g bs.length c, .int .i64 (a : Int), .int .i64 (e : Int)] : Array Value).setIfInBounds i v = #[.slice g bs.length c, .int .i64 (a' : Int), .int .i64 (e' : Int)]) (ha : a' ≤ bs.length) {K : World → Prop}
    (hk : ∀ w', Re w' B g bs a' e' → Kp (fun k => k = B) w w' → K w') : StF w (Addr.add ⟨B, 0, none⟩ i) v K := by
  obtain ⟨⟨c, h1, h2⟩, h3, h4⟩ := h
  rw [add_at]
  refine StF.intro h1 (by rcases hi with rfl | rfl <;> simp) fun w' hb k1 _ => hk w' ⟨⟨c, ?_, h2.kp k1 fun b hib hbB => ?_⟩, h3, ha⟩ k1
  · rw [Nat.zero_add, hv c] at hb; exact hb
  · subst hbB; exact h3 hib
theorem Re.slice {w : World} {B : Nat} {g : Option Addr} {bs : List UInt8} {a e : Nat} (h : Re w B g bs a e) : ∃ c, w.cell? ⟨B, 0, none⟩ = some (.slice g bs.length c) := by
  obtain ⟨⟨c, h1, h2⟩, h3, h4⟩ := h
  exact ⟨c, by rw [h1.cell]; rfl⟩
theorem Re.cat {w : World} {B : Nat} {g : Option Addr} {bs : List UInt8} {a e : Nat} (h : Re w B g bs a e) : w.cell? (Addr.add ⟨B, 0, none⟩ 1) = some (.int .i64 (a : Int)) := by
  obtain ⟨⟨c, h1, h2⟩, h3, h4⟩ := h
  rw [add_at, h1.cell]; rfl
theorem Re.cerr {w : World} {B : Nat} {g : Option Addr} {bs : List UInt8} {a e : Nat} (h : Re w B g bs a e) : w.cell? (Addr.add ⟨B, 0, none⟩ 2) = some (.int .i64 (e : Int)) := by
  obtain ⟨⟨c, h1, h2⟩, h3, h4⟩ := h
  rw [add_at, h1.cell]; rfl

theorem reader_U {w : World} {B : Nat} {g : Option Addr} {bs : List UInt8} {st : Nat × Nat} {m : Nat} {R : Ending → World → Prop} (hr : Re w B g bs st.1 st.2) (hb : bs.length < 140737488355329)
    (h : ∀ w', Re w' B g bs (rdU bs st m).2.1 (rdU bs st m).2.2 → Kp (fun k => k = B) w w' → R (.returned (.int .u64 ((rdU bs st m).1 : Int))) w') :
    GoC Try.prog F_field_Reader_U #[.pointer (some ⟨B, 0, none⟩), .int .u64 (m : Int)] w R := by
  obtain ⟨at_, e⟩ := st
  dsimp only at hr
  refine S_field_Reader_U ?_
  unfold W_field_Reader_U
  refine ⟨_, hr.cerr, cond_ne (fun he => ?_) (fun he => ?_)⟩
  · have hu : rdU bs (at_, e) m = (0, (at_, e)) := by unfold rdU; rw [if_neg]; simp only; omega
    rw [hu] at h
    exact h w hr (Kp.refl _ _)
  · have he0 : e = 0 := by omega
    subst he0
    refine next_c hr hb fun w1 k1 => ⟨_, _, _, rfl, ?_⟩
    have hr1 := hr.kp0 k1
    have hsz := parse_size (bs.drop at_)
    have hsz' : (parse (bs.drop at_)).2.1 ≤ bs.length - at_ := by simpa using hsz
    have hat := hr.le
    have hpe := parse_err (bs.drop at_)
    have hkp : ∀ w2, Kp (fun k => k = B) w1 w2 → Kp (fun k => k = B) w w2 := fun w2 k2 => k1.trans k2 (fun k _ h => h.elim) (fun k _ h => h)
    have hwrap : IntKind.wrap .i64 ((at_ : Int) + ((parse (bs.drop at_)).2.1 : Int)) = ((at_ + (parse (bs.drop at_)).2.1 : Nat) : Int) := by rw [wrap_i64 (by omega) (by omega)]; omega
    -- the three ends
    have ok : (parse (bs.drop at_)).2.2 = 0 → ¬ m < (parse (bs.drop at_)).1 → NilF (some ⟨B, 0, none⟩) fun d6 => ∃ n7 : Int, w1.cell? (Addr.add d6 1) = some (.int .i64 n7) ∧
        NilF (some ⟨B, 0, none⟩) fun d7 => StF w1 (Addr.add d7 1) (.int .i64 (IntKind.wrap .i64 (n7 + ((parse (bs.drop at_)).2.1 : Int)))) fun w5 => R (.returned (.int .u64 ((parse (bs.drop at_)).1 : Int))) w5 := by
      intro hp hm
      have hu : rdU bs (at_, 0) m = ((parse (bs.drop at_)).1, (at_ + (parse (bs.drop at_)).2.1, 0)) := by unfold rdU; rw [if_pos rfl, if_pos hp, if_neg hm]
      rw [hu] at h
      refine ⟨_, hr1.cat, hr1.set (.inl rfl) (fun c => by rw [hwrap]; rfl) (by dsimp only; omega) fun w2 hr2 k2 => h w2 hr2 (hkp _ k2)⟩
    have bad : ∀ (e' : Nat), rdU bs (at_, 0) m = (0, (at_, e')) → StF w1 (Addr.add ⟨B, 0, none⟩ 2) (.int .i64 (e' : Int)) fun w4 => R (.returned (.int .u64 0)) w4 := by
      intro e' hu
      rw [hu] at h
      exact hr1.set (.inr rfl) (fun c => rfl) hat fun w2 hr2 k2 => h w2 hr2 (hkp _ k2)
    refine cond_eq (fun hp => ?_) (fun hp => ?_)
    · have hp0 : (parse (bs.drop at_)).2.2 = 0 := by omega
      refine cond_d (fun hgt => ?_) (fun hle => ?_)
      · have hgt' : m < (parse (bs.drop at_)).1 := by omega
        have := bad 23 (by unfold rdU; rw [if_pos rfl, if_pos hp0, if_pos hgt'])
        exact cond_t (by decide) this
      · refine cond_ne (fun hh => absurd hp hh) (fun _ => ok hp0 (by omega))
    · have hp0 : (parse (bs.drop at_)).2.2 ≠ 0 := by omega
      refine cond_ne (fun _ => ?_) (fun hh => absurd hh hp)
      exact bad _ (by unfold rdU; rw [if_pos rfl, if_neg hp0])

theorem reader_S {w : World} {B : Nat} {g : Option Addr} {bs : List UInt8} {st : Nat × Nat} {R : Ending → World → Prop} (hr : Re w B g bs st.1 st.2) (hb : bs.length < 140737488355329)
    (h : ∀ w', Re w' B g bs (rdU bs st 18446744073709551615).2.1 (rdU bs st 18446744073709551615).2.2 → Kp (fun k => k = B) w w' → R (.returned (.int .i64 (unzig (rdU bs st 18446744073709551615).1))) w') :
    GoC Try.prog F_field_Reader_S #[.pointer (some ⟨B, 0, none⟩)] w R := by
  refine S_field_Reader_S ?_
  unfold W_field_Reader_S
  refine reader_U (m := 18446744073709551615) hr hb fun w' hr' k' => ⟨_, rfl, by decide, ?_⟩
  rw [unzig_code (rdU_lt _ _ _)]
  exact h w' hr' k'

theorem reader_End {w : World} {B : Nat} {g : Option Addr} {bs : List UInt8} {st : Nat × Nat} {R : Ending → World → Prop} (hr : Re w B g bs st.1 st.2)
    (h : ∀ w', Re w' B g bs st.1 (if st.2 = 0 ∧ st.1 < bs.length then 21 else st.2) → Kp (fun k => k = B) w w' → R (.returned (.tuple #[])) w') :
    GoC Try.prog F_field_Reader_End #[.pointer (some ⟨B, 0, none⟩)] w R := by
  obtain ⟨at_, e⟩ := st
  dsimp only at hr h
  refine S_field_Reader_End ?_
  unfold W_field_Reader_End
  refine ⟨_, hr.cerr, cond_eq (fun he => ?_) (fun he => fun k1 => ?_)⟩
  · obtain ⟨c, hs⟩ := hr.slice
    refine ⟨_, hr.cat, g, bs.length, c, hs, fun k1 => cond_d (fun hlt => ?_) (fun hge => ?_)⟩
    · have hr1 := hr.kp0 (Kp.drew w k1)
      rw [if_pos ⟨by omega, by omega⟩] at h
      exact hr1.set (.inr rfl) (fun c => rfl) hr.le fun w2 hr2 k2 => h w2 hr2 ((Kp.drew w k1).trans k2 (fun k _ h => h.elim) (fun k _ h => h))
    · rw [if_neg (by omega)] at h
      exact h _ (hr.kp0 (Kp.drew w k1)) (Kp.drew w k1).of_no
  · rw [if_neg (by omega)] at h
    exact h _ (hr.kp0 (Kp.drew w k1)) (Kp.drew w k1).of_no

theorem reader_Fault {w : World} {B : Nat} {g : Option Addr} {bs : List UInt8} {st : Nat × Nat} {R : Ending → World → Prop} (hr : Re w B g bs st.1 st.2)
    (h : ∀ w', Kp no w w' → R (.returned (.tuple #[.int .i64 ((if st.2 = 0 then 0 else st.1 : Nat) : Int), .int .i64 (st.2 : Int)])) w') :
    GoC Try.prog F_field_Reader_Fault #[.pointer (some ⟨B, 0, none⟩)] w R := by
  obtain ⟨at_, e⟩ := st
  dsimp only at hr h
  refine S_field_Reader_Fault ?_
  unfold W_field_Reader_Fault
  refine ⟨_, hr.cerr, cond_eq (fun he => ?_) (fun he => ?_)⟩
  · have he0 : e = 0 := by omega
    subst he0
    exact h w (Kp.refl _ _)
  · refine ⟨_, hr.cat, _, hr.cerr, fun k1 => ?_⟩
    rw [if_neg (by omega)] at h
    exact h _ (Kp.drew w k1)
end Go.Proofs.Ytjhncijdkmbopaa
/-! The plain law of the numbers' form: what is written is read, a cut form is short, what is read has one form. Conditions: none. -/
set_option linter.unusedVariables false
set_option linter.unusedSimpArgs false
namespace Go.Proofs.Ytjhncijdkmbopaa
open Go Go.RowKit

theorem vform_small {m : Nat} (h : m < 128) : vform m = [UInt8.ofNat m] := by rw [vform, if_pos h]
theorem vform_big {m : Nat} (h : ¬ m < 128) : vform m = UInt8.ofNat (m % 128 + 128) :: vform (m / 128) := by rw [vform, if_neg h]
theorem ofNat_toNat {x : Nat} (h : x < 256) : (UInt8.ofNat x).toNat = x := by simp only [UInt8.toNat_ofNat']; omega

theorem hiRun_vform (rest : List UInt8) : ∀ n m, m ≤ n → hiRun (vform m ++ rest) + 1 = (vform m).length := by
  intro n
  induction n with
  | zero =>
    intro m hm
    have : m = 0 := by omega
    subst this
    rw [vform_small (by omega)]
    simp [hiRun]
  | succ n ih =>
    intro m hm
    by_cases h : m < 128
    · rw [vform_small h]
      have hx : (UInt8.ofNat m).toNat = m := ofNat_toNat (by omega)
      simp only [List.singleton_append, hiRun, hx, List.length_singleton]
      rw [if_neg (by omega)]
    · rw [vform_big h]
      have hx : (UInt8.ofNat (m % 128 + 128)).toNat = m % 128 + 128 := ofNat_toNat (by omega)
      simp only [List.cons_append, hiRun, hx, List.length_cons]
      rw [if_pos (by omega), ih (m / 128) (by omega)]

theorem gval_vform : ∀ n m, m ≤ n → gval (vform m) = m := by
  intro n
  induction n with
  | zero =>
    intro m hm
    have : m = 0 := by omega
    subst this
    rw [vform_small (by omega)]
    simp [gval]
  | succ n ih =>
    intro m hm
    by_cases h : m < 128
    · rw [vform_small h]
      have hx : (UInt8.ofNat m).toNat = m := ofNat_toNat (by omega)
      simp only [gval, hx]
      omega
    · rw [vform_big h]
      have hx : (UInt8.ofNat (m % 128 + 128)).toNat = m % 128 + 128 := ofNat_toNat (by omega)
      simp only [gval, hx]
      rw [ih (m / 128) (by omega)]
      omega

theorem last_vform (rest : List UInt8) : ∀ n m, m ≤ n → ((vform m ++ rest).getD ((vform m).length - 1) 0).toNat = m / 128 ^ ((vform m).length - 1) ∧ (1 < (vform m).length → 128 ^ ((vform m).length - 1) ≤ m) := by
  intro n
  induction n with
  | zero =>
    intro m hm
    have : m = 0 := by omega
    subst this
    rw [vform_small (by omega)]
    simp
  | succ n ih =>
    intro m hm
    by_cases h : m < 128
    · rw [vform_small h]
      have hx : (UInt8.ofNat m).toNat = m := ofNat_toNat (by omega)
      simp only [List.singleton_append, List.length_singleton, Nat.sub_self, List.getD_cons_zero, hx, Nat.pow_zero, Nat.div_one]
      exact ⟨trivial, fun h => by omega⟩
    · rw [vform_big h]
      obtain ⟨h1, h2⟩ := ih (m / 128) (by omega)
      have hp := vform_pos (m / 128)
      obtain ⟨j, hj⟩ : ∃ j, (vform (m / 128)).length = j + 1 := ⟨(vform (m / 128)).length - 1, by omega⟩
      simp only [List.cons_append, List.length_cons, hj, Nat.add_sub_cancel] at h1 h2 ⊢
      rw [List.getD_cons_succ, h1, Nat.div_div_eq_div_mul, Nat.pow_succ, Nat.mul_comm 128]
      refine ⟨rfl, fun _ => ?_⟩
      rcases Nat.eq_zero_or_pos j with h0 | h0
      · subst h0; omega
      · have := h2 (by omega)
        omega

theorem parse_vform {m : Nat} (h : m < 18446744073709551616) (rest : List UInt8) : parse (vform m ++ rest) = (m, (vform m).length, 0) := by
  have h1 := hiRun_vform rest m m (Nat.le_refl _)
  obtain ⟨h2, h3⟩ := last_vform rest m m (Nat.le_refl _)
  have h4 := vform_len64 h
  have hk : hiRun (vform m ++ rest) = (vform m).length - 1 := by omega
  have hp := vform_pos m
  unfold parse
  rw [if_neg (by omega), if_neg (by rw [List.length_append]; omega), hk, h2]
  rw [if_neg, show (vform m).length - 1 + 1 = (vform m).length by omega, List.take_left, gval_vform m m (Nat.le_refl _)]
  rintro (⟨h5, h6⟩ | ⟨h5, h6⟩)
  · have h7 := h3 (by omega)
    have := Nat.div_pos h7 (Nat.pow_pos (by omega))
    omega
  · rw [h5] at h6
    have : (128 : Nat) ^ 9 = 9223372036854775808 := by decide
    rw [this] at h6
    omega

theorem hiRun_cut : ∀ n m, m ≤ n → hiRun ((vform m).take ((vform m).length - 1)) = (vform m).length - 1 := by
  intro n
  induction n with
  | zero =>
    intro m hm
    have : m = 0 := by omega
    subst this
    rw [vform_small (by omega)]
    simp [hiRun]
  | succ n ih =>
    intro m hm
    by_cases h : m < 128
    · rw [vform_small h]
      simp [hiRun]
    · rw [vform_big h]
      have := ih (m / 128) (by omega)
      have hp := vform_pos (m / 128)
      obtain ⟨j, hj⟩ : ∃ j, (vform (m / 128)).length = j + 1 := ⟨(vform (m / 128)).length - 1, by omega⟩
      have hx : (UInt8.ofNat (m % 128 + 128)).toNat = m % 128 + 128 := ofNat_toNat (by omega)
      simp only [List.length_cons, hj, Nat.add_sub_cancel] at this ⊢
      rw [List.take_succ_cons]
      simp only [hiRun, hx]
      rw [if_pos (by omega), this]

theorem parse_short {m : Nat} (h : m < 18446744073709551616) : parse ((vform m).take ((vform m).length - 1)) = (0, 0, 20) := by
  have h1 := hiRun_cut m m (Nat.le_refl _)
  have h4 := vform_len64 h
  unfold parse
  rw [if_neg (by omega), if_pos (by rw [h1, List.length_take]; omega)]

theorem hiRun_low : ∀ (l : List UInt8), hiRun l < l.length → (l.getD (hiRun l) 0).toNat < 128
  | [], h => by simp at h
  | c :: r, h => by
    by_cases hc : 128 ≤ c.toNat
    · have e : hiRun (c :: r) = hiRun r + 1 := by simp only [hiRun, if_pos hc]
      rw [e] at h ⊢
      rw [List.getD_cons_succ]
      exact hiRun_low r (by simpa using h)
    · have e : hiRun (c :: r) = 0 := by simp only [hiRun, if_neg hc]
      rw [e, List.getD_cons_zero]
      omega

theorem gval_pos {l : List UInt8} (h : hiRun l < l.length) (h0 : (l.getD (hiRun l) 0).toNat ≠ 0) : 0 < gval (l.take (hiRun l + 1)) := by
  have h1 := hiRun_low l h
  rw [getD_get h] at h1 h0
  rw [take_snoc_get l _ h, gval_snoc]
  have : 0 < (l[hiRun l]).toNat % 128 * 128 ^ (l.take (hiRun l)).length := Nat.mul_pos (by omega) (Nat.pow_pos (by omega))
  omega

theorem one_form : ∀ (l : List UInt8), hiRun l < l.length → (0 < hiRun l → (l.getD (hiRun l) 0).toNat ≠ 0) → vform (gval (l.take (hiRun l + 1))) = l.take (hiRun l + 1)
  | [], h, _ => by simp at h
  | c :: r, h, h0 => by
    by_cases hc : 128 ≤ c.toNat
    · have e : hiRun (c :: r) = hiRun r + 1 := by simp only [hiRun, if_pos hc]
      rw [e] at h h0 ⊢
      rw [List.getD_cons_succ] at h0
      have hr : hiRun r < r.length := by simpa using h
      have hg := gval_pos hr (h0 (by omega))
      have ih := one_form r hr fun _ => h0 (by omega)
      have hb := u8_lt c
      rw [List.take_succ_cons, gval]
      rw [vform_big (by omega), show (c.toNat % 128 + 128 * gval (r.take (hiRun r + 1))) / 128 = gval (r.take (hiRun r + 1)) by omega, ih]
      congr 1
      apply UInt8.toNat.inj
      rw [ofNat_toNat (by omega)]
      omega
    · have e : hiRun (c :: r) = 0 := by simp only [hiRun, if_neg hc]
      rw [e]
      simp only [Nat.zero_add, List.take_succ_cons, List.take_zero, gval, Nat.mul_zero, Nat.add_zero]
      rw [vform_small (by omega)]
      congr 1
      apply UInt8.toNat.inj
      rw [ofNat_toNat (by omega)]
      omega

theorem parse_one {l : List UInt8} (h : (parse l).2.2 = 0) : vform (parse l).1 = l.take (parse l).2.1 := by
  have hle := hiRun_le l
  unfold parse at h ⊢
  split at h
  · cases h
  · split at h
    · cases h
    · split at h
      · cases h
      · rename_i h1 h2 h3
        rw [if_neg h1, if_neg h2, if_neg h3]
        simp only
        exact one_form l (by omega) fun hp hz => h3 (.inl ⟨hp, hz⟩)
end Go.Proofs.Ytjhncijdkmbopaa
/-! Contracts of the document's package for layer 2: numbers' forms and its reader. Conditions: lengths below 2^46. -/
set_option linter.unusedVariables false
set_option linter.unusedSimpArgs false
namespace Go.Proofs.Ytjhncijdkmbopaa
open Go Go.RowKit

theorem not_is_none {k : Nat} (h : Is none k) : False := by obtain ⟨ad, h0, _⟩ := h; cases h0

theorem form_c {w : World} {n : Nat} {R : Ending → World → Prop} (hn : n < 18446744073709551616)
    (h : ∀ a c w', Sl w' T_uint8 1 a (vform n).length c (bvs (vform n)) → Kp no w w' → Fresh w a → R (.returned (.slice a (vform n).length c)) w') : GoC Try.prog F_ref02_Form #[.int .u64 (n : Int)] w R := by
  refine S_ref02_Form ?_
  unfold W_ref02_Form
  have h10 := vform_len64 hn
  refine loopN (fun s w1 => ∃ (m : Nat) (a : Option Addr) (c : Nat) (bs1 : List UInt8), s = ((m : Int), (a, bs1.length, c), ()) ∧ m < 18446744073709551616 ∧ Sl w1 T_uint8 1 a bs1.length c (bvs bs1) ∧ bs1 ++ vform m = vform n ∧ Kp no w w1 ∧ Fresh w a) (fun s _ => s.1.toNat)
    ⟨n, none, 0, [], rfl, hn, Sl.nil _ _ _, rfl, Kp.refl _ _, fun k hk => (not_is_none hk).elim⟩ ?_
  rintro s w1 ⟨m, a, c, bs1, rfl, hm, hs, he, k1, hf⟩ _
  dsimp only
  have hlen : bs1.length ≤ 10 := by
    have := congrArg List.length he
    simp only [List.length_append] at this
    omega
  have fin : ∀ (x : UInt8) (K : Option Addr → Nat → Nat → World → Prop), (∀ a' c' w', Sl w' T_uint8 1 a' (bs1 ++ [x]).length c' (bvs (bs1 ++ [x])) → Kp no w w' → Fresh w a' → K a' (bs1 ++ [x]).length c' w') →
      AlF w1 (.cells #[bv x] T_uint8) fun b w2 => RunF Try.prog (Builtin.append_ #[T_s_uint8, T_s_uint8] T_s_uint8 #[.slice a bs1.length c, .slice (some ⟨b, 0, none⟩) 1 1]) w2 fun r w3 => ∃ (a2 : Option Addr) (l2 c2 : Nat), r = .slice a2 l2 c2 ∧ K a2 l2 c2 w3 := by
    intro x K hK
    refine push_own er_u8 hs (v := bv x) rfl (by omega) (by omega) fun a' c' w' hs' k' hi' => ?_
    have hl : (bs1 ++ [x]).length = bs1.length + 1 := by simp
    have hh := hK a' c' w' (by rw [hl, bvs_app]; exact hs') (k1.trans k' (fun _ _ h => h) fun k hk hh => by have := hf k hh; omega) (fun k hk => by
      rcases hi' k hk with hh | hh
      · exact hf k hh
      · have := k1.size; omega)
    rw [hl] at hh
    exact hh
  refine cond_d (fun hge => ⟨by decide, ?_⟩) (fun hlt => ?_)
  · have hm128 : ¬ m < 128 := by omega
    have hv : Value.int .u8 (IntKind.wrap .u8 (IntKind.wrap .u8 (Int.tmod (m : Int) 128) + 128)) = bv (UInt8.ofNat (m % 128 + 128)) := by
      rw [Int.tmod_eq_emod_of_nonneg (by omega), wrap_u8 (x := (m : Int) % 128) (by omega) (by omega), wrap_u8 (by omega) (by omega)]
      unfold bv
      rw [ofNat_toNat (by omega)]
      congr 1
    rw [hv]
    refine fin _ _ fun a' c' w' hs' k' hf' => ⟨by decide, ?_⟩
    have hd : IntKind.wrap .u64 (Int.tdiv (m : Int) 128) = ((m / 128 : Nat) : Int) := by
      rw [Int.tdiv_eq_ediv_of_nonneg (by omega), wrap_u64 (by omega) (by omega)]
      omega
    rw [hd]
    refine ⟨⟨m / 128, a', c', _, rfl, by omega, hs', ?_, k', hf'⟩, by simp only [Int.toNat_natCast]; omega⟩
    rw [← he, vform_big hm128, List.append_assoc]
    rfl
  · have hm128 : m < 128 := by omega
    have hv : Value.int .u8 (IntKind.wrap .u8 (m : Int)) = bv (UInt8.ofNat m) := by
      rw [wrap_u8 (by omega) (by omega)]
      unfold bv
      rw [ofNat_toNat (by omega)]
    rw [hv]
    refine fin _ _ fun a' c' w' hs' k' hf' => ?_
    have e : bs1 ++ [UInt8.ofNat m] = vform n := by rw [← he, vform_small hm128]
    rw [e] at hs' ⊢
    exact h a' c' w' hs' k' hf'

theorem sign_c {w : World} {i : Int} {R : Ending → World → Prop} (h0 : -9223372036854775808 ≤ i) (h1 : i ≤ 9223372036854775807)
    (h : R (.returned (.int .u64 (zig i : Int))) w) : GoC Try.prog F_ref02_Sign #[.int .i64 i] w R := by
  refine S_ref02_Sign ?_
  unfold W_ref02_Sign
  refine cond_d (fun hg => ?_) (fun hg => ?_)
  · have e : IntKind.wrap .u64 (2 * IntKind.wrap .u64 i) = (zig i : Int) := by
      rw [wrap_u64 (x := i) (by omega) (by omega), wrap_u64 (by omega) (by omega)]
      unfold zig
      rw [if_pos (by omega)]
      omega
    rw [e]
    exact h
  · have e : IntKind.wrap .u64 (IntKind.wrap .u64 (2 * IntKind.wrap .u64 (IntKind.wrap .i64 (0 - IntKind.wrap .i64 (i + 1)))) + 1) = (zig i : Int) := by
      rw [wrap_i64 (x := i + 1) (by omega) (by omega), wrap_i64 (by omega) (by omega), wrap_u64 (x := 0 - (i + 1)) (by omega) (by omega), wrap_u64 (x := 2 * (0 - (i + 1))) (by omega) (by omega), wrap_u64 (by omega) (by omega)]
      unfold zig
      rw [if_neg (by omega)]
      omega
    rw [e]
    exact h

theorem unsign_c {w : World} {n : Nat} {R : Ending → World → Prop} (hn : n < 18446744073709551616)
    (h : R (.returned (.int .i64 (unzig n))) w) : GoC Try.prog F_ref02_Unsign #[.int .u64 (n : Int)] w R := by
  refine S_ref02_Unsign ?_
  unfold W_ref02_Unsign
  have ed : IntKind.wrap .u64 (Int.tdiv (n : Int) 2) = ((n / 2 : Nat) : Int) := by
    rw [Int.tdiv_eq_ediv_of_nonneg (by omega), wrap_u64 (by omega) (by omega)]
    omega
  have em : Int.tmod (n : Int) 2 = ((n % 2 : Nat) : Int) := by
    rw [Int.tmod_eq_emod_of_nonneg (by omega)]
    omega
  rw [ed, em, wrap_i64 (x := ((n / 2 : Nat) : Int)) (by omega) (by omega), wrap_i64 (x := 0 - ((n / 2 : Nat) : Int)) (by omega) (by omega), wrap_i64 (by omega) (by omega)]
  refine ⟨by decide, cond_eq (fun hz => ⟨by decide, ?_⟩) (fun hz => ⟨by decide, ?_⟩)⟩
  · have e : unzig n = ((n / 2 : Nat) : Int) := by unfold unzig; rw [if_pos (by omega)]
    rw [e] at h
    exact h
  · have e : unzig n = 0 - ((n / 2 : Nat) : Int) - 1 := by unfold unzig; rw [if_neg (by omega)]; omega
    rw [e] at h
    exact h

/-- The document's reader at block B. -/
structure Rf (w : World) (B : Nat) (g : Option Addr) (bs : List UInt8) (at_ e : Nat) : Prop where
  ex : ∃ c, Blk w B #[.slice g bs.length c, .int .i64 (at_ : Int), .int .i64 (e : Int)] T_quotaref02_Reader ∧ Sl w T_uint8 1 g bs.length c (bvs bs)
  ap : ¬ Is g B
  le : at_ ≤ bs.length

theorem Rf.kp {S : Nat → Prop} {w w' : World} {B : Nat} {g : Option Addr} {bs : List UInt8} {a e : Nat} (h : Rf w B g bs a e) (k : Kp S w w') (hn : ∀ b, fpW B g b → ¬ S b) : Rf w' B g bs a e := by
  obtain ⟨⟨c, h1, h2⟩, h3, h4⟩ := h
  exact ⟨⟨c, k.blk h1 (hn _ (.inl rfl)), h2.kp k fun b hb => hn b (.inr hb)⟩, h3, h4⟩
theorem Rf.kp0 {w w' : World} {B : Nat} {g : Option Addr} {bs : List UInt8} {a e : Nat} (h : Rf w B g bs a e) (k : Kp no w w') : Rf w' B g bs a e := h.kp k fun _ _ h => h.elim
theorem Rf.lt {w : World} {B : Nat} {g : Option Addr} {bs : List UInt8} {a e : Nat} (h : Rf w B g bs a e) : ∀ k, fpW B g k → k < w.heap.size := by
  obtain ⟨⟨c, h1, h2⟩, h3, _⟩ := h
  rintro k (rfl | hk)
  · exact h1.lt
  · exact h2.lt k hk

theorem refNewReader_c {a : Option Addr} {l c : Nat} {bs : List UInt8} {w : World} {R : Ending → World → Prop} (hr : Rd w a (bvs bs)) (hl : bs.length = l) (h0 : a = none → l = 0) (hb : l ≤ 140737488355328)
    (h : ∀ B g w', Rf w' B g bs 0 0 → Kp no w w' → w.heap.size ≤ B → Fresh w g → R (.returned (.pointer (some ⟨B, 0, none⟩))) w') : GoC Try.prog F_ref02_NewReader #[.slice a l c] w R := by
  subst hl
  refine S_ref02_NewReader ?_
  unfold W_ref02_NewReader
  refine append_new er_u8 hr (by rw [bvs_len]; omega) h0 bvs_one (by omega) (by omega) fun a' c' w1 hs k1 hf _ => ⟨a', _, c', rfl, ?_⟩
  refine AlF.intro fun B w2 hB hblk k2 _ => h B a' w2 ⟨⟨c', hblk, hs.kp0 k2⟩, fun hh => ?_, Nat.zero_le _⟩ (k1.trans0 k2) (by have := k1.size; omega) hf
  have := hs.lt B hh
  omega

theorem gval_drop_le : ∀ (k : Nat) (l : List UInt8), gval (l.drop k) ≤ gval l
  | 0, l => Nat.le_refl _
  | k + 1, [] => by simp
  | k + 1, c :: r => by
    have := gval_drop_le k r
    rw [List.drop_succ_cons, gval]
    omega

theorem stands_c {w : World} {B : Nat} {g : Option Addr} {bs : List UInt8} {at_ e : Nat} {R : Ending → World → Prop} (hr : Rf w B g bs at_ e) (hb : bs.length < 140737488355329)
    (h : ∀ w', Kp no w w' → R (.returned (.tuple #[.int .u64 ((parse (bs.drop at_)).1 : Int), .int .i64 ((parse (bs.drop at_)).2.1 : Int), .int .i64 ((parse (bs.drop at_)).2.2 : Int)])) w') :
    GoC Try.prog F_ref02_Reader_stands #[.pointer (some ⟨B, 0, none⟩)] w R := by
  refine S_ref02_Reader_stands ?_
  unfold W_ref02_Reader_stands
  obtain ⟨⟨c, h1, h2⟩, h3, h4⟩ := hr
  refine ⟨g, bs.length, c, by rw [h1.cell]; rfl, ?_⟩
  refine ⟨(at_ : Int), by rw [add_at, h1.cell]; rfl, trivial, ⟨by omega, by simp only [hiOf]; omega⟩, fun k1 => ?_⟩
  rw [Int.toNat_natCast]
  have hrd : Rd (w.drewN k1) (subA g c at_ 1) (bvs (bs.drop at_)) := rd_drop (h2.kp0 (Kp.drew w k1)).rd h2.2.1
  have hlen : bs.length - at_ = (bs.drop at_).length := by simp
  rw [hlen]
  have hrl : (bs.drop at_).length < 140737488355329 := by omega
  have hplt := parse_lt (bs.drop at_)
  generalize bs.drop at_ = rest at *
  have h' := fun hk => h (w.drewN k1) hk
  have k1' : Kp no w (w.drewN k1) := Kp.drew w k1
  have hhl := hiRun_le rest
  refine ⟨fun s w2 => w2 = w.drewN k1 ∧ ∃ k : Nat, s.1 = (k : Int) ∧ k ≤ rest.length ∧ k ≤ 10 ∧ k ≤ hiRun rest ∧ (k = 10 ∨ k = hiRun rest), ?_, ?_⟩
  · refine loopN (fun s w1 => w1 = w.drewN k1 ∧ ∃ k : Nat, s.1 = (k : Int) ∧ k ≤ rest.length ∧ k ≤ 10 ∧ k ≤ hiRun rest) (fun s _ => rest.length - s.1.toNat) ⟨rfl, 0, rfl, Nat.zero_le _, by omega, Nat.zero_le _⟩ ?_
    rintro ⟨kk, u⟩ w1 ⟨hw1, k, hk, hkl, hk10, hhi⟩ _
    dsimp only at hk ⊢
    subst hk
    rw [hw1]
    refine cond_d (fun hlt => cond_d (fun hlt10 => ?_) fun hge => ⟨rfl, k, rfl, hkl, hk10, hhi, by omega⟩) fun hge => ⟨rfl, k, rfl, hkl, hk10, hhi, by omega⟩
    have hkl' : k < rest.length := by omega
    refine hrd.idx (by omega) (by omega) (by rw [bvs_len]; omega) fun b o hg hc => ?_
    refine ⟨((rest[k]).toNat : Int), by rw [Int.toNat_natCast, add_at]; exact hc k _ (bvs_get hkl'), ?_⟩
    have hst := hi_step rest k hhi hkl'
    have hwk : IntKind.wrap .i64 ((k : Int) + 1) = ((k + 1 : Nat) : Int) := by rw [wrap_i64 (by omega) (by omega)]; omega
    rw [hwk]
    refine cond_d (fun hc128 => ?_) (fun hc128 => ?_)
    · exact ⟨⟨rfl, k + 1, rfl, by omega, by omega, hst.1 (by omega)⟩, by simp only [Int.toNat_natCast]; omega⟩
    · exact ⟨rfl, k, rfl, hkl, hk10, hhi, .inr (hst.2 (by omega)).symm⟩
  rintro ⟨kk, u⟩ w2 ⟨hw2, k, hk, hkl, hk10, hhi, hend⟩ _
  dsimp only at hk ⊢
  subst hk
  rw [hw2]
  refine cond_eq (fun h10 => ?_) (fun h10 => ?_)
  · rw [parse_form (l := rest) (by omega)] at h
    exact h _ k1'
  have hk9 : k ≤ 9 := by omega
  have hrun : hiRun rest = k := by omega
  have hnl : ¬ (10 ≤ hiRun rest) := by omega
  refine cond_eq (fun hkl2 => ?_) (fun hkl2 => ?_)
  · have hp : parse rest = (0, 0, 20) := by
      unfold parse
      rw [if_neg hnl, if_pos (by omega)]
    rw [hp] at h
    exact h _ k1'
  have hkl' : k < rest.length := by omega
  have hnl2 : ¬ (hiRun rest = rest.length) := by omega
  refine ⟨fun s w3 => w3 = w.drewN k1 ∧ s.1 = decide ((0 < k ∧ (rest[k]).toNat = 0) ∨ (k = 9 ∧ 1 < (rest[k]).toNat)), ?_, ?_⟩
  · have rdk : ∀ {K : Addr → Prop}, (∀ b o, subA g c at_ 1 = some ⟨b, o, none⟩ → (w.drewN k1).cell? ⟨b, o + k, none⟩ = some (bv rest[k]) → K ⟨b, o, none⟩) → IdxF (subA g c at_ 1) (k : Int) rest.length K :=
      fun hK => hrd.idx (by omega) (by omega) (by rw [bvs_len]; omega) fun b o hg hc => hK b o hg (hc k _ (bvs_get hkl'))
    refine cond_d (fun h0 => ?_) (fun h0 => ?_)
    · refine rdk fun b o hg hc => ⟨((rest[k]).toNat : Int), by rw [Int.toNat_natCast, add_at]; exact hc, ?_⟩
      refine cond_eq (fun hz => ⟨rfl, ?_⟩) (fun hz => ?_)
      · exact (decide_eq_true (.inl ⟨by omega, by omega⟩)).symm
      · refine cond_eq (fun h9 => ?_) (fun h9 => ⟨rfl, (decide_eq_false (by omega)).symm⟩)
        refine rdk fun b o hg hc => ⟨((rest[k]).toNat : Int), by rw [Int.toNat_natCast, add_at]; exact hc, rfl, ?_⟩
        exact decide_eq_decide.2 (by omega)
    · refine cond_eq (fun h9 => ?_) (fun h9 => ⟨rfl, (decide_eq_false (by omega)).symm⟩)
      refine rdk fun b o hg hc => ⟨((rest[k]).toNat : Int), by rw [Int.toNat_natCast, add_at]; exact hc, rfl, ?_⟩
      exact decide_eq_decide.2 (by omega)
  rintro ⟨b10, u10⟩ w3 ⟨hw3, hb10⟩ _
  dsimp only at hb10
  rw [hw3, hb10]
  refine cond_d (fun hyes => ?_) (fun hno => ?_)
  · have hp : parse rest = (0, 0, 22) := by
      unfold parse
      rw [if_neg hnl, if_neg hnl2, hrun, getD_get hkl', if_pos hyes]
    rw [hp] at h
    exact h _ k1'
  have hp : parse rest = (gval (rest.take (k + 1)), k + 1, 0) := by
    unfold parse
    rw [if_neg hnl, if_neg hnl2, hrun, getD_get hkl', if_neg hno]
  have hwk : IntKind.wrap .i64 ((k : Int) + 1) = ((k + 1 : Nat) : Int) := by rw [wrap_i64 (by omega) (by omega)]; omega
  rw [hp] at h hplt
  dsimp only at hplt
  rw [hwk]
  have hL : (rest.take (k + 1)).length = k + 1 := by rw [List.length_take]; omega
  refine loopN (fun s w4 => w4 = w.drewN k1 ∧ ∃ j : Nat, j ≤ k + 1 ∧ s.2.1 = (j : Int) - 1 ∧ s.1 = (gval ((rest.take (k + 1)).drop j) : Int)) (fun s _ => (s.2.1 + 1).toNat)
    ⟨rfl, k + 1, Nat.le_refl _, by dsimp only; omega, by dsimp only; rw [List.drop_eq_nil_of_le (by omega)]; rfl⟩ ?_
  rintro ⟨x0, j0, u⟩ w4 ⟨hw4, j, hj, hj0, hx0⟩ _
  dsimp only at hj0 hx0 ⊢
  subst hj0 hx0
  rw [hw4]
  refine cond_d (fun hge => ?_) (fun hlt => ?_)
  · obtain ⟨i, rfl⟩ : ∃ i, j = i + 1 := ⟨j - 1, by omega⟩
    have hil : i < rest.length := by omega
    have hij : (((i + 1 : Nat) : Int) - 1) = (i : Int) := by omega
    rw [hij]
    refine hrd.idx (by omega) (by omega) (by rw [bvs_len]; omega) fun b o hg hc => ?_
    refine ⟨((rest[i]).toNat : Int), by rw [Int.toNat_natCast, add_at]; exact hc i _ (bvs_get hil), by decide, ?_⟩
    have hcell : (rest.take (k + 1))[i]'(by omega) = rest[i] := List.getElem_take
    have hd : (rest.take (k + 1)).drop i = rest[i] :: (rest.take (k + 1)).drop (i + 1) := by rw [List.drop_eq_getElem_cons (by omega), hcell]
    have hg1 : gval ((rest.take (k + 1)).drop i) = (rest[i]).toNat % 128 + 128 * gval ((rest.take (k + 1)).drop (i + 1)) := by rw [hd, gval]
    have hg2 := gval_drop_le i (rest.take (k + 1))
    have hx := u8_lt rest[i]
    refine ⟨⟨rfl, i, by omega, ?_, ?_⟩, ?_⟩
    · rw [wrap_i64 (by omega) (by omega)]
    · generalize gval ((rest.take (k + 1)).drop (i + 1)) = y at *
      rw [hg1, Int.tmod_eq_emod_of_nonneg (by omega), wrap_u64 (x := (y : Int) * 128) (by omega) (by omega), wrap_u64 (x := ((rest[i]).toNat : Int) % 128) (by omega) (by omega), wrap_u64 (by omega) (by omega)]
      omega
    · rw [wrap_i64 (by omega) (by omega)]
      omega
  · have hj0 : j = 0 := by omega
    subst hj0
    rw [List.drop_zero]
    exact h _ k1'
end Go.Proofs.Ytjhncijdkmbopaa
/-! Contracts of the document's package for layer 2: the reader's calls. Conditions: lengths below 2^46. -/
set_option linter.unusedVariables false
set_option linter.unusedSimpArgs false
namespace Go.Proofs.Ytjhncijdkmbopaa
open Go Go.RowKit

theorem Rf.set {w : World} {B : Nat} {g : Option Addr} {bs : List UInt8} {a e : Nat} (h : Rf w B g bs a e) {i : Nat} {v : Value} {a' e' : Nat} (hi : i = 1 ∨ i = 2)
    (hv : ∀ c, (#[.slice g bs.length c, .int .i64 (a : Int), .int .i64 (e : Int)] : Array Value).setIfInBounds i v = #[.slice g bs.length c, .int .i64 (a' : Int), .int .i64 (e' : Int)]) (ha : a' ≤ bs.length) {K : World → Prop}
    (hk : ∀ w', Rf w' B g bs a' e' → Kp (fun k => k = B) w w' → K w') : StF w (Addr.add ⟨B, 0, none⟩ i) v K := by
  obtain ⟨⟨c, h1, h2⟩, h3, h4⟩ := h
  rw [add_at]
  refine StF.intro h1 (by rcases hi with rfl | rfl <;> simp) fun w' hb k1 _ => hk w' ⟨⟨c, ?_, h2.kp k1 fun b hib hbB => ?_⟩, h3, ha⟩ k1
  · rw [Nat.zero_add, hv c] at hb; exact hb
  · subst hbB; exact h3 hib
theorem Rf.slice {w : World} {B : Nat} {g : Option Addr} {bs : List UInt8} {a e : Nat} (h : Rf w B g bs a e) : ∃ c, w.cell? ⟨B, 0, none⟩ = some (.slice g bs.length c) := by
  obtain ⟨⟨c, h1, h2⟩, h3, h4⟩ := h
  exact ⟨c, by rw [h1.cell]; rfl⟩
theorem Rf.cat {w : World} {B : Nat} {g : Option Addr} {bs : List UInt8} {a e : Nat} (h : Rf w B g bs a e) : w.cell? (Addr.add ⟨B, 0, none⟩ 1) = some (.int .i64 (a : Int)) := by
  obtain ⟨⟨c, h1, h2⟩, h3, h4⟩ := h
  rw [add_at, h1.cell]; rfl
theorem Rf.cerr {w : World} {B : Nat} {g : Option Addr} {bs : List UInt8} {a e : Nat} (h : Rf w B g bs a e) : w.cell? (Addr.add ⟨B, 0, none⟩ 2) = some (.int .i64 (e : Int)) := by
  obtain ⟨⟨c, h1, h2⟩, h3, h4⟩ := h
  rw [add_at, h1.cell]; rfl

theorem ref_U {w : World} {B : Nat} {g : Option Addr} {bs : List UInt8} {st : Nat × Nat} {m : Nat} {R : Ending → World → Prop} (hr : Rf w B g bs st.1 st.2) (hb : bs.length < 140737488355329)
    (h : ∀ w', Rf w' B g bs (rdU bs st m).2.1 (rdU bs st m).2.2 → Kp (fun k => k = B) w w' → R (.returned (.int .u64 ((rdU bs st m).1 : Int))) w') :
    GoC Try.prog F_ref02_Reader_U #[.pointer (some ⟨B, 0, none⟩), .int .u64 (m : Int)] w R := by
  obtain ⟨at_, e⟩ := st
  dsimp only at hr
  refine S_ref02_Reader_U ?_
  unfold W_ref02_Reader_U
  refine ⟨_, hr.cerr, cond_ne (fun he => ?_) (fun he => ?_)⟩
  · have hu : rdU bs (at_, e) m = (0, (at_, e)) := by unfold rdU; rw [if_neg]; simp only; omega
    rw [hu] at h
    exact h w hr (Kp.refl _ _)
  · have he0 : e = 0 := by omega
    subst he0
    refine stands_c hr hb fun w1 k1 => ⟨_, _, _, rfl, ?_⟩
    have hr1 := hr.kp0 k1
    have hsz := parse_size (bs.drop at_)
    have hsz' : (parse (bs.drop at_)).2.1 ≤ bs.length - at_ := by simpa using hsz
    have hat := hr.le
    have hpe := parse_err (bs.drop at_)
    have hkp : ∀ w2, Kp (fun k => k = B) w1 w2 → Kp (fun k => k = B) w w2 := fun w2 k2 => k1.trans k2 (fun k _ h => h.elim) (fun k _ h => h)
    have hwrap : IntKind.wrap .i64 ((at_ : Int) + ((parse (bs.drop at_)).2.1 : Int)) = ((at_ + (parse (bs.drop at_)).2.1 : Nat) : Int) := by rw [wrap_i64 (by omega) (by omega)]; omega
    -- the three ends
    have ok : (parse (bs.drop at_)).2.2 = 0 → ¬ m < (parse (bs.drop at_)).1 → NilF (some ⟨B, 0, none⟩) fun d6 => ∃ n7 : Int, w1.cell? (Addr.add d6 1) = some (.int .i64 n7) ∧
        NilF (some ⟨B, 0, none⟩) fun d7 => StF w1 (Addr.add d7 1) (.int .i64 (IntKind.wrap .i64 (n7 + ((parse (bs.drop at_)).2.1 : Int)))) fun w5 => R (.returned (.int .u64 ((parse (bs.drop at_)).1 : Int))) w5 := by
      intro hp hm
      have hu : rdU bs (at_, 0) m = ((parse (bs.drop at_)).1, (at_ + (parse (bs.drop at_)).2.1, 0)) := by unfold rdU; rw [if_pos rfl, if_pos hp, if_neg hm]
      rw [hu] at h
      refine ⟨_, hr1.cat, hr1.set (.inl rfl) (fun c => by rw [hwrap]; rfl) (by dsimp only; omega) fun w2 hr2 k2 => h w2 hr2 (hkp _ k2)⟩
    have bad : ∀ (e' : Nat), rdU bs (at_, 0) m = (0, (at_, e')) → StF w1 (Addr.add ⟨B, 0, none⟩ 2) (.int .i64 (e' : Int)) fun w4 => R (.returned (.int .u64 0)) w4 := by
      intro e' hu
      rw [hu] at h
      exact hr1.set (.inr rfl) (fun c => rfl) hat fun w2 hr2 k2 => h w2 hr2 (hkp _ k2)
    refine cond_eq (fun hp => ?_) (fun hp => ?_)
    · have hp0 : (parse (bs.drop at_)).2.2 = 0 := by omega
      refine cond_d (fun hgt => ?_) (fun hle => ?_)
      · have hgt' : m < (parse (bs.drop at_)).1 := by omega
        have := bad 23 (by unfold rdU; rw [if_pos rfl, if_pos hp0, if_pos hgt'])
        exact cond_t (by decide) this
      · refine cond_ne (fun hh => absurd hp hh) (fun _ => ok hp0 (by omega))
    · have hp0 : (parse (bs.drop at_)).2.2 ≠ 0 := by omega
      refine cond_ne (fun _ => ?_) (fun hh => absurd hh hp)
      exact bad _ (by unfold rdU; rw [if_pos rfl, if_neg hp0])

theorem ref_S {w : World} {B : Nat} {g : Option Addr} {bs : List UInt8} {st : Nat × Nat} {R : Ending → World → Prop} (hr : Rf w B g bs st.1 st.2) (hb : bs.length < 140737488355329)
    (h : ∀ w', Rf w' B g bs (rdU bs st 18446744073709551615).2.1 (rdU bs st 18446744073709551615).2.2 → Kp (fun k => k = B) w w' → R (.returned (.int .i64 (unzig (rdU bs st 18446744073709551615).1))) w') :
    GoC Try.prog F_ref02_Reader_S #[.pointer (some ⟨B, 0, none⟩)] w R := by
  refine S_ref02_Reader_S ?_
  unfold W_ref02_Reader_S
  refine ref_U (m := 18446744073709551615) hr hb fun w' hr' k' => ⟨_, rfl, ?_⟩
  exact unsign_c (rdU_lt _ _ _) ⟨_, rfl, h w' hr' k'⟩

theorem ref_End {w : World} {B : Nat} {g : Option Addr} {bs : List UInt8} {st : Nat × Nat} {R : Ending → World → Prop} (hr : Rf w B g bs st.1 st.2)
    (h : ∀ w', Rf w' B g bs st.1 (if st.2 = 0 ∧ st.1 < bs.length then 21 else st.2) → Kp (fun k => k = B) w w' → R (.returned (.tuple #[])) w') :
    GoC Try.prog F_ref02_Reader_End #[.pointer (some ⟨B, 0, none⟩)] w R := by
  obtain ⟨at_, e⟩ := st
  dsimp only at hr h
  refine S_ref02_Reader_End ?_
  unfold W_ref02_Reader_End
  refine ⟨_, hr.cerr, cond_eq (fun he => ?_) (fun he => fun k1 => ?_)⟩
  · obtain ⟨c, hs⟩ := hr.slice
    refine ⟨_, hr.cat, g, bs.length, c, hs, fun k1 => cond_d (fun hlt => ?_) (fun hge => ?_)⟩
    · have hr1 := hr.kp0 (Kp.drew w k1)
      rw [if_pos ⟨by omega, by omega⟩] at h
      exact hr1.set (.inr rfl) (fun c => rfl) hr.le fun w2 hr2 k2 => h w2 hr2 ((Kp.drew w k1).trans k2 (fun k _ h => h.elim) (fun k _ h => h))
    · rw [if_neg (by omega)] at h
      exact h _ (hr.kp0 (Kp.drew w k1)) (Kp.drew w k1).of_no
  · rw [if_neg (by omega)] at h
    exact h _ (hr.kp0 (Kp.drew w k1)) (Kp.drew w k1).of_no

end Go.Proofs.Ytjhncijdkmbopaa
