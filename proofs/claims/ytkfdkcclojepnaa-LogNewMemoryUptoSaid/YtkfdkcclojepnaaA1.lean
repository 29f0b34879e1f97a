/- Several texts as one. Conditions: none. -/
import Derived.Test.YtkfdkcclojepnaaF0
import Derived.Test.YtkfdkcclojepnaaTa
/- Contracts of the package field: Clone, the writer. Each says, of any memory in which the objects stand as told, what the call answers and what it leaves. Conditions: lengths below 2^46. -/
namespace Go.Proofs.Ytkfdkcclojepnaa
open Go Go.RowKit

/-- slices.Clone of bytes. -/
theorem fclone_c {a : Option Addr} {l c : Nat} {bs : List UInt8} {w : World} {R : Ending → World → Prop} (hr : Rd w a (bvs bs)) (hl : bs.length = l) (h0 : a = none → l = 0) (hb : l ≤ 140737488355328)
    (h : ∀ a' c' w', Sl w' T_uint8 1 a' l c' (bvs bs) → Kp no w w' → Fresh w a' → R (.returned (.slice a' l c')) w') : GoC Try.prog F_slices_Clone_s_byte_byte #[.slice a l c] w R := by
  refine S_slices_Clone_s_byte_byte ?_
  unfold W_slices_Clone_s_byte_byte
  refine cond_b (fun ha => ?_) (fun ha => ?_)
  · have ha' : a = none := by simpa using ha
    have hl0 := h0 ha'
    subst hl0
    have : bs = [] := List.eq_nil_of_length_eq_zero hl
    subst this
    exact h none 0 w (Sl.nil _ _ _) (Kp.refl _ _) (by rintro k ⟨ad, had, _⟩; cases had)
  · refine AlF.intro fun b w1 hbe hblk k1 _ => ?_
    have hs0 : Sl w1 T_uint8 1 (some ⟨b, 0, none⟩) 0 0 [] := ⟨by simp, Nat.le_refl _, .inr ⟨b, _, rfl, hblk, by simp, by simp⟩⟩
    refine append_own er_u8 hs0 (hr.kp0 k1) (by rw [bvs_len]; omega) (fun hn => by rw [hn] at ha; cases ha) bvs_one (by omega) (by omega) fun a' c' w' hs hk hi hroom hgrow => ?_
    simp only [Nat.zero_add, List.nil_append] at hs hroom hgrow ⊢
    refine ⟨a', l, c', rfl, h a' c' w' hs ?_ ?_⟩
    · refine k1.trans hk (fun k _ h => h) fun k hk1 hk2 => ?_
      obtain ⟨ad, had, hk2⟩ := hk2
      cases had
      simp only at hk2
      omega
    · intro k hk2
      rcases hi k hk2 with ⟨ad, had, hk3⟩ | hk3
      · cases had; simp only at hk3; omega
      · have := k1.size; omega

/-! ### The writer -/
/-- The form of a number from 0 on: groups of seven bits, the lowest first. -/
def vform (n : Nat) : List UInt8 := if n < 128 then [UInt8.ofNat n] else UInt8.ofNat (n % 128 + 128) :: vform (n / 128)
termination_by n
decreasing_by omega

theorem vform_len (n : Nat) : ∀ k, n < 128 ^ (k + 1) → (vform n).length ≤ k + 1 := by
  intro k
  induction k generalizing n with
  | zero => intro h; unfold vform; rw [if_pos (by omega)]; simp
  | succ k ih =>
    intro h
    unfold vform
    split
    · simp
    · simp only [List.length_cons]
      have := ih (n / 128) (by rw [Nat.pow_succ] at h; omega)
      omega
theorem vform_len64 {n : Nat} (h : n < 18446744073709551616) : (vform n).length ≤ 10 := vform_len n 9 (by omega)
theorem vform_pos (n : Nat) : 0 < (vform n).length := by unfold vform; split <;> simp

/-- A writer at block B, whose bytes lie at g: bs. -/
structure Wr (w : World) (B : Nat) (g : Option Addr) (bs : List UInt8) : Prop where
  ex : ∃ l c, Blk w B #[.slice g l c] T_field_Writer ∧ Sl w T_uint8 1 g l c (bvs bs)
  ap : ¬ Is g B

def fpW (B : Nat) (g : Option Addr) : Nat → Prop := fun k => k = B ∨ Is g k

theorem Wr.kp {S : Nat → Prop} {w w' : World} {B : Nat} {g : Option Addr} {bs : List UInt8} (h : Wr w B g bs) (k : Kp S w w') (hn : ∀ b, fpW B g b → ¬ S b) : Wr w' B g bs := by
  obtain ⟨⟨l, c, h1, h2⟩, h3⟩ := h
  exact ⟨⟨l, c, k.blk h1 (hn _ (.inl rfl)), h2.kp k fun b hb => hn b (.inr hb)⟩, h3⟩
theorem Wr.kp0 {w w' : World} {B : Nat} {g : Option Addr} {bs : List UInt8} (h : Wr w B g bs) (k : Kp no w w') : Wr w' B g bs := h.kp k fun _ _ h => h.elim
theorem Wr.lt {w : World} {B : Nat} {g : Option Addr} {bs : List UInt8} (h : Wr w B g bs) : ∀ k, fpW B g k → k < w.heap.size := by
  obtain ⟨⟨l, c, h1, h2⟩, h3⟩ := h
  rintro k (rfl | hk)
  · exact h1.lt
  · exact h2.lt k hk

theorem newWriter_c {w : World} {R : Ending → World → Prop} (h : ∀ B w', Wr w' B none [] → Kp no w w' → w.heap.size ≤ B → R (.returned (.pointer (some ⟨B, 0, none⟩))) w') : GoC Try.prog F_field_NewWriter #[] w R := by
  refine S_field_NewWriter ?_
  unfold W_field_NewWriter
  refine AlF.intro fun b w1 hbe hblk k1 _ => h b w1 ⟨⟨0, 0, hblk, Sl.nil _ _ _⟩, by rintro ⟨ad, had, _⟩; cases had⟩ k1 (by omega)

/-- One byte more. -/
theorem wr_push {w : World} {B : Nat} {g : Option Addr} {bs : List UInt8} (hw : Wr w B g bs) (x : UInt8) (v : Int) (hv : v = (x.toNat : Int)) (hb : bs.length < 140737488355328) {K : World → Prop}
    (h : ∀ g' w', Wr w' B g' (bs ++ [x]) → Kp (fpW B g) w w' → (∀ k, Is g' k → Is g k ∨ w.heap.size ≤ k) → K w') :
    NilF (some ⟨B, 0, none⟩) fun d1 => ∃ (a1 : Option Addr) (l1 c1 : Nat), w.cell? d1 = some (.slice a1 l1 c1) ∧ AlF w (.cells #[.int .u8 v] T_uint8) fun b1 w2 =>
      RunF Try.prog (Builtin.append_ #[T_s_uint8, T_s_uint8] T_s_uint8 #[.slice a1 l1 c1, .slice (some ⟨b1, 0, none⟩) 1 1]) w2 fun r1 w3 => ∃ (a2 : Option Addr) (l2 c2 : Nat), r1 = .slice a2 l2 c2 ∧ NilF (some ⟨B, 0, none⟩) fun d2 => StF w3 d2 (.slice a2 l2 c2) K := by
  obtain ⟨⟨l, c, h1, h2⟩, h3⟩ := hw
  refine ⟨g, l, c, by rw [h1.cell]; rfl, AlF.intro fun b w1 hbe hblk k1 hsz => ?_⟩
  have hn : Rd w1 (some ⟨b, 0, none⟩) (bvs [x]) := Rd.of_blk hblk fun i u hu => by
    subst hv
    rw [Nat.zero_add]
    match i, hu with
    | 0, hu => exact hu
  have hll : bs.length = l := by rw [← bvs_len]; exact h2.len
  refine append_own er_u8 (h2.kp0 k1) hn (by simp [bvs]) (fun hh => by cases hh) bvs_one (by omega) (by omega) fun a' c' w' hs hk hi _ _ => ?_
  have hB : B < w.heap.size := h1.lt
  have hB1 : Blk w1 B #[.slice g l c] T_field_Writer := k1.blk h1 id
  have hB2 : Blk w' B #[.slice g l c] T_field_Writer := hk.blk hB1 h3
  have hne : ¬ Is a' B := fun hh => by
    rcases hi B hh with hh | hh
    · exact h3 hh
    · omega
  refine ⟨a', l + 1, c', rfl, StF.intro hB2 (by simp) fun w2 hb2 k2 _ => ?_⟩
  have hs2 : Sl w2 T_uint8 1 a' (l + 1) c' (bvs (bs ++ [x])) := by
    rw [bvs_app]
    refine hs.kp k2 fun k hk hkB => ?_
    subst hkB
    exact hne hk
  refine h a' w2 ⟨⟨l + 1, c', by simpa using hb2, hs2⟩, hne⟩ ?_ ?_
  · refine (k1.trans hk (fun k _ h => h.elim) (fun k _ h => h)).trans k2 (fun k _ h => .inr h) (fun k _ h => .inl h)
  · intro k hk2
    rcases hi k hk2 with hh | hh
    · exact .inl hh
    · exact .inr (by omega)

theorem writer_U {w : World} {B : Nat} {g : Option Addr} {bs : List UInt8} {n : Nat} {R : Ending → World → Prop} (hw : Wr w B g bs) (hn : n < 18446744073709551616) (hb : bs.length + 20 < 140737488355329)
    (h : ∀ g' w', Wr w' B g' (bs ++ vform n) → Kp (fpW B g) w w' → (∀ k, Is g' k → Is g k ∨ w.heap.size ≤ k) → R (.returned (.tuple #[])) w') :
    GoC Try.prog F_field_Writer_U #[.pointer (some ⟨B, 0, none⟩), .int .u64 (n : Int)] w R := by
  refine S_field_Writer_U ?_
  unfold W_field_Writer_U
  have h10 := vform_len64 hn
  refine loopN (fun s w1 => ∃ (m : Nat) (g1 : Option Addr) (bs1 : List UInt8), s.1 = (m : Int) ∧ m < 18446744073709551616 ∧ Wr w1 B g1 bs1 ∧ bs1 ++ vform m = bs ++ vform n ∧ Kp (fpW B g) w w1 ∧ (∀ k, Is g1 k → Is g k ∨ w.heap.size ≤ k)) (fun s _ => s.1.toNat)
    ⟨n, g, bs, rfl, hn, hw, rfl, Kp.refl _ _, fun k hk => .inl hk⟩ ?_
  rintro ⟨s, u⟩ w1 ⟨m, g1, bs1, hs, hm, hw1, he, k1, hi1⟩ _
  dsimp only at hs ⊢
  subst hs
  have hlen : bs1.length < 140737488355328 := by
    have := congrArg List.length he
    simp only [List.length_append] at this
    omega
  have fp : ∀ k, k < w.heap.size → fpW B g1 k → fpW B g k := by
    rintro k hk (hh | hh)
    · exact .inl hh
    · rcases hi1 k hh with h2 | h2
      · exact .inr h2
      · omega
  refine cond_d (fun hge => ?_) (fun hlt => ?_)
  · have hm128 : 128 ≤ m := by omega
    have hv : orV .u8 (IntKind.wrap .u8 (m : Int)) 128 = ((UInt8.ofNat (m % 128 + 128)).toNat : Int) := by
      rw [u8_mod, show (128 : Int) = ((128 : Nat) : Int) from rfl, orV_nat rfl (by simp [IntKind.bits]; omega) (by simp [IntKind.bits]), or_128 _ (by omega)]
      simp only [UInt8.toNat_ofNat']
      omega
    refine wr_push hw1 _ _ hv hlen fun g2 w2 hw2 k2 hi2 => ?_
    refine ⟨by decide, ?_⟩
    have hsh : shrV .u64 (m : Int) 7 = ((m / 128 : Nat) : Int) := by
      rw [show (7 : Int) = ((7 : Nat) : Int) from rfl, shrV_nat (by simp [IntKind.bits])]
    rw [hsh]
    refine ⟨⟨m / 128, g2, _, rfl, by omega, hw2, ?_, k1.trans k2 (fun k _ h => h) fp, fun k hk => ?_⟩, ?_⟩
    · rw [← he]
      conv => rhs; rw [vform]
      rw [if_neg (by omega)]
      simp
    · rcases hi2 k hk with hh | hh
      · exact hi1 k hh
      · have := k1.size; exact .inr (by omega)
    · simp only [Int.toNat_natCast]; omega
  · have hm128 : m < 128 := by omega
    have hv : IntKind.wrap .u8 (m : Int) = ((UInt8.ofNat m).toNat : Int) := by
      rw [u8_mod]
      simp only [UInt8.toNat_ofNat']
    refine wr_push hw1 _ _ hv hlen fun g2 w2 hw2 k2 hi2 => ?_
    refine h g2 w2 ?_ (k1.trans k2 (fun k _ h => h) fp) fun k hk => ?_
    · rw [← he]
      conv in vform m => rw [vform]
      rw [if_pos hm128]
      exact hw2
    · rcases hi2 k hk with hh | hh
      · exact hi1 k hh
      · have := k1.size; exact .inr (by omega)

/-- The number as which one with a sign is written. -/
def zig (i : Int) : Nat := if 0 ≤ i then (2 * i).toNat else (-2 * i - 1).toNat
end Go.Proofs.Ytkfdkcclojepnaa

/- Contracts of the package field: the writer's S and Out; the reader. Conditions: lengths below 2^46. -/
namespace Go.Proofs.Ytkfdkcclojepnaa
open Go Go.RowKit

theorem xor_ones {n x : Nat} (h : x < 2 ^ n) : x ^^^ (2 ^ n - 1) = 2 ^ n - 1 - x := by
  have h1 : (BitVec.ofNat n x ^^^ BitVec.allOnes n).toNat = x ^^^ (2 ^ n - 1) := by
    rw [BitVec.toNat_xor, BitVec.toNat_allOnes, BitVec.toNat_ofNat, Nat.mod_eq_of_lt h]
  rw [← h1, BitVec.xor_allOnes, BitVec.toNat_not, BitVec.toNat_ofNat, Nat.mod_eq_of_lt h]

theorem xor_ones64 {x : Nat} (h : x < 18446744073709551616) : x ^^^ 18446744073709551615 = 18446744073709551615 - x := xor_ones (n := 64) h

theorem zig_lt {i : Int} (h0 : -9223372036854775808 ≤ i) (h1 : i ≤ 9223372036854775807) : zig i < 18446744073709551616 := by
  unfold zig; split <;> omega

theorem zig_code {i : Int} (h0 : -9223372036854775808 ≤ i) (h1 : i ≤ 9223372036854775807) :
    xorV .u64 (shlV .u64 (IntKind.wrap .u64 i) 1) (IntKind.wrap .u64 (shrV .i64 i 63)) = (zig i : Int) := by
  have hs : shrV .i64 i 63 = if 0 ≤ i then 0 else -1 := by
    unfold shrV
    simp only [IntKind.bits]
    have : (2 : Int) ^ (min (63 : Int).toNat 64) = 9223372036854775808 := by decide
    rw [this]
    split
    · rw [Int.fdiv_eq_ediv_of_nonneg _ (by omega)]; omega
    · rw [Int.fdiv_eq_ediv_of_nonneg _ (by omega)]; omega
  rw [hs]
  by_cases hi : 0 ≤ i
  · rw [if_pos hi]
    obtain ⟨n, rfl⟩ := Int.eq_ofNat_of_zero_le hi
    rw [u64_mod, show (1 : Int) = ((1 : Nat) : Int) from rfl, shlV_nat rfl (by simp [IntKind.bits]), show (0 : Int) = ((0 : Nat) : Int) from rfl, u64_mod]
    rw [xorV_nat rfl (by simp only [IntKind.bits]; omega) (by simp [IntKind.bits])]
    simp only [Nat.zero_mod, Nat.xor_zero, zig, hi, if_true, IntKind.bits]
    omega
  · rw [if_neg hi]
    have hw : IntKind.wrap .u64 i = ((i + 18446744073709551616).toNat : Int) := by
      simp only [IntKind.wrap, IntKind.bits, IntKind.signed, Bool.false_and, Bool.false_eq_true, if_false]; omega
    have hw1 : IntKind.wrap .u64 (-1) = ((18446744073709551615 : Nat) : Int) := by decide
    rw [hw, hw1, show (1 : Int) = ((1 : Nat) : Int) from rfl, shlV_nat rfl (by simp [IntKind.bits])]
    rw [xorV_nat rfl (by simp only [IntKind.bits]; omega) (by simp [IntKind.bits])]
    simp only [IntKind.bits]
    rw [xor_ones64 (by omega)]
    simp only [zig, hi, if_false]
    omega

def unzig (n : Nat) : Int := if n % 2 = 0 then ((n / 2 : Nat) : Int) else -((n / 2 : Nat) : Int) - 1

theorem unzig_code {n : Nat} (h : n < 18446744073709551616) :
    xorV .i64 (IntKind.wrap .i64 (shrV .u64 (n : Int) 1)) (IntKind.wrap .i64 (0 - (IntKind.wrap .i64 (andV .u64 (n : Int) 1)))) = unzig n := by
  rw [show (1 : Int) = ((1 : Nat) : Int) from rfl, shrV_nat (by simp [IntKind.bits]), andV_nat rfl (by simpa [IntKind.bits] using h) (by simp [IntKind.bits]), and_1]
  rw [wrap_i64 (x := ((n / 2 ^ 1 : Nat) : Int)) (by omega) (by omega), wrap_i64 (x := ((n % 2 : Nat) : Int)) (by omega) (by omega)]
  unfold unzig xorV
  have hb : (2 ^ 1 : Nat) = 2 := rfl
  rw [hb]
  split
  · rename_i he
    have w0 : IntKind.wrap .i64 ((0 : Int) - ((0 : Nat) : Int)) = 0 := by decide
    rw [he, w0]
    show IntKind.wrap .i64 ((BitVec.ofInt 64 ((n / 2 : Nat) : Int) ^^^ BitVec.ofInt 64 0 : BitVec 64).toNat : Int) = _
    have : BitVec.ofInt 64 0 = 0#64 := by decide
    rw [this, BitVec.xor_zero, ofInt_nat, BitVec.toNat_ofNat, Nat.mod_eq_of_lt (by omega)]
    exact wrap_i64 (by omega) (by omega)
  · rename_i he
    have he1 : n % 2 = 1 := by omega
    have w1 : IntKind.wrap .i64 ((0 : Int) - ((1 : Nat) : Int)) = -1 := by decide
    rw [he1, w1]
    show IntKind.wrap .i64 ((BitVec.ofInt 64 ((n / 2 : Nat) : Int) ^^^ BitVec.ofInt 64 (-1) : BitVec 64).toNat : Int) = _
    have : BitVec.ofInt 64 (-1) = BitVec.allOnes 64 := by decide
    rw [this, BitVec.xor_allOnes, ofInt_nat, BitVec.toNat_not, BitVec.toNat_ofNat, Nat.mod_eq_of_lt (by omega)]
    simp only [IntKind.wrap, IntKind.bits, IntKind.signed, Bool.true_and]
    split
    · omega
    · rename_i hh; have := of_decide_eq_false (Bool.eq_false_iff.2 hh); omega

theorem unzig_zig (i : Int) : unzig (zig i) = i := by
  unfold unzig zig
  split <;> split <;> omega

theorem writer_S {w : World} {B : Nat} {g : Option Addr} {bs : List UInt8} {i : Int} {R : Ending → World → Prop} (hw : Wr w B g bs) (h0 : -9223372036854775808 ≤ i) (h1 : i ≤ 9223372036854775807) (hb : bs.length + 20 < 140737488355329)
    (h : ∀ g' w', Wr w' B g' (bs ++ vform (zig i)) → Kp (fpW B g) w w' → (∀ k, Is g' k → Is g k ∨ w.heap.size ≤ k) → R (.returned (.tuple #[])) w') :
    GoC Try.prog F_field_Writer_S #[.pointer (some ⟨B, 0, none⟩), .int .i64 i] w R := by
  refine S_field_Writer_S ?_
  unfold W_field_Writer_S
  refine ⟨by decide, by decide, ?_⟩
  rw [zig_code h0 h1]
  exact writer_U hw (zig_lt h0 h1) hb fun g' w' a b c => ⟨rfl, h g' w' a b c⟩

theorem Wr.len {w : World} {B : Nat} {g : Option Addr} {bs : List UInt8} (h : Wr w B g bs) : ∃ l c, Blk w B #[.slice g l c] T_field_Writer ∧ Sl w T_uint8 1 g l c (bvs bs) ∧ bs.length = l := by
  obtain ⟨⟨l, c, h1, h2⟩, _⟩ := h
  exact ⟨l, c, h1, h2, by rw [← bvs_len]; exact h2.len⟩

theorem writer_Out {w : World} {B : Nat} {g : Option Addr} {bs : List UInt8} {R : Ending → World → Prop} (hw : Wr w B g bs) (hb : bs.length < 140737488355329)
    (h : ∀ a c w', Sl w' T_uint8 1 a bs.length c (bvs bs) → Kp no w w' → Fresh w a → R (.returned (.slice a bs.length c)) w') :
    GoC Try.prog F_field_Writer_Out #[.pointer (some ⟨B, 0, none⟩)] w R := by
  refine S_field_Writer_Out ?_
  unfold W_field_Writer_Out
  obtain ⟨l, c, h1, h2, rfl⟩ := hw.len
  refine ⟨g, _, c, by rw [h1.cell]; rfl, ?_⟩
  refine fclone_c h2.rd rfl (fun hn => ?_) (by omega) fun a' c' w' hs hk hf => ⟨a', _, c', rfl, h a' c' w' hs hk hf⟩
  subst hn
  rcases h2.2.2 with ⟨_, h0⟩ | ⟨_, _, h0, _⟩
  · have := h2.2.1; omega
  · cases h0

/-! ### The reader -/
/-- A reader at block B over the bytes bs, which lie at g, are its own and are never written; it stands at 'at_'; its fault is e. -/
structure Re (w : World) (B : Nat) (g : Option Addr) (bs : List UInt8) (at_ e : Nat) : Prop where
  ex : ∃ c, Blk w B #[.slice g bs.length c, .int .i64 (at_ : Int), .int .i64 (e : Int)] T_field_Reader ∧ Sl w T_uint8 1 g bs.length c (bvs bs)
  ap : ¬ Is g B
  le : at_ ≤ bs.length

theorem Re.kp {S : Nat → Prop} {w w' : World} {B : Nat} {g : Option Addr} {bs : List UInt8} {a e : Nat} (h : Re w B g bs a e) (k : Kp S w w') (hn : ∀ b, fpW B g b → ¬ S b) : Re w' B g bs a e := by
  obtain ⟨⟨c, h1, h2⟩, h3, h4⟩ := h
  exact ⟨⟨c, k.blk h1 (hn _ (.inl rfl)), h2.kp k fun b hb => hn b (.inr hb)⟩, h3, h4⟩
theorem Re.kp0 {w w' : World} {B : Nat} {g : Option Addr} {bs : List UInt8} {a e : Nat} (h : Re w B g bs a e) (k : Kp no w w') : Re w' B g bs a e := h.kp k fun _ _ h => h.elim
theorem Re.lt {w : World} {B : Nat} {g : Option Addr} {bs : List UInt8} {a e : Nat} (h : Re w B g bs a e) : ∀ k, fpW B g k → k < w.heap.size := by
  obtain ⟨⟨c, h1, h2⟩, h3, _⟩ := h
  rintro k (rfl | hk)
  · exact h1.lt
  · exact h2.lt k hk

theorem newReader_c {a : Option Addr} {l c : Nat} {bs : List UInt8} {w : World} {R : Ending → World → Prop} (hr : Rd w a (bvs bs)) (hl : bs.length = l) (h0 : a = none → l = 0) (hb : l ≤ 140737488355328)
    (h : ∀ B g w', Re w' B g bs 0 0 → Kp no w w' → w.heap.size ≤ B → Fresh w g → R (.returned (.pointer (some ⟨B, 0, none⟩))) w') : GoC Try.prog F_field_NewReader #[.slice a l c] w R := by
  subst hl
  refine S_field_NewReader ?_
  unfold W_field_NewReader
  refine fclone_c hr rfl h0 hb fun a' c' w1 hs k1 hf => ⟨a', _, c', rfl, ?_⟩
  refine AlF.intro fun B w2 hB hblk k2 _ => h B a' w2 ⟨⟨c', hblk, hs.kp0 k2⟩, fun hh => ?_, Nat.zero_le _⟩ (k1.trans0 k2) (by have := k1.size; omega) hf
  have := hs.lt B hh
  omega

/-- How many bytes from the first on have their highest bit set. -/
def hiRun : List UInt8 → Nat
  | [] => 0
  | c :: r => if 128 ≤ c.toNat then hiRun r + 1 else 0
theorem hiRun_le : ∀ l : List UInt8, hiRun l ≤ l.length
  | [] => Nat.le_refl _
  | c :: r => by
    unfold hiRun
    split
    · have := hiRun_le r; simp; omega
    · simp
/-- The number whose groups these are. -/
def gval : List UInt8 → Nat
  | [] => 0
  | c :: r => c.toNat % 128 + 128 * gval r
/-- The number that stands at the head of these bytes: it, how many bytes it has, the fault (0: none). -/
def parse (l : List UInt8) : Nat × Nat × Nat :=
  if 10 ≤ hiRun l then (0, 0, 22)
  else if hiRun l = l.length then (0, 0, 20)
  else if (0 < hiRun l ∧ (l.getD (hiRun l) 0).toNat = 0) ∨ (hiRun l = 9 ∧ 1 < (l.getD (hiRun l) 0).toNat) then (0, 0, 22)
  else (gval (l.take (hiRun l + 1)), hiRun l + 1, 0)
end Go.Proofs.Ytkfdkcclojepnaa

/- Contracts of the package field: the reader's next, U, S, End, Fault. Conditions: lengths below 2^46. -/
namespace Go.Proofs.Ytkfdkcclojepnaa
open Go Go.RowKit

theorem hi_step : ∀ (l : List UInt8) (k : Nat), k ≤ hiRun l → (h : k < l.length) → (128 ≤ (l[k]).toNat → k + 1 ≤ hiRun l) ∧ ((l[k]).toNat < 128 → hiRun l = k)
  | c :: r, 0, _, _ => by
    simp only [hiRun, List.getElem_cons_zero]
    constructor
    · intro h; rw [if_pos h]; omega
    · intro h; rw [if_neg (by omega)]
  | c :: r, k + 1, hk, h => by
    have hc : 128 ≤ c.toNat := by
      apply Classical.byContradiction
      intro hn
      simp only [hiRun, if_neg hn] at hk
      omega
    simp only [hiRun, if_pos hc] at hk ⊢
    have := hi_step r k (by omega) (by simpa using h)
    simp only [List.getElem_cons_succ]
    exact ⟨fun h => by have := this.1 h; omega, fun h => by rw [this.2 h]⟩
  | [], k, _, h => by simp at h

theorem gval_lt : ∀ l : List UInt8, gval l < 128 ^ l.length
  | [] => by simp [gval]
  | c :: r => by
    have := gval_lt r
    simp only [gval, List.length_cons, Nat.pow_succ]
    omega
theorem gval_snoc : ∀ (l : List UInt8) (x : UInt8), gval (l ++ [x]) = gval l + (x.toNat % 128) * 128 ^ l.length
  | [], x => by simp [gval]
  | c :: r, x => by
    rw [List.cons_append, gval, gval_snoc r x, gval, List.length_cons, Nat.pow_succ, Nat.mul_add, ← Nat.mul_assoc, ← Nat.mul_assoc, Nat.add_assoc]
    congr 2
    rw [Nat.mul_comm 128, Nat.mul_assoc, Nat.mul_assoc, Nat.mul_comm 128]
theorem pow128 (k : Nat) : 128 ^ k = 2 ^ (7 * k) := by rw [Nat.pow_mul]

/-- One group more: what the loop reckons. -/
theorem group_or {a k : Nat} {x : UInt8} (ha : a < 128 ^ k) (hk : k ≤ 8 ∨ (k = 9 ∧ x.toNat ≤ 1)) :
    orV .u64 (a : Int) (shlV .u64 (IntKind.wrap .u64 (andV .u8 ((x.toNat : Nat) : Int) 127)) (((7 * k : Nat)) : Int)) = ((a + (x.toNat % 128) * 128 ^ k : Nat) : Int) := by
  have hx := u8_lt x
  rw [show (127 : Int) = ((127 : Nat) : Int) from rfl, andV_nat rfl (by simpa [IntKind.bits] using hx) (by simp [IntKind.bits]), and_127, wrap_nat rfl (by simp only [IntKind.bits]; omega)]
  rw [shlV_nat rfl (by simp only [IntKind.bits]; omega)]
  have hp : 128 ^ k = 2 ^ (7 * k) := pow128 k
  have hlt : x.toNat % 128 * 2 ^ (7 * k) < 2 ^ 64 := by
    rcases hk with hk | ⟨rfl, h1⟩
    · have h2 : 2 ^ (7 * k) ≤ 2 ^ 56 := Nat.pow_le_pow_right (by omega) (by omega)
      have h3 : x.toNat % 128 < 128 := Nat.mod_lt _ (by omega)
      calc x.toNat % 128 * 2 ^ (7 * k) ≤ 127 * 2 ^ 56 := Nat.mul_le_mul (by omega) h2
        _ < 2 ^ 64 := by decide
    · have h3 : x.toNat % 128 ≤ 1 := by omega
      calc x.toNat % 128 * 2 ^ (7 * 9) ≤ 1 * 2 ^ (7 * 9) := Nat.mul_le_mul_right _ h3
        _ < 2 ^ 64 := by decide
  simp only [IntKind.bits]
  rw [Nat.mod_eq_of_lt hlt]
  have ha64 : a < 2 ^ 64 := by
    refine Nat.lt_of_lt_of_le ha ?_
    rw [hp]
    exact Nat.pow_le_pow_right (by omega) (by omega)
  rw [orV_nat rfl ha64 hlt, or_shift (hp ▸ ha), hp]

theorem parse_form {l : List UInt8} (h : 10 ≤ hiRun l) : parse l = (0, 0, 22) := by unfold parse; rw [if_pos h]
theorem next_c {w : World} {B : Nat} {g : Option Addr} {bs : List UInt8} {at_ e : Nat} {R : Ending → World → Prop} (hr : Re w B g bs at_ e) (hb : bs.length < 140737488355329)
    (h : ∀ w', Kp no w w' → R (.returned (.tuple #[.int .u64 ((parse (bs.drop at_)).1 : Int), .int .i64 ((parse (bs.drop at_)).2.1 : Int), .int .i64 ((parse (bs.drop at_)).2.2 : Int)])) w') :
    GoC Try.prog F_field_Reader_next #[.pointer (some ⟨B, 0, none⟩)] w R := by
  refine S_field_Reader_next ?_
  unfold W_field_Reader_next
  obtain ⟨⟨c, h1, h2⟩, h3, h4⟩ := hr
  have hcells : ∀ k, Blk (w.drewN k) B #[.slice g bs.length c, .int .i64 (at_ : Int), .int .i64 (e : Int)] T_field_Reader := fun k => h1
  refine ⟨g, bs.length, c, by rw [h1.cell]; rfl, ?_⟩
  refine ⟨(at_ : Int), by rw [add_at, h1.cell]; rfl, trivial, ⟨by omega, by simp only [hiOf]; omega⟩, fun k1 => ?_⟩
  rw [Int.toNat_natCast]
  have hrd : Rd (w.drewN k1) (subA g c at_ 1) (bvs (bs.drop at_)) := rd_drop (h2.kp0 (Kp.drew w k1)).rd h2.2.1
  have hlen : (bs.drop at_).length = bs.length - at_ := by simp
  generalize hrest : bs.drop at_ = rest at *
  refine loopN (fun s w1 => w1 = w.drewN k1 ∧ ∃ k : Nat, s.2.1 = (k : Int) ∧ k ≤ rest.length ∧ k ≤ 10 ∧ k ≤ hiRun rest ∧ (k ≤ 9 → s.1 = (gval (rest.take k) : Int))) (fun s _ => rest.length - s.2.1.toNat)
    ⟨rfl, 0, rfl, Nat.zero_le _, by omega, Nat.zero_le _, fun _ => by simp [gval]⟩ ?_
  rintro ⟨n, kk, u⟩ w1 ⟨rfl, k, hk, hkl, hk10, hhi, hn⟩ _
  dsimp only at hk hn ⊢
  subst hk
  refine cond_d (fun hlt => ?_) (fun hge => ?_)
  · have hkl' : k < rest.length := by omega
    refine hrd.idx (by omega) hlt (by rw [bvs_len]; omega) fun b o hg hc => ?_
    refine ⟨((rest[k]).toNat : Int), ?_, ?_⟩
    · rw [Int.toNat_natCast, add_at]
      exact hc k _ (bvs_get hkl')
    have hst := hi_step rest k hhi hkl'
    refine cond_eq (fun h10 => ?_) (fun h10 => ?_)
    · have : k = 10 := by omega
      have hp := parse_form (l := rest) (by omega)
      rw [hp] at h
      exact h _ (Kp.drew w k1)
    · have hk9 : k ≤ 9 := by omega
      have hw7 : IntKind.wrap .i64 (7 * (k : Int)) = ((7 * k : Nat) : Int) := by rw [wrap_i64 (by omega) (by omega)]; omega
      have hwk : IntKind.wrap .i64 ((k : Int) + 1) = ((k + 1 : Nat) : Int) := by rw [wrap_i64 (by omega) (by omega)]; omega
      have hgl : (rest.take k).length = k := by rw [List.length_take]; omega
      have hglt : gval (rest.take k) < 128 ^ k := by have := gval_lt (rest.take k); rwa [hgl] at this
      rw [hw7, hwk, hn hk9]
      refine ⟨by omega, cond_d (fun hc128 => ?_) (fun hc128 => ?_)⟩
      · refine ⟨⟨rfl, k + 1, rfl, by omega, by omega, hst.1 (by omega), fun hk8 => ?_⟩, by simp only [Int.toNat_natCast]; omega⟩
        rw [group_or hglt (.inl (by omega)), take_snoc_get rest k hkl', gval_snoc, hgl]
      · have hrun : hiRun rest = k := hst.2 (by omega)
        have hnl : ¬ (10 ≤ hiRun rest) := by omega
        have hnl2 : ¬ (hiRun rest = rest.length) := by omega
        have good : ¬ ((0 < k ∧ (rest[k]).toNat = 0) ∨ (k = 9 ∧ 1 < (rest[k]).toNat)) →
            R (.returned (.tuple #[.int .u64 (orV .u64 ((gval (rest.take k) : Nat) : Int) (shlV .u64 (IntKind.wrap .u64 (andV .u8 ((rest[k]).toNat : Int) 127)) ((7 * k : Nat) : Int))), .int .i64 ((k + 1 : Nat) : Int), .int .i64 0])) (w.drewN k1) := by
          intro hno
          have hp : parse rest = (gval (rest.take (k + 1)), k + 1, 0) := by
            unfold parse
            rw [if_neg hnl, if_neg hnl2, hrun, getD_get hkl', if_neg hno]
          rw [hp] at h
          rw [group_or hglt (by omega)]
          have := h _ (Kp.drew w k1)
          rw [take_snoc_get rest k hkl', gval_snoc, hgl] at this
          exact this
        have bad : ((0 < k ∧ (rest[k]).toNat = 0) ∨ (k = 9 ∧ 1 < (rest[k]).toNat)) → R (.returned (.tuple #[.int .u64 0, .int .i64 0, .int .i64 22])) (w.drewN k1) := by
          intro hyes
          have hp : parse rest = (0, 0, 22) := by
            unfold parse
            rw [if_neg hnl, if_neg hnl2, hrun, getD_get hkl', if_pos hyes]
          rw [hp] at h
          exact h _ (Kp.drew w k1)
        refine cond_d (fun h0 => cond_eq (fun hz => bad (.inl ⟨by omega, by omega⟩)) fun hz => ?_) (fun h0 => ?_)
        · exact cond_eq (fun h9 => cond_d (fun h1 => bad (.inr ⟨by omega, by omega⟩)) fun h1 => good (by omega)) fun h9 => good (by omega)
        · exact cond_eq (fun h9 => cond_d (fun h1 => bad (.inr ⟨by omega, by omega⟩)) fun h1 => good (by omega)) fun h9 => good (by omega)
  · have hkl' : k = rest.length := by omega
    refine ⟨g, bs.length, c, by rw [(hcells k1).cell]; rfl, ?_⟩
    refine ⟨(at_ : Int), by rw [add_at, (hcells k1).cell]; rfl, fun k2 => ?_⟩
    rw [wrap_i64 (by omega) (by omega)]
    have hhl := hiRun_le rest
    have kk : Kp no w ((w.drewN k1).drewN k2) := (Kp.drew w k1).trans0 (Kp.drew _ k2)
    refine cond_d (fun h10 => ?_) (fun h10 => ?_)
    · rw [parse_form (l := rest) (by omega)] at h
      exact h _ kk
    · have hp : parse rest = (0, 0, 20) := by
        unfold parse
        rw [if_neg (by omega), if_pos (by omega)]
      rw [hp] at h
      exact h _ kk
end Go.Proofs.Ytkfdkcclojepnaa

/- Contracts of the package field: the reader's U, S, End, Fault. Conditions: lengths below 2^46. -/
namespace Go.Proofs.Ytkfdkcclojepnaa
open Go Go.RowKit

theorem parse_size (l : List UInt8) : (parse l).2.1 ≤ l.length := by
  unfold parse
  have := hiRun_le l
  split
  · simp
  · split
    · simp
    · split
      · simp
      · rename_i h1 h2 h3
        simp only
        omega

theorem parse_lt (l : List UInt8) : (parse l).1 < 18446744073709551616 := by
  unfold parse
  split
  · simp
  · split
    · simp
    · split
      · simp
      · rename_i h1 h2 h3
        simp only
        have hl := hiRun_le l
        have hk : hiRun l < l.length := by omega
        rw [take_snoc_get l _ hk, gval_snoc]
        have hlen : (l.take (hiRun l)).length = hiRun l := by rw [List.length_take]; omega
        have hg := gval_lt (l.take (hiRun l))
        rw [hlen] at hg ⊢
        rw [getD_get hk] at h3
        generalize (l[hiRun l]).toNat = c at *
        generalize gval (l.take (hiRun l)) = a at *
        generalize hiRun l = k at *
        have hp := pow128 k
        rcases Nat.lt_or_ge k 9 with h8 | h9
        · have h2 : 128 ^ k ≤ 2 ^ 56 := by rw [hp]; exact Nat.pow_le_pow_right (by omega) (by omega)
          have h4 : c % 128 * 128 ^ k ≤ 127 * 2 ^ 56 := Nat.mul_le_mul (by omega) h2
          omega
        · have h99 : k = 9 := by omega
          subst h99
          have h4 : c % 128 * 128 ^ 9 ≤ 1 * 128 ^ 9 := Nat.mul_le_mul_right _ (by omega)
          have h5 : (128 : Nat) ^ 9 = 9223372036854775808 := by decide
          omega

theorem parse_err (l : List UInt8) : (parse l).2.2 = 0 ∨ (parse l).2.2 = 20 ∨ (parse l).2.2 = 22 := by
  unfold parse
  split
  · simp
  · split
    · simp
    · split <;> simp

/-- What U does to a reader's state (where it stands, its fault): the answer, and the state. -/
def rdU (bs : List UInt8) (st : Nat × Nat) (m : Nat) : Nat × (Nat × Nat) :=
  if st.2 = 0 then
    if (parse (bs.drop st.1)).2.2 = 0 then
      if m < (parse (bs.drop st.1)).1 then (0, (st.1, 23)) else ((parse (bs.drop st.1)).1, (st.1 + (parse (bs.drop st.1)).2.1, 0))
    else (0, (st.1, (parse (bs.drop st.1)).2.2))
  else (0, st)

theorem rdU_lt (bs : List UInt8) (st : Nat × Nat) (m : Nat) : (rdU bs st m).1 < 18446744073709551616 := by
  unfold rdU
  have := parse_lt (bs.drop st.1)
  split
  · split
    · split
      · simp
      · exact this
    · simp
  · simp

theorem Re.set {w : World} {B : Nat} {g : Option Addr} {bs : List UInt8} {a e : Nat} (h : Re w B g bs a e) {i : Nat} {v : Value} {a' e' : Nat} (hi : i = 1 ∨ i = 2)
    (hv : ∀ c, (#[.slice g bs.length c, .int .i64 (a : Int), .int .i64 (e : Int)] : Array Value).setIfInBounds i v = #[.slice g bs.length c, .int .i64 (a' : Int), .int .i64 (e' : Int)]) (ha : a' ≤ bs.length) {K : World → Prop}
    (hk : ∀ w', Re w' B g bs a' e' → Kp (fun k => k = B) w w' → K w') : StF w (Addr.add ⟨B, 0, none⟩ i) v K := by
  obtain ⟨⟨c, h1, h2⟩, h3, h4⟩ := h
  rw [add_at]
  refine StF.intro h1 (by rcases hi with rfl | rfl <;> simp) fun w' hb k1 _ => hk w' ⟨⟨c, ?_, h2.kp k1 fun b hib hbB => ?_⟩, h3, ha⟩ k1
  · rw [Nat.zero_add, hv c] at hb; exact hb
  · subst hbB; exact h3 hib
theorem Re.slice {w : World} {B : Nat} {g : Option Addr} {bs : List UInt8} {a e : Nat} (h : Re w B g bs a e) : ∃ c, w.cell? ⟨B, 0, none⟩ = some (.slice g bs.length c) := by
  obtain ⟨⟨c, h1, h2⟩, h3, h4⟩ := h
  exact ⟨c, by rw [h1.cell]; rfl⟩
theorem Re.cat {w : World} {B : Nat} {g : Option Addr} {bs : List UInt8} {a e : Nat} (h : Re w B g bs a e) : w.cell? (Addr.add ⟨B, 0, none⟩ 1) = some (.int .i64 (a : Int)) := by
  obtain ⟨⟨c, h1, h2⟩, h3, h4⟩ := h
  rw [add_at, h1.cell]; rfl
theorem Re.cerr {w : World} {B : Nat} {g : Option Addr} {bs : List UInt8} {a e : Nat} (h : Re w B g bs a e) : w.cell? (Addr.add ⟨B, 0, none⟩ 2) = some (.int .i64 (e : Int)) := by
  obtain ⟨⟨c, h1, h2⟩, h3, h4⟩ := h
  rw [add_at, h1.cell]; rfl

theorem reader_U {w : World} {B : Nat} {g : Option Addr} {bs : List UInt8} {st : Nat × Nat} {m : Nat} {R : Ending → World → Prop} (hr : Re w B g bs st.1 st.2) (hb : bs.length < 140737488355329)
    (h : ∀ w', Re w' B g bs (rdU bs st m).2.1 (rdU bs st m).2.2 → Kp (fun k => k = B) w w' → R (.returned (.int .u64 ((rdU bs st m).1 : Int))) w') :
    GoC Try.prog F_field_Reader_U #[.pointer (some ⟨B, 0, none⟩), .int .u64 (m : Int)] w R := by
  obtain ⟨at_, e⟩ := st
  dsimp only at hr
  refine S_field_Reader_U ?_
  unfold W_field_Reader_U
  refine ⟨_, hr.cerr, cond_ne (fun he => ?_) (fun he => ?_)⟩
  · have hu : rdU bs (at_, e) m = (0, (at_, e)) := by unfold rdU; rw [if_neg]; simp only; omega
    rw [hu] at h
    exact h w hr (Kp.refl _ _)
  · have he0 : e = 0 := by omega
    subst he0
    refine next_c hr hb fun w1 k1 => ⟨_, _, _, rfl, ?_⟩
    have hr1 := hr.kp0 k1
    have hsz := parse_size (bs.drop at_)
    have hsz' : (parse (bs.drop at_)).2.1 ≤ bs.length - at_ := by simpa using hsz
    have hat := hr.le
    have hpe := parse_err (bs.drop at_)
    have hkp : ∀ w2, Kp (fun k => k = B) w1 w2 → Kp (fun k => k = B) w w2 := fun w2 k2 => k1.trans k2 (fun k _ h => h.elim) (fun k _ h => h)
    have hwrap : IntKind.wrap .i64 ((at_ : Int) + ((parse (bs.drop at_)).2.1 : Int)) = ((at_ + (parse (bs.drop at_)).2.1 : Nat) : Int) := by rw [wrap_i64 (by omega) (by omega)]; omega
    -- the three ends
    have ok : (parse (bs.drop at_)).2.2 = 0 → ¬ m < (parse (bs.drop at_)).1 → NilF (some ⟨B, 0, none⟩) fun d6 => ∃ n7 : Int, w1.cell? (Addr.add d6 1) = some (.int .i64 n7) ∧
        NilF (some ⟨B, 0, none⟩) fun d7 => StF w1 (Addr.add d7 1) (.int .i64 (IntKind.wrap .i64 (n7 + ((parse (bs.drop at_)).2.1 : Int)))) fun w5 => R (.returned (.int .u64 ((parse (bs.drop at_)).1 : Int))) w5 := by
      intro hp hm
      have hu : rdU bs (at_, 0) m = ((parse (bs.drop at_)).1, (at_ + (parse (bs.drop at_)).2.1, 0)) := by unfold rdU; rw [if_pos rfl, if_pos hp, if_neg hm]
      rw [hu] at h
      refine ⟨_, hr1.cat, hr1.set (.inl rfl) (fun c => by rw [hwrap]; rfl) (by dsimp only; omega) fun w2 hr2 k2 => h w2 hr2 (hkp _ k2)⟩
    have bad : ∀ (e' : Nat), rdU bs (at_, 0) m = (0, (at_, e')) → StF w1 (Addr.add ⟨B, 0, none⟩ 2) (.int .i64 (e' : Int)) fun w4 => R (.returned (.int .u64 0)) w4 := by
      intro e' hu
      rw [hu] at h
      exact hr1.set (.inr rfl) (fun c => rfl) hat fun w2 hr2 k2 => h w2 hr2 (hkp _ k2)
    refine cond_eq (fun hp => ?_) (fun hp => ?_)
    · have hp0 : (parse (bs.drop at_)).2.2 = 0 := by omega
      refine cond_d (fun hgt => ?_) (fun hle => ?_)
      · have hgt' : m < (parse (bs.drop at_)).1 := by omega
        have := bad 23 (by unfold rdU; rw [if_pos rfl, if_pos hp0, if_pos hgt'])
        exact cond_t (by decide) this
      · refine cond_ne (fun hh => absurd hp hh) (fun _ => ok hp0 (by omega))
    · have hp0 : (parse (bs.drop at_)).2.2 ≠ 0 := by omega
      refine cond_ne (fun _ => ?_) (fun hh => absurd hh hp)
      exact bad _ (by unfold rdU; rw [if_pos rfl, if_neg hp0])

theorem reader_S {w : World} {B : Nat} {g : Option Addr} {bs : List UInt8} {st : Nat × Nat} {R : Ending → World → Prop} (hr : Re w B g bs st.1 st.2) (hb : bs.length < 140737488355329)
    (h : ∀ w', Re w' B g bs (rdU bs st 18446744073709551615).2.1 (rdU bs st 18446744073709551615).2.2 → Kp (fun k => k = B) w w' → R (.returned (.int .i64 (unzig (rdU bs st 18446744073709551615).1))) w') :
    GoC Try.prog F_field_Reader_S #[.pointer (some ⟨B, 0, none⟩)] w R := by
  refine S_field_Reader_S ?_
  unfold W_field_Reader_S
  refine reader_U (m := 18446744073709551615) hr hb fun w' hr' k' => ⟨_, rfl, by decide, ?_⟩
  rw [unzig_code (rdU_lt _ _ _)]
  exact h w' hr' k'

theorem reader_End {w : World} {B : Nat} {g : Option Addr} {bs : List UInt8} {st : Nat × Nat} {R : Ending → World → Prop} (hr : Re w B g bs st.1 st.2)
    (h : ∀ w', Re w' B g bs st.1 (if st.2 = 0 ∧ st.1 < bs.length then 21 else st.2) → Kp (fun k => k = B) w w' → R (.returned (.tuple #[])) w') :
    GoC Try.prog F_field_Reader_End #[.pointer (some ⟨B, 0, none⟩)] w R := by
  obtain ⟨at_, e⟩ := st
  dsimp only at hr h
  refine S_field_Reader_End ?_
  unfold W_field_Reader_End
  refine ⟨_, hr.cerr, cond_eq (fun he => ?_) (fun he => fun k1 => ?_)⟩
  · obtain ⟨c, hs⟩ := hr.slice
    refine ⟨_, hr.cat, g, bs.length, c, hs, fun k1 => cond_d (fun hlt => ?_) (fun hge => ?_)⟩
    · have hr1 := hr.kp0 (Kp.drew w k1)
      rw [if_pos ⟨by omega, by omega⟩] at h
      exact hr1.set (.inr rfl) (fun c => rfl) hr.le fun w2 hr2 k2 => h w2 hr2 ((Kp.drew w k1).trans k2 (fun k _ h => h.elim) (fun k _ h => h))
    · rw [if_neg (by omega)] at h
      exact h _ (hr.kp0 (Kp.drew w k1)) (Kp.drew w k1).of_no
  · rw [if_neg (by omega)] at h
    exact h _ (hr.kp0 (Kp.drew w k1)) (Kp.drew w k1).of_no

theorem reader_Fault {w : World} {B : Nat} {g : Option Addr} {bs : List UInt8} {st : Nat × Nat} {R : Ending → World → Prop} (hr : Re w B g bs st.1 st.2)
    (h : ∀ w', Kp no w w' → R (.returned (.tuple #[.int .i64 ((if st.2 = 0 then 0 else st.1 : Nat) : Int), .int .i64 (st.2 : Int)])) w') :
    GoC Try.prog F_field_Reader_Fault #[.pointer (some ⟨B, 0, none⟩)] w R := by
  obtain ⟨at_, e⟩ := st
  dsimp only at hr h
  refine S_field_Reader_Fault ?_
  unfold W_field_Reader_Fault
  refine ⟨_, hr.cerr, cond_eq (fun he => ?_) (fun he => ?_)⟩
  · have he0 : e = 0 := by omega
    subst he0
    exact h w (Kp.refl _ _)
  · refine ⟨_, hr.cat, _, hr.cerr, fun k1 => ?_⟩
    rw [if_neg (by omega)] at h
    exact h _ (Kp.drew w k1)
end Go.Proofs.Ytkfdkcclojepnaa

/- The plain law of the numbers' form: what is written is read, a cut form is short, what is read has one form. Conditions: none. -/
set_option linter.unusedVariables false
set_option linter.unusedSimpArgs false
namespace Go.Proofs.Ytkfdkcclojepnaa
open Go Go.RowKit

theorem vform_small {m : Nat} (h : m < 128) : vform m = [UInt8.ofNat m] := by rw [vform, if_pos h]
theorem vform_big {m : Nat} (h : ¬ m < 128) : vform m = UInt8.ofNat (m % 128 + 128) :: vform (m / 128) := by rw [vform, if_neg h]
theorem ofNat_toNat {x : Nat} (h : x < 256) : (UInt8.ofNat x).toNat = x := by simp only [UInt8.toNat_ofNat']; omega

theorem hiRun_vform (rest : List UInt8) : ∀ n m, m ≤ n → hiRun (vform m ++ rest) + 1 = (vform m).length := by
  intro n
  induction n with
  | zero =>
    intro m hm
    have : m = 0 := by omega
    subst this
    rw [vform_small (by omega)]
    simp [hiRun]
  | succ n ih =>
    intro m hm
    by_cases h : m < 128
    · rw [vform_small h]
      have hx : (UInt8.ofNat m).toNat = m := ofNat_toNat (by omega)
      simp only [List.singleton_append, hiRun, hx, List.length_singleton]
      rw [if_neg (by omega)]
    · rw [vform_big h]
      have hx : (UInt8.ofNat (m % 128 + 128)).toNat = m % 128 + 128 := ofNat_toNat (by omega)
      simp only [List.cons_append, hiRun, hx, List.length_cons]
      rw [if_pos (by omega), ih (m / 128) (by omega)]

theorem gval_vform : ∀ n m, m ≤ n → gval (vform m) = m := by
  intro n
  induction n with
  | zero =>
    intro m hm
    have : m = 0 := by omega
    subst this
    rw [vform_small (by omega)]
    simp [gval]
  | succ n ih =>
    intro m hm
    by_cases h : m < 128
    · rw [vform_small h]
      have hx : (UInt8.ofNat m).toNat = m := ofNat_toNat (by omega)
      simp only [gval, hx]
      omega
    · rw [vform_big h]
      have hx : (UInt8.ofNat (m % 128 + 128)).toNat = m % 128 + 128 := ofNat_toNat (by omega)
      simp only [gval, hx]
      rw [ih (m / 128) (by omega)]
      omega

theorem last_vform (rest : List UInt8) : ∀ n m, m ≤ n → ((vform m ++ rest).getD ((vform m).length - 1) 0).toNat = m / 128 ^ ((vform m).length - 1) ∧ (1 < (vform m).length → 128 ^ ((vform m).length - 1) ≤ m) := by
  intro n
  induction n with
  | zero =>
    intro m hm
    have : m = 0 := by omega
    subst this
    rw [vform_small (by omega)]
    simp
  | succ n ih =>
    intro m hm
    by_cases h : m < 128
    · rw [vform_small h]
      have hx : (UInt8.ofNat m).toNat = m := ofNat_toNat (by omega)
      simp only [List.singleton_append, List.length_singleton, Nat.sub_self, List.getD_cons_zero, hx, Nat.pow_zero, Nat.div_one]
      exact ⟨trivial, fun h => by omega⟩
    · rw [vform_big h]
      obtain ⟨h1, h2⟩ := ih (m / 128) (by omega)
      have hp := vform_pos (m / 128)
      obtain ⟨j, hj⟩ : ∃ j, (vform (m / 128)).length = j + 1 := ⟨(vform (m / 128)).length - 1, by omega⟩
      simp only [List.cons_append, List.length_cons, hj, Nat.add_sub_cancel] at h1 h2 ⊢
      rw [List.getD_cons_succ, h1, Nat.div_div_eq_div_mul, Nat.pow_succ, Nat.mul_comm 128]
      refine ⟨rfl, fun _ => ?_⟩
      rcases Nat.eq_zero_or_pos j with h0 | h0
      · subst h0; omega
      · have := h2 (by omega)
        omega

theorem parse_vform {m : Nat} (h : m < 18446744073709551616) (rest : List UInt8) : parse (vform m ++ rest) = (m, (vform m).length, 0) := by
  have h1 := hiRun_vform rest m m (Nat.le_refl _)
  obtain ⟨h2, h3⟩ := last_vform rest m m (Nat.le_refl _)
  have h4 := vform_len64 h
  have hk : hiRun (vform m ++ rest) = (vform m).length - 1 := by omega
  have hp := vform_pos m
  unfold parse
  rw [if_neg (by omega), if_neg (by rw [List.length_append]; omega), hk, h2]
  rw [if_neg, show (vform m).length - 1 + 1 = (vform m).length by omega, List.take_left, gval_vform m m (Nat.le_refl _)]
  rintro (⟨h5, h6⟩ | ⟨h5, h6⟩)
  · have h7 := h3 (by omega)
    have := Nat.div_pos h7 (Nat.pow_pos (by omega))
    omega
  · rw [h5] at h6
    have : (128 : Nat) ^ 9 = 9223372036854775808 := by decide
    rw [this] at h6
    omega

theorem hiRun_cut : ∀ n m, m ≤ n → hiRun ((vform m).take ((vform m).length - 1)) = (vform m).length - 1 := by
  intro n
  induction n with
  | zero =>
    intro m hm
    have : m = 0 := by omega
    subst this
    rw [vform_small (by omega)]
    simp [hiRun]
  | succ n ih =>
    intro m hm
    by_cases h : m < 128
    · rw [vform_small h]
      simp [hiRun]
    · rw [vform_big h]
      have := ih (m / 128) (by omega)
      have hp := vform_pos (m / 128)
      obtain ⟨j, hj⟩ : ∃ j, (vform (m / 128)).length = j + 1 := ⟨(vform (m / 128)).length - 1, by omega⟩
      have hx : (UInt8.ofNat (m % 128 + 128)).toNat = m % 128 + 128 := ofNat_toNat (by omega)
      simp only [List.length_cons, hj, Nat.add_sub_cancel] at this ⊢
      rw [List.take_succ_cons]
      simp only [hiRun, hx]
      rw [if_pos (by omega), this]

theorem parse_short {m : Nat} (h : m < 18446744073709551616) : parse ((vform m).take ((vform m).length - 1)) = (0, 0, 20) := by
  have h1 := hiRun_cut m m (Nat.le_refl _)
  have h4 := vform_len64 h
  unfold parse
  rw [if_neg (by omega), if_pos (by rw [h1, List.length_take]; omega)]

theorem hiRun_low : ∀ (l : List UInt8), hiRun l < l.length → (l.getD (hiRun l) 0).toNat < 128
  | [], h => by simp at h
  | c :: r, h => by
    by_cases hc : 128 ≤ c.toNat
    · have e : hiRun (c :: r) = hiRun r + 1 := by simp only [hiRun, if_pos hc]
      rw [e] at h ⊢
      rw [List.getD_cons_succ]
      exact hiRun_low r (by simpa using h)
    · have e : hiRun (c :: r) = 0 := by simp only [hiRun, if_neg hc]
      rw [e, List.getD_cons_zero]
      omega

theorem gval_pos {l : List UInt8} (h : hiRun l < l.length) (h0 : (l.getD (hiRun l) 0).toNat ≠ 0) : 0 < gval (l.take (hiRun l + 1)) := by
  have h1 := hiRun_low l h
  rw [getD_get h] at h1 h0
  rw [take_snoc_get l _ h, gval_snoc]
  have : 0 < (l[hiRun l]).toNat % 128 * 128 ^ (l.take (hiRun l)).length := Nat.mul_pos (by omega) (Nat.pow_pos (by omega))
  omega

theorem one_form : ∀ (l : List UInt8), hiRun l < l.length → (0 < hiRun l → (l.getD (hiRun l) 0).toNat ≠ 0) → vform (gval (l.take (hiRun l + 1))) = l.take (hiRun l + 1)
  | [], h, _ => by simp at h
  | c :: r, h, h0 => by
    by_cases hc : 128 ≤ c.toNat
    · have e : hiRun (c :: r) = hiRun r + 1 := by simp only [hiRun, if_pos hc]
      rw [e] at h h0 ⊢
      rw [List.getD_cons_succ] at h0
      have hr : hiRun r < r.length := by simpa using h
      have hg := gval_pos hr (h0 (by omega))
      have ih := one_form r hr fun _ => h0 (by omega)
      have hb := u8_lt c
      rw [List.take_succ_cons, gval]
      rw [vform_big (by omega), show (c.toNat % 128 + 128 * gval (r.take (hiRun r + 1))) / 128 = gval (r.take (hiRun r + 1)) by omega, ih]
      congr 1
      apply UInt8.toNat.inj
      rw [ofNat_toNat (by omega)]
      omega
    · have e : hiRun (c :: r) = 0 := by simp only [hiRun, if_neg hc]
      rw [e]
      simp only [Nat.zero_add, List.take_succ_cons, List.take_zero, gval, Nat.mul_zero, Nat.add_zero]
      rw [vform_small (by omega)]
      congr 1
      apply UInt8.toNat.inj
      rw [ofNat_toNat (by omega)]
      omega

theorem parse_one {l : List UInt8} (h : (parse l).2.2 = 0) : vform (parse l).1 = l.take (parse l).2.1 := by
  have hle := hiRun_le l
  unfold parse at h ⊢
  split at h
  · cases h
  · split at h
    · cases h
    · split at h
      · cases h
      · rename_i h1 h2 h3
        rw [if_neg h1, if_neg h2, if_neg h3]
        simp only
        exact one_form l (by omega) fun hp hz => h3 (.inl ⟨hp, hz⟩)
end Go.Proofs.Ytkfdkcclojepnaa

/- The field's texts and the numbers', for a seat without the document's. Conditions: none. -/

/- Several texts in one: Rc, Rd, Re, Rg. Conditions: lengths below 2^47. -/
/-! Records as the formulas pass them; contracts of the package record: in, below, slots, blank, state. Conditions: none. -/
set_option linter.unusedVariables false
set_option linter.unusedSimpArgs false
namespace Go.Proofs.Ytkfdkcclojepnaa
open Go Go.RowKit

theorem Blk.at {w : World} {b o : Nat} {cs : Array Value} {T : TypeId} {ad : Addr} {v : Value} (h : Blk w b cs T) (had : ad = ⟨b, o, none⟩) (hv : cs[o]? = some v) : w.cell? ad = some v := by
  subst had
  rw [h.cell]
  exact hv

/-- A block that is new since w0. -/
structure Loc (w0 w : World) (b : Nat) (cs : Array Value) (T : TypeId) : Prop where
  blk : Blk w b cs T
  nw : w0.heap.size ≤ b
  kp : Kp no w0 w
theorem Loc.al {w0 w : World} {cs : Array Value} {T : TypeId} {K : Nat → World → Prop} (k : Kp no w0 w) (h : ∀ b w', Loc w0 w' b cs T → Kp no w w' → w.heap.size ≤ b → K b w') : AlF w (.cells cs T) K :=
  AlF.intro fun b w' hb hblk k' _ => h b w' ⟨hblk, by have := k.size; omega, k.trans0 k'⟩ k' (by omega)
theorem Loc.st {w0 w : World} {b o : Nat} {cs : Array Value} {T : TypeId} {ad : Addr} {v : Value} {K : World → Prop} (h : Loc w0 w b cs T) (had : ad = ⟨b, o, none⟩) (ho : o < cs.size)
    (hk : ∀ w', Loc w0 w' b (cs.setIfInBounds o v) T → Kp (fun k => k = b) w w' → K w') : StF w ad v K :=
  StF.at had h.blk ho fun w' hb' k' _ => hk w' ⟨hb', h.nw, kp_blk h.kp h.nw k'⟩ k'
theorem Loc.at {w0 w : World} {b o : Nat} {cs : Array Value} {T : TypeId} {ad : Addr} {v : Value} (h : Loc w0 w b cs T) (had : ad = ⟨b, o, none⟩) (hv : cs[o]? = some v) : w.cell? ad = some v := h.blk.at had hv
theorem Loc.kp' {w0 w w' : World} {b : Nat} {cs : Array Value} {T : TypeId} (h : Loc w0 w b cs T) (k : Kp no w w') : Loc w0 w' b cs T := ⟨k.blk h.blk id, h.nw, h.kp.trans0 k⟩
theorem Loc.of {w0 w w' : World} {b : Nat} {cs : Array Value} {T : TypeId} {S : Nat → Prop} (h : Loc w0 w b cs T) (k : Kp S w w') (hs : ¬ S b) (k0 : Kp no w0 w') : Loc w0 w' b cs T := ⟨k.blk h.blk hs, h.nw, k0⟩

/-- A live transaction, a dirty page, a record. -/
structure LV where
  tx : Int
  last : Int
  c : Bool
  u : Bool
deriving DecidableEq
structure DV where
  page : Int
  since : Int
deriving DecidableEq
structure RV where
  lsn : Int := 0
  kind : Int := 0
  tx : Int := 0
  prev : Int := 0
  wp : Int := 0
  wi : Int := 0
  sp : Int := 0
  si : Int := 0
  delta : Int := 0
  id : Int := 0
  grp : Int := 0
  lo : Int := 0
  hi : Int := 0
  val : Int := 0
  next : Int := 0
  live : List LV := []
  dirty : List DV := []
deriving DecidableEq
def LV.cs (x : LV) : List Value := [.int .i64 x.tx, .int .i64 x.last, .bool x.c, .bool x.u]
def DV.cs (x : DV) : List Value := [.int .i64 x.page, .int .i64 x.since]
/-- Where a record's lists lie. -/
structure Mm where
  la : Option Addr := none
  ll : Nat := 0
  lc : Nat := 0
  da : Option Addr := none
  dl : Nat := 0
  dc : Nat := 0
def RV.ca (r : RV) (m : Mm) : Array Value := #[.int .i64 r.lsn, .int .i64 r.kind, .int .i64 r.tx, .int .i64 r.prev, .int .i64 r.wp, .int .i64 r.wi, .int .i64 r.sp, .int .i64 r.si, .int .i64 r.delta,
  .int .i64 r.id, .int .i64 r.grp, .int .i64 r.lo, .int .i64 r.hi, .int .i64 r.val, .slice m.la m.ll m.lc, .slice m.da m.dl m.dc, .int .i64 r.next]
/-- A record's lists lie there. -/
structure LiIn (w : World) (m : Mm) (L : List LV) (D : List DV) : Prop where
  l : Rd w m.la (flatV LV.cs L)
  ll : L.length = m.ll
  lb : m.ll < 140737488355329
  d : Rd w m.da (flatV DV.cs D)
  dl : D.length = m.dl
  db : m.dl < 140737488355329
theorem LiIn.kp0 {w w' : World} {m : Mm} {L : List LV} {D : List DV} (h : LiIn w m L D) (k : Kp no w w') : LiIn w' m L D := ⟨h.l.kp0 k, h.ll, h.lb, h.d.kp0 k, h.dl, h.db⟩
/-- Numbers that an int64 holds. -/
def i64 (n : Int) : Prop := -9223372036854775808 ≤ n ∧ n ≤ 9223372036854775807

def inB (n lo hi : Int) : Bool := decide (lo ≤ n ∧ n ≤ hi)
theorem rin_c {w : World} {n lo hi : Int} {R : Ending → World → Prop} (h : R (.returned (.bool (inB n lo hi))) w) : GoC Try.prog F_record_in #[.int .i64 n, .int .i64 lo, .int .i64 hi] w R := by
  refine S_record_in ?_
  unfold W_record_in
  unfold inB at h
  refine cond_d (fun h1 => ?_) (fun h1 => ?_)
  · have : decide (n ≤ hi) = decide (lo ≤ n ∧ n ≤ hi) := decide_eq_decide.2 (by omega)
    rw [this]
    exact h
  · have : decide (lo ≤ n ∧ n ≤ hi) = false := decide_eq_false (by omega)
    rw [this] at h
    exact h

def belB (n lsn : Int) : Bool := decide (lsn = 0 ∨ n < lsn)
theorem below_c {w : World} {n lsn : Int} {R : Ending → World → Prop} (h : R (.returned (.bool (belB n lsn))) w) : GoC Try.prog F_record_below #[.int .i64 n, .int .i64 lsn] w R := by
  refine S_record_below ?_
  unfold W_record_below
  unfold belB at h
  refine cond_eq (fun h1 => ?_) (fun h1 => ?_)
  · rw [decide_eq_true (.inl h1)] at h
    exact h
  · have : decide (n < lsn) = decide (lsn = 0 ∨ n < lsn) := decide_eq_decide.2 (by omega)
    rw [this]
    exact h

def slB (wp wi sp si : Int) : Bool := inB wp 0 63 && inB wi 0 30 && inB sp 0 63 && inB si 0 83 && decide (wp ≠ sp)
theorem slots_c {w : World} {wp wi sp si : Int} {R : Ending → World → Prop} (h : ∀ w', Kp no w w' → R (.returned (.bool (slB wp wi sp si))) w') : GoC Try.prog F_record_slots #[.agg #[.int .i64 wp, .int .i64 wi], .agg #[.int .i64 sp, .int .i64 si]] w R := by
  refine S_record_slots ?_
  unfold W_record_slots
  unfold slB at h
  refine Loc.al (Kp.refl _ w) fun b1 w1 h1 k1 g1 => Loc.al h1.kp fun b2 w2 h2 k2 g2 => ?_
  have h1' := h1.kp' k2
  refine ⟨_, h1'.at rfl rfl, rin_c ⟨_, rfl, cond_b (fun a1 => ?_) (fun a1 => ?_)⟩⟩
  · refine ⟨_, h1'.at rfl rfl, rin_c ⟨_, rfl, cond_b (fun a2 => ?_) (fun a2 => ?_)⟩⟩
    · refine ⟨_, h2.at rfl rfl, rin_c ⟨_, rfl, cond_b (fun a3 => ?_) (fun a3 => ?_)⟩⟩
      · refine ⟨_, h2.at rfl rfl, rin_c ⟨_, rfl, cond_b (fun a4 => ?_) (fun a4 => ?_)⟩⟩
        · refine ⟨_, h1'.at rfl rfl, _, h2.at rfl rfl, ?_⟩
          have e : (wp != sp) = decide (wp ≠ sp) := by by_cases hh : wp = sp <;> simp [hh]
          have := h w2 h2.kp
          rw [a1, a2, a3, a4] at this
          rw [e]
          exact this
        · have := h w2 h2.kp
          rw [a1, a2, a3, a4] at this
          exact this
      · have := h w2 h2.kp
        rw [a1, a2, a3] at this
        exact this
    · have := h w2 h2.kp
      rw [a1, a2] at this
      exact this
  · have := h w2 h2.kp
    rw [a1] at this
    exact this
end Go.Proofs.Ytkfdkcclojepnaa
/-! Contracts of the package record: state, blank, checkpoint. Conditions: none. -/
set_option linter.unusedVariables false
set_option linter.unusedSimpArgs false
namespace Go.Proofs.Ytkfdkcclojepnaa
open Go Go.RowKit

theorem Loc.up {w0 w w' : World} {b : Nat} {cs : Array Value} {T : TypeId} (h : Loc w w' b cs T) (k : Kp no w0 w) : Loc w0 w' b cs T := ⟨h.blk, by have := h.nw; have := k.size; omega, k.trans0 h.kp⟩

/-- An element of a list in memory. -/
theorem rd_el {α : Type} {f : α → List Value} {s : Nat} (hs : ∀ x, (f x).length = s) (h0 : 0 < s) {w : World} {a : Option Addr} {L : List α} (h : Rd w a (flatV f L)) {k l : Nat} (hk : k < L.length) (hl : L.length = l) {K : Addr → Prop}
    (hK : ∀ b o, a = some ⟨b, o, none⟩ → (∀ q v, (f L[k])[q]? = some v → w.cell? ⟨b, o + k * s + q, none⟩ = some v) → K ⟨b, o, none⟩) : IdxF a (k : Int) l K := by
  have hlen := flatV_len hs L
  have hx : flatV f L ≠ [] := fun hx => by
    rw [hx] at hlen
    have : 0 < L.length * s := Nat.mul_pos (by omega) h0
    simp only [List.length_nil] at hlen
    omega
  obtain ⟨b, o, ha, _, hc⟩ := h.addr hx
  refine ⟨by omega, by omega, _, ha, hK b o ha fun q v hv => ?_⟩
  have hq : q < s := by
    have := (List.getElem?_eq_some_iff.1 hv).1
    rw [hs] at this
    exact this
  rw [Nat.add_assoc]
  exact hc _ v (by rw [flatV_get hs L k hk q hq]; exact hv)
theorem LV.csl (x : LV) : x.cs.length = 4 := rfl
theorem DV.csl (x : DV) : x.cs.length = 2 := rfl

theorem lv_cp {w : World} (x : LV) {K : Nat → World → Prop} (h : ∀ b w', Loc w w' b x.cs.toArray T_api_Live → K b w') :
    AlF w (.cells #[.int .i64 0, .int .i64 0, .bool false, .bool false] T_api_Live) fun b w4 => StF w4 ⟨b, 0, none⟩ (.int .i64 x.tx) fun w5 => StF w5 (Addr.add ⟨b, 0, none⟩ 1) (.int .i64 x.last) fun w6 =>
      StF w6 (Addr.add ⟨b, 0, none⟩ 2) (.bool x.c) fun w7 => StF w7 (Addr.add ⟨b, 0, none⟩ 3) (.bool x.u) fun w8 => K b w8 :=
  Loc.al (Kp.refl _ w) fun b w1 h1 k1 g1 => h1.st rfl (by simp) fun w2 h2 _ => h2.st rfl (by simp) fun w3 h3 _ => h3.st rfl (by simp) fun w4 h4 _ => h4.st rfl (by simp) fun w5 h5 _ => h b w5 h5
theorem dv_cp {w : World} (x : DV) {K : Nat → World → Prop} (h : ∀ b w', Loc w w' b x.cs.toArray T_api_Dirty → K b w') :
    AlF w (.cells #[.int .i64 0, .int .i64 0] T_api_Dirty) fun b w4 => StF w4 ⟨b, 0, none⟩ (.int .i64 x.page) fun w5 => StF w5 (Addr.add ⟨b, 0, none⟩ 1) (.int .i64 x.since) fun w6 => K b w6 :=
  Loc.al (Kp.refl _ w) fun b w1 h1 k1 g1 => h1.st rfl (by simp) fun w2 h2 _ => h2.st rfl (by simp) fun w3 h3 _ => h b w3 h3

def stN (x : LV) : Nat := if x.c then 1 else if x.u then 2 else 0
theorem state_c {w : World} {x : LV} {R : Ending → World → Prop} (h : ∀ w', Kp no w w' → R (.returned (.int .u64 (stN x : Int))) w') : GoC Try.prog F_record_state #[.agg #[.int .i64 x.tx, .int .i64 x.last, .bool x.c, .bool x.u]] w R := by
  refine S_record_state ?_
  unfold W_record_state
  unfold stN at h
  refine Loc.al (Kp.refl _ w) fun b1 w1 h1 k1 g1 => ⟨_, h1.at rfl rfl, cond_b (fun a1 => ?_) (fun a1 => ⟨_, h1.at rfl rfl, cond_b (fun a2 => ?_) (fun a2 => ?_)⟩)⟩
  · have := h w1 h1.kp
    rw [a1] at this
    exact this
  · have := h w1 h1.kp
    rw [a1, a2] at this
    exact this
  · have := h w1 h1.kp
    rw [a1, a2] at this
    exact this

def blB (r : RV) (m : Mm) : Bool := decide (r.tx = 0 ∧ r.prev = 0 ∧ r.wp = 0 ∧ r.wi = 0 ∧ r.sp = 0 ∧ r.si = 0 ∧ r.delta = 0 ∧ r.id = 0 ∧ r.grp = 0 ∧ r.lo = 0 ∧ r.hi = 0 ∧ r.val = 0 ∧ r.next = 0 ∧ m.ll = 0 ∧ m.dl = 0)
theorem blank_c {w : World} {r : RV} {m : Mm} {R : Ending → World → Prop} (h : ∀ w', Kp no w w' → R (.returned (.bool (blB r m))) w') : GoC Try.prog F_record_blank #[.agg (r.ca m)] w R := by
  refine S_record_blank ?_
  unfold W_record_blank
  refine Loc.al (Kp.refl _ w) fun b1 w1 h1 k1 g1 => ?_
  have no' : ¬ (r.tx = 0 ∧ r.prev = 0 ∧ r.wp = 0 ∧ r.wi = 0 ∧ r.sp = 0 ∧ r.si = 0 ∧ r.delta = 0 ∧ r.id = 0 ∧ r.grp = 0 ∧ r.lo = 0 ∧ r.hi = 0 ∧ r.val = 0 ∧ r.next = 0 ∧ m.ll = 0 ∧ m.dl = 0) → R (.returned (.bool false)) w1 := fun hh => by
    have := h w1 h1.kp
    unfold blB at this
    rw [decide_eq_false hh] at this
    exact this
  refine ⟨_, h1.at rfl rfl, cond_eq (fun a1 => ?_) (fun a1 => no' (by omega))⟩
  refine ⟨_, h1.at rfl rfl, cond_eq (fun a2 => ?_) (fun a2 => no' (by omega))⟩
  refine ⟨_, _, ⟨h1.at rfl rfl, h1.at rfl rfl, trivial⟩, cond_b (fun a3 => ?_) (fun a3 => no' (by simp at a3; omega))⟩
  refine ⟨_, _, ⟨h1.at rfl rfl, h1.at rfl rfl, trivial⟩, cond_b (fun a4 => ?_) (fun a4 => no' (by simp at a4; omega))⟩
  refine ⟨_, h1.at rfl rfl, cond_eq (fun a5 => ?_) (fun a5 => no' (by omega))⟩
  refine ⟨_, _, _, _, _, ⟨h1.at rfl rfl, h1.at rfl rfl, h1.at rfl rfl, h1.at rfl rfl, h1.at rfl rfl, trivial⟩, cond_b (fun a6 => ?_) (fun a6 => no' (by simp at a6; omega))⟩
  refine ⟨_, h1.at rfl rfl, cond_eq (fun a7 => ?_) (fun a7 => no' (by omega))⟩
  refine ⟨_, _, _, h1.at rfl rfl, cond_eq (fun a8 => ?_) (fun a8 => no' (by omega))⟩
  refine ⟨_, _, _, h1.at rfl rfl, ?_⟩
  have e : (((m.dl : Nat) : Int) == 0) = blB r m := by
    simp only [Bool.and_true, Bool.and_eq_true, beq_iff_eq] at a3 a4 a6
    unfold blB
    by_cases hh : m.dl = 0
    · rw [decide_eq_true (by omega)]
      simp [hh]
    · rw [decide_eq_false (by omega)]
      simp [hh]
  rw [e]
  exact h w1 h1.kp

def liB (next lsn : Int) : Int → List LV → Bool
  | _, [] => true
  | last, x :: r => decide (last < x.tx) && decide (x.tx < next) && inB x.last 1 2147483647 && belB x.last lsn && !(x.c && x.u) && liB next lsn x.tx r
def diB (lsn : Int) : Int → List DV → Bool
  | _, [] => true
  | page, x :: r => decide (page < x.page) && decide (x.page < 64) && inB x.since 1 2147483647 && belB x.since lsn && diB lsn x.page r
def cpB (next lsn : Int) (L : List LV) (D : List DV) : Bool := inB next 1 2147483648 && decide (L.length ≤ 32) && decide (D.length ≤ 16) && liB next lsn 0 L && diB lsn (-1) D

theorem checkpoint_c {w : World} {m : Mm} {next lsn : Int} {L : List LV} {D : List DV} {R : Ending → World → Prop} (hi : LiIn w m L D) (h : ∀ w', Kp no w w' → R (.returned (.bool (cpB next lsn L D))) w') :
    GoC Try.prog F_record_checkpoint #[.agg #[.slice m.la m.ll m.lc, .slice m.da m.dl m.dc, .int .i64 next], .int .i64 lsn] w R := by
  refine S_record_checkpoint ?_
  unfold W_record_checkpoint
  have hll := hi.ll
  have hdl := hi.dl
  have hlb := hi.lb
  have hdb := hi.db
  refine Loc.al (Kp.refl _ w) fun b1 w1 h1 k1 g1 => ?_
  have no' : ∀ w', Kp no w w' → cpB next lsn L D = false → R (.returned (.bool false)) w' := fun w' k' hh => by
    have := h w' k'
    rw [hh] at this
    exact this
  refine ⟨_, h1.at rfl rfl, rin_c ⟨_, rfl, cond_not (cond_b (fun a1 => ?_) (fun a1 => no' w1 h1.kp (by simp [cpB, a1])))⟩⟩
  refine ⟨_, _, _, h1.at rfl rfl, cond_d (fun a2 => no' w1 h1.kp ?_) (fun a2 => ?_)⟩
  · have : ¬ L.length ≤ 32 := by omega
    simp [cpB, this]
  refine ⟨_, _, _, h1.at rfl rfl, cond_d (fun a3 => no' w1 h1.kp ?_) (fun a3 => ?_)⟩
  · have : ¬ D.length ≤ 16 := by omega
    simp [cpB, this]
  have e2 : L.length ≤ 32 := by omega
  have e3 : D.length ≤ 16 := by omega
  have cp : cpB next lsn L D = (liB next lsn 0 L && diB lsn (-1) D) := by simp [cpB, a1, e2, e3]
  refine ⟨_, _, _, h1.at rfl rfl, ?_⟩
  refine loopN (fun s w2 => Kp no w1 w2 ∧ ∃ k : Nat, k ≤ L.length ∧ s.2.1 = (k : Int) ∧ liB next lsn 0 L = liB next lsn s.1 (L.drop k)) (fun s _ => L.length - s.2.1.toNat) ⟨Kp.refl _ _, 0, Nat.zero_le _, rfl, rfl⟩ ?_
  rintro ⟨last, k0, u⟩ w2 ⟨k2, k, hk, hk0, hl⟩ _
  dsimp only at hk0 hl ⊢
  subst hk0
  have h2 := h1.kp' k2
  refine cond_d (fun hlt => ?_) (fun hge => ?_)
  · have hkl : k < L.length := by omega
    have hd : L.drop k = L[k] :: L.drop (k + 1) := List.drop_eq_getElem_cons hkl
    rw [hd, liB] at hl
    refine rd_el LV.csl (by omega) (hi.kp0 h2.kp).l hkl hll fun b o ha hc => ?_
    have cell : ∀ q v, (L[k]).cs[q]? = some v → w2.cell? (Addr.add ((⟨b, o, none⟩ : Addr).add (Int.toNat (k : Int) * 4)) q) = some v := fun q v hv => by
      rw [Int.toNat_natCast, add_at, add_at]; exact hc q v hv
    have cell0 : w2.cell? ((⟨b, o, none⟩ : Addr).add (Int.toNat (k : Int) * 4)) = some (.int .i64 (L[k]).tx) := by
      rw [Int.toNat_natCast, add_at]; exact hc 0 _ rfl
    refine ⟨_, _, _, _, ⟨cell0, cell 1 _ rfl, cell 2 _ rfl, cell 3 _ rfl, trivial⟩, ?_⟩
    refine lv_cp L[k] fun b2 w3 h3 => ?_
    have no2 : liB next lsn 0 L = false → R (.returned (.bool false)) w3 := fun hh => no' w3 (h2.kp.trans0 h3.kp) (by rw [cp, hh]; rfl)
    have hwk : IntKind.wrap .i64 ((k : Int) + 1) = ((k + 1 : Nat) : Int) := by rw [wrap_i64 (by omega) (by omega)]; omega
    refine ⟨fun _ w4 => w4 = w3 ∧ liB next lsn 0 L = liB next lsn (L[k]).tx (L.drop (k + 1)), ?_, ?_⟩
    · refine ⟨_, h3.at rfl rfl, cond_d (fun a4 => no2 ?_) (fun a4 => ?_)⟩
      · have : ¬ last < (L[k]).tx := by omega
        rw [hl]; simp [this]
      refine ⟨_, h3.at rfl rfl, _, (h2.kp' h3.kp).at rfl rfl, cond_d (fun a5 => no2 ?_) (fun a5 => ?_)⟩
      · have : ¬ (L[k]).tx < next := by omega
        rw [hl]; simp [this]
      refine ⟨_, h3.at rfl rfl, rin_c ⟨_, rfl, cond_not (cond_b (fun a6 => ?_) (fun a6 => no2 (by rw [hl]; simp [a6])))⟩⟩
      refine ⟨_, h3.at rfl rfl, below_c ⟨_, rfl, cond_not (cond_b (fun a7 => ?_) (fun a7 => no2 (by rw [hl]; simp [a7])))⟩⟩
      have a4' : last < (L[k]).tx := by omega
      have a5' : (L[k]).tx < next := by omega
      refine ⟨_, h3.at rfl rfl, cond_b (fun a8 => ⟨_, h3.at rfl rfl, cond_b (fun a9 => no2 ?_) (fun a9 => ⟨rfl, ?_⟩)⟩) (fun a8 => ⟨rfl, ?_⟩)⟩
      · rw [hl, a8, a9]
        simp
      · rw [hl, a6, a7, a8, a9]
        simp [a4', a5']
      · rw [hl, a6, a7, a8]
        simp [a4', a5']
    rintro s w4 ⟨rfl, hl2⟩ _
    refine ⟨_, h3.at rfl rfl, ⟨k2.trans0 h3.kp, k + 1, by omega, hwk, hl2⟩, by rw [hwk]; simp only [Int.toNat_natCast]; omega⟩
  · have hke : k = L.length := by omega
    subst hke
    rw [List.drop_length, liB] at hl
    rw [hl, Bool.true_and] at cp
    refine ⟨_, _, _, h2.at rfl rfl, ?_⟩
    refine loopN (fun s w3 => Kp no w1 w3 ∧ ∃ k : Nat, k ≤ D.length ∧ s.2.1 = (k : Int) ∧ diB lsn (-1) D = diB lsn s.1 (D.drop k)) (fun s _ => D.length - s.2.1.toNat) ⟨k2, 0, Nat.zero_le _, rfl, rfl⟩ ?_
    rintro ⟨page, k0, u⟩ w3 ⟨k3, k, hk, hk0, hl⟩ _
    dsimp only at hk0 hl ⊢
    subst hk0
    refine cond_d (fun hlt => ?_) (fun hge => ?_)
    · have hkl : k < D.length := by omega
      have hd : D.drop k = D[k] :: D.drop (k + 1) := List.drop_eq_getElem_cons hkl
      rw [hd, diB] at hl
      refine rd_el DV.csl (by omega) (hi.kp0 (h1.kp.trans0 k3)).d hkl hdl fun b o ha hc => ?_
      have cell1 : w3.cell? (Addr.add ((⟨b, o, none⟩ : Addr).add (Int.toNat (k : Int) * 2)) 1) = some (.int .i64 (D[k]).since) := by
        rw [Int.toNat_natCast, add_at, add_at]; exact hc 1 _ rfl
      have cell0 : w3.cell? ((⟨b, o, none⟩ : Addr).add (Int.toNat (k : Int) * 2)) = some (.int .i64 (D[k]).page) := by
        rw [Int.toNat_natCast, add_at]; exact hc 0 _ rfl
      refine ⟨_, _, ⟨cell0, cell1, trivial⟩, ?_⟩
      refine dv_cp D[k] fun b2 w4 h4 => ?_
      have no2 : diB lsn (-1) D = false → R (.returned (.bool false)) w4 := fun hh => no' w4 ((h1.kp.trans0 k3).trans0 h4.kp) (by rw [cp, hh])
      refine ⟨_, h4.at rfl rfl, cond_d (fun a4 => no2 ?_) (fun a4 => ?_)⟩
      · have : ¬ page < (D[k]).page := by omega
        rw [hl]; simp [this]
      refine ⟨_, h4.at rfl rfl, cond_d (fun a5 => no2 ?_) (fun a5 => ?_)⟩
      · have : ¬ (D[k]).page < 64 := by omega
        rw [hl]; simp [this]
      refine ⟨_, h4.at rfl rfl, rin_c ⟨_, rfl, cond_not (cond_b (fun a6 => ?_) (fun a6 => no2 (by rw [hl]; simp [a6])))⟩⟩
      refine ⟨_, h4.at rfl rfl, below_c ⟨_, rfl, cond_not (cond_b (fun a7 => ?_) (fun a7 => no2 (by rw [hl]; simp [a7])))⟩⟩
      have hwk : IntKind.wrap .i64 ((k : Int) + 1) = ((k + 1 : Nat) : Int) := by rw [wrap_i64 (by omega) (by omega)]; omega
      have a4' : page < (D[k]).page := by omega
      have a5' : (D[k]).page < 64 := by omega
      refine ⟨_, h4.at rfl rfl, ⟨k3.trans0 h4.kp, k + 1, by omega, hwk, ?_⟩, by rw [hwk]; simp only [Int.toNat_natCast]; omega⟩
      rw [hl, a6, a7]
      simp [a4', a5']
    · have hke : k = D.length := by omega
      subst hke
      rw [List.drop_length, diB] at hl
      rw [hl] at cp
      have := h w3 (h1.kp.trans0 k3)
      rw [cp] at this
      exact this
end Go.Proofs.Ytkfdkcclojepnaa
/-! The contract of the package record's Check. Conditions: none. -/
set_option linter.unusedVariables false
set_option linter.unusedSimpArgs false
namespace Go.Proofs.Ytkfdkcclojepnaa
open Go Go.RowKit

/-- A record, copied into a new block. -/
theorem rec_cp {w : World} (r : RV) (m : Mm) {K : Nat → World → Prop} (h : ∀ b w', Loc w w' b (r.ca m) T_api_Record → K b w') :
    AlF w (.cells #[.int .i64 0, .int .i64 0, .int .i64 0, .int .i64 0, .int .i64 0, .int .i64 0, .int .i64 0, .int .i64 0, .int .i64 0, .int .i64 0, .int .i64 0, .int .i64 0, .int .i64 0, .int .i64 0, .slice none 0 0, .slice none 0 0, .int .i64 0] T_api_Record) fun b w0 => StF w0 ⟨b, 0, none⟩ (.int .i64 r.lsn) fun w1 => StF w1 (Addr.add ⟨b, 0, none⟩ 1) (.int .i64 r.kind) fun w2 => StF w2 (Addr.add ⟨b, 0, none⟩ 2) (.int .i64 r.tx) fun w3 => StF w3 (Addr.add ⟨b, 0, none⟩ 3) (.int .i64 r.prev) fun w4 => StF w4 (Addr.add ⟨b, 0, none⟩ 4) (.int .i64 r.wp) fun w5 => StF w5 (Addr.add ⟨b, 0, none⟩ 5) (.int .i64 r.wi) fun w6 => StF w6 (Addr.add ⟨b, 0, none⟩ 6) (.int .i64 r.sp) fun w7 => StF w7 (Addr.add ⟨b, 0, none⟩ 7) (.int .i64 r.si) fun w8 => StF w8 (Addr.add ⟨b, 0, none⟩ 8) (.int .i64 r.delta) fun w9 => StF w9 (Addr.add ⟨b, 0, none⟩ 9) (.int .i64 r.id) fun w10 => StF w10 (Addr.add ⟨b, 0, none⟩ 10) (.int .i64 r.grp) fun w11 => StF w11 (Addr.add ⟨b, 0, none⟩ 11) (.int .i64 r.lo) fun w12 => StF w12 (Addr.add ⟨b, 0, none⟩ 12) (.int .i64 r.hi) fun w13 => StF w13 (Addr.add ⟨b, 0, none⟩ 13) (.int .i64 r.val) fun w14 => StF w14 (Addr.add ⟨b, 0, none⟩ 14) (.slice m.la m.ll m.lc) fun w15 => StF w15 (Addr.add ⟨b, 0, none⟩ 15) (.slice m.da m.dl m.dc) fun w16 => StF w16 (Addr.add ⟨b, 0, none⟩ 16) (.int .i64 r.next) fun w17 => K b w17 :=
  Loc.al (Kp.refl _ w) fun b w0 h0 _ _ =>
  h0.st rfl (by simp) fun w1 h' _ => have h1 : Loc w w1 b #[.int .i64 r.lsn, .int .i64 0, .int .i64 0, .int .i64 0, .int .i64 0, .int .i64 0, .int .i64 0, .int .i64 0, .int .i64 0, .int .i64 0, .int .i64 0, .int .i64 0, .int .i64 0, .int .i64 0, .slice none 0 0, .slice none 0 0, .int .i64 0] T_api_Record := h'
  h1.st rfl (by simp) fun w2 h' _ => have h2 : Loc w w2 b #[.int .i64 r.lsn, .int .i64 r.kind, .int .i64 0, .int .i64 0, .int .i64 0, .int .i64 0, .int .i64 0, .int .i64 0, .int .i64 0, .int .i64 0, .int .i64 0, .int .i64 0, .int .i64 0, .int .i64 0, .slice none 0 0, .slice none 0 0, .int .i64 0] T_api_Record := h'
  h2.st rfl (by simp) fun w3 h' _ => have h3 : Loc w w3 b #[.int .i64 r.lsn, .int .i64 r.kind, .int .i64 r.tx, .int .i64 0, .int .i64 0, .int .i64 0, .int .i64 0, .int .i64 0, .int .i64 0, .int .i64 0, .int .i64 0, .int .i64 0, .int .i64 0, .int .i64 0, .slice none 0 0, .slice none 0 0, .int .i64 0] T_api_Record := h'
  h3.st rfl (by simp) fun w4 h' _ => have h4 : Loc w w4 b #[.int .i64 r.lsn, .int .i64 r.kind, .int .i64 r.tx, .int .i64 r.prev, .int .i64 0, .int .i64 0, .int .i64 0, .int .i64 0, .int .i64 0, .int .i64 0, .int .i64 0, .int .i64 0, .int .i64 0, .int .i64 0, .slice none 0 0, .slice none 0 0, .int .i64 0] T_api_Record := h'
  h4.st rfl (by simp) fun w5 h' _ => have h5 : Loc w w5 b #[.int .i64 r.lsn, .int .i64 r.kind, .int .i64 r.tx, .int .i64 r.prev, .int .i64 r.wp, .int .i64 0, .int .i64 0, .int .i64 0, .int .i64 0, .int .i64 0, .int .i64 0, .int .i64 0, .int .i64 0, .int .i64 0, .slice none 0 0, .slice none 0 0, .int .i64 0] T_api_Record := h'
  h5.st rfl (by simp) fun w6 h' _ => have h6 : Loc w w6 b #[.int .i64 r.lsn, .int .i64 r.kind, .int .i64 r.tx, .int .i64 r.prev, .int .i64 r.wp, .int .i64 r.wi, .int .i64 0, .int .i64 0, .int .i64 0, .int .i64 0, .int .i64 0, .int .i64 0, .int .i64 0, .int .i64 0, .slice none 0 0, .slice none 0 0, .int .i64 0] T_api_Record := h'
  h6.st rfl (by simp) fun w7 h' _ => have h7 : Loc w w7 b #[.int .i64 r.lsn, .int .i64 r.kind, .int .i64 r.tx, .int .i64 r.prev, .int .i64 r.wp, .int .i64 r.wi, .int .i64 r.sp, .int .i64 0, .int .i64 0, .int .i64 0, .int .i64 0, .int .i64 0, .int .i64 0, .int .i64 0, .slice none 0 0, .slice none 0 0, .int .i64 0] T_api_Record := h'
  h7.st rfl (by simp) fun w8 h' _ => have h8 : Loc w w8 b #[.int .i64 r.lsn, .int .i64 r.kind, .int .i64 r.tx, .int .i64 r.prev, .int .i64 r.wp, .int .i64 r.wi, .int .i64 r.sp, .int .i64 r.si, .int .i64 0, .int .i64 0, .int .i64 0, .int .i64 0, .int .i64 0, .int .i64 0, .slice none 0 0, .slice none 0 0, .int .i64 0] T_api_Record := h'
  h8.st rfl (by simp) fun w9 h' _ => have h9 : Loc w w9 b #[.int .i64 r.lsn, .int .i64 r.kind, .int .i64 r.tx, .int .i64 r.prev, .int .i64 r.wp, .int .i64 r.wi, .int .i64 r.sp, .int .i64 r.si, .int .i64 r.delta, .int .i64 0, .int .i64 0, .int .i64 0, .int .i64 0, .int .i64 0, .slice none 0 0, .slice none 0 0, .int .i64 0] T_api_Record := h'
  h9.st rfl (by simp) fun w10 h' _ => have h10 : Loc w w10 b #[.int .i64 r.lsn, .int .i64 r.kind, .int .i64 r.tx, .int .i64 r.prev, .int .i64 r.wp, .int .i64 r.wi, .int .i64 r.sp, .int .i64 r.si, .int .i64 r.delta, .int .i64 r.id, .int .i64 0, .int .i64 0, .int .i64 0, .int .i64 0, .slice none 0 0, .slice none 0 0, .int .i64 0] T_api_Record := h'
  h10.st rfl (by simp) fun w11 h' _ => have h11 : Loc w w11 b #[.int .i64 r.lsn, .int .i64 r.kind, .int .i64 r.tx, .int .i64 r.prev, .int .i64 r.wp, .int .i64 r.wi, .int .i64 r.sp, .int .i64 r.si, .int .i64 r.delta, .int .i64 r.id, .int .i64 r.grp, .int .i64 0, .int .i64 0, .int .i64 0, .slice none 0 0, .slice none 0 0, .int .i64 0] T_api_Record := h'
  h11.st rfl (by simp) fun w12 h' _ => have h12 : Loc w w12 b #[.int .i64 r.lsn, .int .i64 r.kind, .int .i64 r.tx, .int .i64 r.prev, .int .i64 r.wp, .int .i64 r.wi, .int .i64 r.sp, .int .i64 r.si, .int .i64 r.delta, .int .i64 r.id, .int .i64 r.grp, .int .i64 r.lo, .int .i64 0, .int .i64 0, .slice none 0 0, .slice none 0 0, .int .i64 0] T_api_Record := h'
  h12.st rfl (by simp) fun w13 h' _ => have h13 : Loc w w13 b #[.int .i64 r.lsn, .int .i64 r.kind, .int .i64 r.tx, .int .i64 r.prev, .int .i64 r.wp, .int .i64 r.wi, .int .i64 r.sp, .int .i64 r.si, .int .i64 r.delta, .int .i64 r.id, .int .i64 r.grp, .int .i64 r.lo, .int .i64 r.hi, .int .i64 0, .slice none 0 0, .slice none 0 0, .int .i64 0] T_api_Record := h'
  h13.st rfl (by simp) fun w14 h' _ => have h14 : Loc w w14 b #[.int .i64 r.lsn, .int .i64 r.kind, .int .i64 r.tx, .int .i64 r.prev, .int .i64 r.wp, .int .i64 r.wi, .int .i64 r.sp, .int .i64 r.si, .int .i64 r.delta, .int .i64 r.id, .int .i64 r.grp, .int .i64 r.lo, .int .i64 r.hi, .int .i64 r.val, .slice none 0 0, .slice none 0 0, .int .i64 0] T_api_Record := h'
  h14.st rfl (by simp) fun w15 h' _ => have h15 : Loc w w15 b #[.int .i64 r.lsn, .int .i64 r.kind, .int .i64 r.tx, .int .i64 r.prev, .int .i64 r.wp, .int .i64 r.wi, .int .i64 r.sp, .int .i64 r.si, .int .i64 r.delta, .int .i64 r.id, .int .i64 r.grp, .int .i64 r.lo, .int .i64 r.hi, .int .i64 r.val, .slice m.la m.ll m.lc, .slice none 0 0, .int .i64 0] T_api_Record := h'
  h15.st rfl (by simp) fun w16 h' _ => have h16 : Loc w w16 b #[.int .i64 r.lsn, .int .i64 r.kind, .int .i64 r.tx, .int .i64 r.prev, .int .i64 r.wp, .int .i64 r.wi, .int .i64 r.sp, .int .i64 r.si, .int .i64 r.delta, .int .i64 r.id, .int .i64 r.grp, .int .i64 r.lo, .int .i64 r.hi, .int .i64 r.val, .slice m.la m.ll m.lc, .slice m.da m.dl m.dc, .int .i64 0] T_api_Record := h'
  h16.st rfl (by simp) fun w17 h' _ => have h17 : Loc w w17 b #[.int .i64 r.lsn, .int .i64 r.kind, .int .i64 r.tx, .int .i64 r.prev, .int .i64 r.wp, .int .i64 r.wi, .int .i64 r.sp, .int .i64 r.si, .int .i64 r.delta, .int .i64 r.id, .int .i64 r.grp, .int .i64 r.lo, .int .i64 r.hi, .int .i64 r.val, .slice m.la m.ll m.lc, .slice m.da m.dl m.dc, .int .i64 r.next] T_api_Record := h'
  h b w17 h17
/-- A record, read whole. -/
theorem rec_rd {w : World} {b : Nat} {r : RV} {m : Mm} {T : TypeId} (h : Blk w b (r.ca m) T) {K : Int → Int → Int → Int → Int → Int → Int → Int → Int → Int → Int → Int → Int → Int → Option Addr → Nat → Nat → Option Addr → Nat → Nat → Int → Prop}
    (hk : K r.lsn r.kind r.tx r.prev r.wp r.wi r.sp r.si r.delta r.id r.grp r.lo r.hi r.val m.la m.ll m.lc m.da m.dl m.dc r.next) :
    ∃ (n0 n1 n2 n3 n4 n5 n6 n7 n8 n9 n10 n11 n12 n13 : Int) (a : Option Addr) (l c : Nat) (a' : Option Addr) (l' c' : Nat) (n14 : Int), (w.cell? ⟨b, 0, none⟩ = some (.int .i64 n0) ∧ w.cell? (Addr.add ⟨b, 0, none⟩ 1) = some (.int .i64 n1) ∧ w.cell? (Addr.add ⟨b, 0, none⟩ 2) = some (.int .i64 n2) ∧ w.cell? (Addr.add ⟨b, 0, none⟩ 3) = some (.int .i64 n3) ∧ w.cell? (Addr.add ⟨b, 0, none⟩ 4) = some (.int .i64 n4) ∧ w.cell? (Addr.add ⟨b, 0, none⟩ 5) = some (.int .i64 n5) ∧ w.cell? (Addr.add ⟨b, 0, none⟩ 6) = some (.int .i64 n6) ∧ w.cell? (Addr.add ⟨b, 0, none⟩ 7) = some (.int .i64 n7) ∧ w.cell? (Addr.add ⟨b, 0, none⟩ 8) = some (.int .i64 n8) ∧ w.cell? (Addr.add ⟨b, 0, none⟩ 9) = some (.int .i64 n9) ∧ w.cell? (Addr.add ⟨b, 0, none⟩ 10) = some (.int .i64 n10) ∧ w.cell? (Addr.add ⟨b, 0, none⟩ 11) = some (.int .i64 n11) ∧ w.cell? (Addr.add ⟨b, 0, none⟩ 12) = some (.int .i64 n12) ∧ w.cell? (Addr.add ⟨b, 0, none⟩ 13) = some (.int .i64 n13) ∧ w.cell? (Addr.add ⟨b, 0, none⟩ 14) = some (.slice a l c) ∧ w.cell? (Addr.add ⟨b, 0, none⟩ 15) = some (.slice a' l' c') ∧ w.cell? (Addr.add ⟨b, 0, none⟩ 16) = some (.int .i64 n14) ∧ True) ∧ K n0 n1 n2 n3 n4 n5 n6 n7 n8 n9 n10 n11 n12 n13 a l c a' l' c' n14 :=
  ⟨_, _, _, _, _, _, _, _, _, _, _, _, _, _, _, _, _, _, _, _, _, ⟨h.at rfl rfl, h.at rfl rfl, h.at rfl rfl, h.at rfl rfl, h.at rfl rfl, h.at rfl rfl, h.at rfl rfl, h.at rfl rfl, h.at rfl rfl, h.at rfl rfl, h.at rfl rfl, h.at rfl rfl, h.at rfl rfl, h.at rfl rfl, h.at rfl rfl, h.at rfl rfl, h.at rfl rfl, trivial⟩, hk⟩

theorem cnt_cp {w : World} (r : RV) {K : Nat → World → Prop} (h : ∀ b w', Loc w w' b #[.int .i64 r.id, .int .i64 r.grp, .int .i64 r.lo, .int .i64 r.hi, .int .i64 r.val] T_api_Counter → K b w') :
    AlF w (.cells #[.int .i64 0, .int .i64 0, .int .i64 0, .int .i64 0, .int .i64 0] T_api_Counter) fun b w1 => StF w1 ⟨b, 0, none⟩ (.int .i64 r.id) fun w2 => StF w2 (Addr.add ⟨b, 0, none⟩ 1) (.int .i64 r.grp) fun w3 =>
      StF w3 (Addr.add ⟨b, 0, none⟩ 2) (.int .i64 r.lo) fun w4 => StF w4 (Addr.add ⟨b, 0, none⟩ 3) (.int .i64 r.hi) fun w5 => StF w5 (Addr.add ⟨b, 0, none⟩ 4) (.int .i64 r.val) fun w6 => K b w6 :=
  Loc.al (Kp.refl _ w) fun b w1 h1 k1 g1 => h1.st rfl (by simp) fun w2 h2 _ => h2.st rfl (by simp) fun w3 h3 _ => h3.st rfl (by simp) fun w4 h4 _ => h4.st rfl (by simp) fun w5 h5 _ => h5.st rfl (by simp) fun w6 h6 _ => h b w6 h6

theorem Loc.st2 {w0 w : World} {b1 b2 o : Nat} {cs1 cs : Array Value} {T1 T : TypeId} {ad : Addr} {v : Value} {K : World → Prop} (h1 : Loc w0 w b1 cs1 T1) (h : Loc w0 w b2 cs T) (hne : b1 ≠ b2) (had : ad = ⟨b2, o, none⟩) (ho : o < cs.size)
    (hk : ∀ w', Loc w0 w' b1 cs1 T1 → Loc w0 w' b2 (cs.setIfInBounds o v) T → K w') : StF w ad v K :=
  h.st had ho fun w' h' k' => hk w' (h1.of k' hne h'.kp) h'

/-- What a record's kind asks of its fields. -/
def okB (r : RV) : Bool :=
  inB r.lsn 0 2147483647 &&
  (if r.kind = 2 then slB r.wp r.wi r.sp r.si && inB r.id 1 1048576 && inB r.grp 1 1048576 && decide (r.lo ≤ r.val ∧ r.val ≤ r.hi) && decide (r.tx = 0 ∧ r.prev = 0 ∧ r.delta = 0 ∧ r.next = 0 ∧ r.live.length = 0 ∧ r.dirty.length = 0)
  else if r.kind = 8 then cpB r.next r.lsn r.live r.dirty && decide (r.tx = 0 ∧ r.prev = 0 ∧ r.wp = 0 ∧ r.wi = 0 ∧ r.sp = 0 ∧ r.si = 0 ∧ r.delta = 0 ∧ r.id = 0 ∧ r.grp = 0 ∧ r.lo = 0 ∧ r.hi = 0 ∧ r.val = 0)
  else if r.kind = 3 ∨ r.kind = 4 then slB r.wp r.wi r.sp r.si && inB r.id 1 1048576 && (inB r.prev 1 2147483647 && belB r.prev r.lsn) && inB r.tx 1 2147483647 && decide (r.grp = 0 ∧ r.lo = 0 ∧ r.hi = 0 ∧ r.val = 0 ∧ r.next = 0 ∧ r.live.length = 0 ∧ r.dirty.length = 0)
  else if r.kind = 5 ∨ r.kind = 6 ∨ r.kind = 7 then (inB r.prev 1 2147483647 && belB r.prev r.lsn) && inB r.tx 1 2147483647 && decide (r.wp = 0 ∧ r.wi = 0 ∧ r.sp = 0 ∧ r.si = 0 ∧ r.delta = 0 ∧ r.id = 0 ∧ r.grp = 0 ∧ r.lo = 0 ∧ r.hi = 0 ∧ r.val = 0 ∧ r.next = 0 ∧ r.live.length = 0 ∧ r.dirty.length = 0)
  else inB r.tx 1 2147483647 && decide (r.prev = 0 ∧ r.wp = 0 ∧ r.wi = 0 ∧ r.sp = 0 ∧ r.si = 0 ∧ r.delta = 0 ∧ r.id = 0 ∧ r.grp = 0 ∧ r.lo = 0 ∧ r.hi = 0 ∧ r.val = 0 ∧ r.next = 0 ∧ r.live.length = 0 ∧ r.dirty.length = 0))
def chkN (r : RV) : Nat := if r.kind < 1 ∨ 8 < r.kind then 70 else if okB r then 0 else 23

/-- Check's two records. -/
structure Ck (w0 w : World) (b1 b2 : Nat) (r : RV) (m : Mm) (r2 : RV) (m2 : Mm) : Prop where
  l1 : Loc w0 w b1 (r.ca m) T_api_Record
  l2 : Loc w0 w b2 (r2.ca m2) T_api_Record

theorem Ck.st {w0 w : World} {b1 b2 o : Nat} {r : RV} {m : Mm} {r2 : RV} {m2 : Mm} {ad : Addr} {v : Value} {K : World → Prop} (h : Ck w0 w b1 b2 r m r2 m2) (hne : b1 ≠ b2) (r3 : RV) (m3 : Mm) (had : ad = ⟨b2, o, none⟩) (ho : o < 17)
    (he : (r2.ca m2).setIfInBounds o v = r3.ca m3) (hk : ∀ w', Ck w0 w' b1 b2 r m r3 m3 → K w') : StF w ad v K :=
  h.l1.st2 h.l2 hne had ho fun w' h1 h2 => hk w' ⟨h1, he ▸ h2⟩

theorem check_c {w : World} {r : RV} {m : Mm} {R : Ending → World → Prop} (hi : LiIn w m r.live r.dirty) (h : ∀ w', Kp no w w' → R (.returned (.int .i64 (chkN r : Int))) w') : GoC Try.prog F_record_Check #[.agg (r.ca m)] w R := by
  refine S_record_Check ?_
  unfold W_record_Check
  have hll := hi.ll
  have hdl := hi.dl
  refine Loc.al (Kp.refl _ w) fun b1 w1 h1 k1 g1 => ?_
  refine ⟨_, h1.at rfl rfl, cond_d (fun a1 => ?_) (fun a1 => ⟨_, h1.at rfl rfl, cond_d (fun a2 => ?_) (fun a2 => ?_)⟩)⟩
  · have := h w1 h1.kp
    unfold chkN at this
    rw [if_pos (by omega)] at this
    exact this
  · have := h w1 h1.kp
    unfold chkN at this
    rw [if_pos (by omega)] at this
    exact this
  have hfin : ∀ w', Kp no w w' → R (.returned (.int .i64 ((if okB r then 0 else 23 : Nat) : Int))) w' := fun w' k' => by
    have := h w' k'
    unfold chkN at this
    rw [if_neg (by omega)] at this
    exact this
  refine ⟨_, h1.at rfl rfl, rin_c ⟨_, rfl, ?_⟩⟩
  refine rec_rd h1.blk (rec_cp r m fun b2 w2 h2 => ?_)
  have hne : b1 ≠ b2 := by have := h1.blk.lt; have := h2.nw; omega
  have l1 := h1.kp' h2.kp
  have l2 := h2.up h1.kp
  clear h1 h2
  refine ⟨fun s w' => ∃ r2 m2, Ck w w' b1 b2 r m r2 m2 ∧ (s.1 && blB r2 m2) = okB r, ?_, ?_⟩
  · refine ⟨_, l1.at rfl rfl, ?_⟩
    refine ⟨fun s w' => ∃ r2 m2, Ck w w' b1 b2 r m r2 m2 ∧ (s.1 && inB r.tx 1 2147483647 && blB { r2 with tx := 0 } m2) = okB r, ?_, ?_⟩
    · refine ⟨fun s w' => ∃ r2 m2, Ck w w' b1 b2 r m r2 m2 ∧ (s.1 && (inB r.prev 1 2147483647 && belB r.prev r.lsn) && inB r.tx 1 2147483647 && blB { r2 with prev := 0, tx := 0 } m2) = okB r, ?_, ?_⟩
      · -- by kind
        have hc : Ck w w2 b1 b2 r m r m := ⟨l1, l2⟩
        have c34 : (r.kind = 3 ∨ r.kind = 4) → ∀ K20 : (Bool × Unit) → World → Prop, (∀ (s : Bool × Unit) w', Ck w w' b1 b2 r m r m → s.1 = (inB r.lsn 0 2147483647 && (slB r.wp r.wi r.sp r.si && inB r.id 1 1048576)) → K20 s w') →
            cond (inB r.lsn 0 2147483647) (∃ (n52 : Int) (n53 : Int), (w2.cell? (Addr.add ⟨b1, 0, none⟩ 4) = some (.int .i64 n52) ∧ w2.cell? (Addr.add (Addr.add ⟨b1, 0, none⟩ 4) 1) = some (.int .i64 n53) ∧ True) ∧ (∃ (n54 : Int) (n55 : Int), (w2.cell? (Addr.add ⟨b1, 0, none⟩ 6) = some (.int .i64 n54) ∧ w2.cell? (Addr.add (Addr.add ⟨b1, 0, none⟩ 6) 1) = some (.int .i64 n55) ∧ True) ∧ (CallF Try.prog F_record_slots #[(.agg #[(.int .i64 n52), (.int .i64 n53)]), (.agg #[(.int .i64 n54), (.int .i64 n55)])] w2 (fun r6 w45 => ∃ (q6 : Bool), r6 = (.bool q6) ∧ (cond q6 (∃ (n56 : Int), w45.cell? (Addr.add ⟨b1, 0, none⟩ 9) = some (.int .i64 n56) ∧ (CallF Try.prog F_record_in #[(.int .i64 n56), (.int .i64 (1 : Int)), (.int .i64 (1048576 : Int))] w45 (fun r7 w46 => ∃ (q7 : Bool), r7 = (.bool q7) ∧ (K20 (q7, ()) w46)) (PanF R))) (K20 (false, ()) w45))) (PanF R)))) (K20 (false, ()) w2) := by
          intro hk K20 hK
          refine cond_b (fun q1 => ?_) (fun q1 => hK _ _ hc (by rw [q1]; rfl))
          refine ⟨_, _, ⟨l1.at rfl rfl, l1.at rfl rfl, trivial⟩, _, _, ⟨l1.at rfl rfl, l1.at rfl rfl, trivial⟩, ?_⟩
          refine slots_c fun w3 k3 => ⟨_, rfl, cond_b (fun q2 => ?_) (fun q2 => hK _ _ ⟨l1.kp' k3, l2.kp' k3⟩ (by rw [q1, q2]; rfl))⟩
          refine ⟨_, (l1.kp' k3).at rfl rfl, rin_c ⟨_, rfl, hK _ _ ⟨l1.kp' k3, l2.kp' k3⟩ (by rw [q1, q2]; rfl)⟩⟩
        have f34 : (r.kind = 3 ∨ r.kind = 4) → ∀ m', m' = m → ∀ s : Bool × Unit, s.1 = (inB r.lsn 0 2147483647 && (slB r.wp r.wi r.sp r.si && inB r.id 1 1048576)) → (s.1 && (inB r.prev 1 2147483647 && belB r.prev r.lsn) && inB r.tx 1 2147483647 && blB { r with wp := 0, wi := 0, sp := 0, si := 0, id := 0, delta := 0, prev := 0, tx := 0 } m') = okB r := by
          intro hk m' hm s hs
          subst hm
          unfold okB
          rw [if_neg (by omega), if_neg (by omega), if_pos hk, hs]
          have : blB { r with wp := 0, wi := 0, sp := 0, si := 0, id := 0, delta := 0, prev := 0, tx := 0 } m' = decide (r.grp = 0 ∧ r.lo = 0 ∧ r.hi = 0 ∧ r.val = 0 ∧ r.next = 0 ∧ r.live.length = 0 ∧ r.dirty.length = 0) := by
            unfold blB
            refine decide_eq_decide.2 ?_
            dsimp only
            omega
          rw [this]
          simp only [Bool.and_assoc]
        have f567 : (r.kind = 5 ∨ r.kind = 6 ∨ r.kind = 7) → (inB r.lsn 0 2147483647 && (inB r.prev 1 2147483647 && belB r.prev r.lsn) && inB r.tx 1 2147483647 && blB { r with prev := 0, tx := 0 } m) = okB r := by
          intro hk
          unfold okB
          rw [if_neg (by omega), if_neg (by omega), if_neg (by omega), if_pos hk]
          have : blB { r with prev := 0, tx := 0 } m = decide (r.wp = 0 ∧ r.wi = 0 ∧ r.sp = 0 ∧ r.si = 0 ∧ r.delta = 0 ∧ r.id = 0 ∧ r.grp = 0 ∧ r.lo = 0 ∧ r.hi = 0 ∧ r.val = 0 ∧ r.next = 0 ∧ r.live.length = 0 ∧ r.dirty.length = 0) := by
            unfold blB
            refine decide_eq_decide.2 ?_
            dsimp only
            omega
          rw [this]
          simp only [Bool.and_assoc]
        refine cond_eq (fun e2 => ?_) fun n2 => cond_eq (fun e8 => ?_) fun n8 => cond_eq (fun e3 => cond_eq (fun _ => ?_) fun hh => absurd e3 hh) fun n3 => cond_eq (fun e4 => ?_) fun n4 =>
          cond_eq (fun e5 => cond_eq (fun _ => ⟨r, m, hc, f567 (by omega)⟩) fun hh => absurd e5 hh) fun n5 => cond_eq (fun e6 => cond_eq (fun _ => ⟨r, m, hc, f567 (by omega)⟩) fun hh => absurd e6 hh) fun n6 =>
          cond_eq (fun e7 => ⟨r, m, hc, f567 (by omega)⟩) fun n7 => cond_eq (fun e1 => ⟨r, m, hc, ?_⟩) fun n1 => by omega
        · -- Create
          refine ⟨_, _, _, _, _, ⟨l1.at rfl rfl, l1.at rfl rfl, l1.at rfl rfl, l1.at rfl rfl, l1.at rfl rfl, trivial⟩, ?_⟩
          refine cnt_cp r fun b3 w3 h3 => ?_
          have hc3 : Ck w w3 b1 b2 r m r m := ⟨l1.kp' h3.kp, l2.kp' h3.kp⟩
          refine ⟨fun s w' => Ck w w' b1 b2 r m r m ∧ s.1 = (inB r.lsn 0 2147483647 && (slB r.wp r.wi r.sp r.si && inB r.id 1 1048576 && inB r.grp 1 1048576 && decide (r.lo ≤ r.val ∧ r.val ≤ r.hi))), ?_, ?_⟩
          · refine cond_b (fun q1 => ?_) (fun q1 => ⟨hc3, by rw [q1]; rfl⟩)
            refine ⟨_, _, ⟨hc3.l1.at rfl rfl, hc3.l1.at rfl rfl, trivial⟩, _, _, ⟨hc3.l1.at rfl rfl, hc3.l1.at rfl rfl, trivial⟩, ?_⟩
            refine slots_c fun w4 k4 => ?_
            have hc4 : Ck w w4 b1 b2 r m r m := ⟨hc3.l1.kp' k4, hc3.l2.kp' k4⟩
            have h4 := h3.kp' k4
            refine ⟨_, rfl, cond_b (fun q2 => ?_) (fun q2 => ⟨hc4, by rw [q1, q2]; rfl⟩)⟩
            refine ⟨_, h4.at rfl rfl, rin_c ⟨_, rfl, cond_b (fun q3 => ?_) (fun q3 => ⟨hc4, by rw [q1, q2, q3]; rfl⟩)⟩⟩
            refine ⟨_, h4.at rfl rfl, rin_c ⟨_, rfl, cond_b (fun q4 => ?_) (fun q4 => ⟨hc4, by rw [q1, q2, q3, q4]; rfl⟩)⟩⟩
            refine ⟨_, h4.at rfl rfl, _, h4.at rfl rfl, cond_d (fun q5 => ?_) (fun q5 => ⟨hc4, ?_⟩)⟩
            · refine ⟨_, h4.at rfl rfl, _, h4.at rfl rfl, hc4, ?_⟩
              rw [q1, q2, q3, q4]
              exact decide_eq_decide.2 (by omega)
            · rw [q1, q2, q3, q4]
              exact (decide_eq_false (by omega)).symm
          · rintro ⟨q, u⟩ w4 ⟨h4, hq⟩ _
            dsimp only at hq
            refine h4.st hne { r with wp := 0 } m rfl (Nat.le_of_ble_eq_true rfl) rfl fun w5 h4 => ?_
            refine h4.st hne { r with wp := 0, wi := 0 } m rfl (Nat.le_of_ble_eq_true rfl) rfl fun w5 h4 => ?_
            refine h4.st hne { r with wp := 0, wi := 0, sp := 0 } m rfl (Nat.le_of_ble_eq_true rfl) rfl fun w5 h4 => ?_
            refine h4.st hne { r with wp := 0, wi := 0, sp := 0, si := 0 } m rfl (Nat.le_of_ble_eq_true rfl) rfl fun w5 h4 => ?_
            refine h4.st hne { r with wp := 0, wi := 0, sp := 0, si := 0, id := 0 } m rfl (Nat.le_of_ble_eq_true rfl) rfl fun w5 h4 => ?_
            refine h4.st hne { r with wp := 0, wi := 0, sp := 0, si := 0, id := 0, grp := 0 } m rfl (Nat.le_of_ble_eq_true rfl) rfl fun w5 h4 => ?_
            refine h4.st hne { r with wp := 0, wi := 0, sp := 0, si := 0, id := 0, grp := 0, lo := 0 } m rfl (Nat.le_of_ble_eq_true rfl) rfl fun w5 h4 => ?_
            refine h4.st hne { r with wp := 0, wi := 0, sp := 0, si := 0, id := 0, grp := 0, lo := 0, hi := 0 } m rfl (Nat.le_of_ble_eq_true rfl) rfl fun w5 h4 => ?_
            refine h4.st hne { r with wp := 0, wi := 0, sp := 0, si := 0, id := 0, grp := 0, lo := 0, hi := 0, val := 0 } m rfl (Nat.le_of_ble_eq_true rfl) rfl fun w5 h4 => ?_
            refine ⟨_, _, h4, ?_⟩
            dsimp only
            have : blB { r with wp := 0, wi := 0, sp := 0, si := 0, id := 0, grp := 0, lo := 0, hi := 0, val := 0 } m = decide (r.tx = 0 ∧ r.prev = 0 ∧ r.delta = 0 ∧ r.next = 0 ∧ r.live.length = 0 ∧ r.dirty.length = 0) := by
              unfold blB
              refine decide_eq_decide.2 ?_
              dsimp only
              omega
            rw [this, hq]
            unfold okB
            rw [if_pos e2]
            simp only [Bool.and_assoc]
        · -- Checkpoint
          refine ⟨fun s w' => Ck w w' b1 b2 r m r m ∧ s.1 = (inB r.lsn 0 2147483647 && cpB r.next r.lsn r.live r.dirty), ?_, ?_⟩
          · refine cond_b (fun q1 => ?_) (fun q1 => ⟨hc, by rw [q1]; rfl⟩)
            refine ⟨_, _, _, _, _, _, _, ⟨l1.at rfl rfl, l1.at rfl rfl, l1.at rfl rfl, trivial⟩, _, l1.at rfl rfl, ?_⟩
            refine checkpoint_c (m := m) (hi.kp0 l1.kp) fun w4 k4 => ⟨_, rfl, ⟨l1.kp' k4, l2.kp' k4⟩, by rw [q1]; rfl⟩
          · rintro ⟨q, u⟩ w4 ⟨h4, hq⟩ _
            dsimp only at hq
            refine h4.st hne r { m with la := none, ll := 0, lc := 0 } rfl (Nat.le_of_ble_eq_true rfl) rfl fun w5 h4 => ?_
            refine h4.st hne r {} rfl (Nat.le_of_ble_eq_true rfl) rfl fun w5 h4 => ?_
            refine h4.st hne { r with next := 0 } {} rfl (Nat.le_of_ble_eq_true rfl) rfl fun w5 h4 => ?_
            refine ⟨_, _, h4, ?_⟩
            dsimp only
            have : blB { r with next := 0 } {} = decide (r.tx = 0 ∧ r.prev = 0 ∧ r.wp = 0 ∧ r.wi = 0 ∧ r.sp = 0 ∧ r.si = 0 ∧ r.delta = 0 ∧ r.id = 0 ∧ r.grp = 0 ∧ r.lo = 0 ∧ r.hi = 0 ∧ r.val = 0) := by
              unfold blB
              refine decide_eq_decide.2 ?_
              dsimp only
              omega
            rw [this, hq]
            unfold okB
            rw [if_neg n2, if_pos e8]
            simp only [Bool.and_assoc]
        · refine ⟨fun s w' => Ck w w' b1 b2 r m r m ∧ s.1 = (inB r.lsn 0 2147483647 && (slB r.wp r.wi r.sp r.si && inB r.id 1 1048576)), c34 (.inl e3) (fun s w' => Ck w w' b1 b2 r m r m ∧ s.1 = (inB r.lsn 0 2147483647 && (slB r.wp r.wi r.sp r.si && inB r.id 1 1048576))) fun s w' hc' hs => ⟨hc', hs⟩, ?_⟩
          rintro ⟨q, u⟩ w4 ⟨h4, hq⟩ _
          refine h4.st hne { r with wp := 0 } m rfl (Nat.le_of_ble_eq_true rfl) rfl fun w5 h4 => ?_
          refine h4.st hne { r with wp := 0, wi := 0 } m rfl (Nat.le_of_ble_eq_true rfl) rfl fun w5 h4 => ?_
          refine h4.st hne { r with wp := 0, wi := 0, sp := 0 } m rfl (Nat.le_of_ble_eq_true rfl) rfl fun w5 h4 => ?_
          refine h4.st hne { r with wp := 0, wi := 0, sp := 0, si := 0 } m rfl (Nat.le_of_ble_eq_true rfl) rfl fun w5 h4 => ?_
          refine h4.st hne { r with wp := 0, wi := 0, sp := 0, si := 0, id := 0 } m rfl (Nat.le_of_ble_eq_true rfl) rfl fun w5 h4 => ?_
          refine h4.st hne { r with wp := 0, wi := 0, sp := 0, si := 0, id := 0, delta := 0 } m rfl (Nat.le_of_ble_eq_true rfl) rfl fun w5 h4 => ?_
          exact ⟨_, _, h4, f34 (.inl e3) m rfl (q, u) hq⟩
        · refine ⟨fun s w' => Ck w w' b1 b2 r m r m ∧ s.1 = (inB r.lsn 0 2147483647 && (slB r.wp r.wi r.sp r.si && inB r.id 1 1048576)), c34 (.inr e4) (fun s w' => Ck w w' b1 b2 r m r m ∧ s.1 = (inB r.lsn 0 2147483647 && (slB r.wp r.wi r.sp r.si && inB r.id 1 1048576))) fun s w' hc' hs => ⟨hc', hs⟩, ?_⟩
          rintro ⟨q, u⟩ w4 ⟨h4, hq⟩ _
          refine h4.st hne { r with wp := 0 } m rfl (Nat.le_of_ble_eq_true rfl) rfl fun w5 h4 => ?_
          refine h4.st hne { r with wp := 0, wi := 0 } m rfl (Nat.le_of_ble_eq_true rfl) rfl fun w5 h4 => ?_
          refine h4.st hne { r with wp := 0, wi := 0, sp := 0 } m rfl (Nat.le_of_ble_eq_true rfl) rfl fun w5 h4 => ?_
          refine h4.st hne { r with wp := 0, wi := 0, sp := 0, si := 0 } m rfl (Nat.le_of_ble_eq_true rfl) rfl fun w5 h4 => ?_
          refine h4.st hne { r with wp := 0, wi := 0, sp := 0, si := 0, id := 0 } m rfl (Nat.le_of_ble_eq_true rfl) rfl fun w5 h4 => ?_
          refine h4.st hne { r with wp := 0, wi := 0, sp := 0, si := 0, id := 0, delta := 0 } m rfl (Nat.le_of_ble_eq_true rfl) rfl fun w5 h4 => ?_
          exact ⟨_, _, h4, f34 (.inr e4) m rfl (q, u) hq⟩
        · -- Begin
          have : blB { r with tx := 0 } m = decide (r.prev = 0 ∧ r.wp = 0 ∧ r.wi = 0 ∧ r.sp = 0 ∧ r.si = 0 ∧ r.delta = 0 ∧ r.id = 0 ∧ r.grp = 0 ∧ r.lo = 0 ∧ r.hi = 0 ∧ r.val = 0 ∧ r.next = 0 ∧ r.live.length = 0 ∧ r.dirty.length = 0) := by
            unfold blB
            refine decide_eq_decide.2 ?_
            dsimp only
            omega
          dsimp only
          rw [this]
          unfold okB
          rw [if_neg n2, if_neg n8, if_neg (by omega), if_neg (by omega)]
          simp only [Bool.and_assoc]
      · rintro ⟨q, u⟩ w3 ⟨r2, m2, hc, hq⟩ _
        dsimp only at hq
        refine ⟨fun s w' => Ck w w' b1 b2 r m r2 m2 ∧ s.1 = (q && (inB r.prev 1 2147483647 && belB r.prev r.lsn)), ?_, ?_⟩
        · refine cond_b (fun q1 => ?_) (fun q1 => ⟨hc, by dsimp only at q1; rw [q1]; rfl⟩)
          dsimp only at q1
          refine ⟨_, hc.l1.at rfl rfl, rin_c ⟨_, rfl, cond_b (fun q2 => ?_) (fun q2 => ⟨hc, by rw [q1, q2]; rfl⟩)⟩⟩
          refine ⟨_, hc.l1.at rfl rfl, _, hc.l1.at rfl rfl, below_c ⟨_, rfl, hc, by rw [q1, q2]; rfl⟩⟩
        · rintro ⟨q', u'⟩ w4 ⟨hc4, hq4⟩ _
          dsimp only at hq4
          refine hc4.st hne { r2 with prev := 0 } m2 rfl (Nat.le_of_ble_eq_true rfl) rfl fun w5 h5 => ⟨_, _, h5, ?_⟩
          dsimp only
          rw [hq4]
          exact hq
    · rintro ⟨q, u⟩ w3 ⟨r2, m2, hc, hq⟩ _
      dsimp only at hq
      refine ⟨fun s w' => Ck w w' b1 b2 r m r2 m2 ∧ s.1 = (q && inB r.tx 1 2147483647), ?_, ?_⟩
      · refine cond_b (fun q1 => ?_) (fun q1 => ⟨hc, by dsimp only at q1; rw [q1]; rfl⟩)
        dsimp only at q1
        refine ⟨_, hc.l1.at rfl rfl, rin_c ⟨_, rfl, hc, by rw [q1]; rfl⟩⟩
      · rintro ⟨q', u'⟩ w4 ⟨hc4, hq4⟩ _
        dsimp only at hq4
        refine hc4.st hne { r2 with tx := 0 } m2 rfl (Nat.le_of_ble_eq_true rfl) rfl fun w5 h5 => ⟨_, _, h5, ?_⟩
        dsimp only
        rw [hq4]
        exact hq
  · rintro ⟨q, u⟩ w3 ⟨r2, m2, hc, hq⟩ _
    dsimp only at hq
    refine cond_not (cond_b (fun a => ?_) (fun a => ?_))
    · refine rec_rd hc.l2.blk (blank_c (r := r2) (m := m2) fun w4 k4 => ⟨_, rfl, ?_⟩)
      have a' : q = true := a
      rw [a', Bool.true_and] at hq
      rw [hq]
      have hh := hfin w4 (hc.l2.kp.trans0 k4)
      refine cond_not (cond_b (fun b => ?_) (fun b => ?_))
      · rw [b] at hh
        exact hh
      · rw [b] at hh
        exact hh
    · have a' : q = false := a
      rw [a', Bool.false_and] at hq
      have hh := hfin w3 hc.l2.kp
      rw [← hq] at hh
      exact hh
end Go.Proofs.Ytkfdkcclojepnaa
/-! The contract of the package record's fields. Conditions: none. -/
set_option linter.unusedVariables false
set_option linter.unusedSimpArgs false
namespace Go.Proofs.Ytkfdkcclojepnaa
open Go Go.RowKit

theorem er_pint : ElemRow Try.prog T_s_p_int T_p_int (.pointer none) 1 8 := elemRow (by kernel_rfl) (by kernel_rfl) rfl

/-- Where a record's numbers stand, by its kind. -/
def iof (k : Int) : List Nat := if k = 2 then [4, 5, 6, 7, 9, 10] else if k = 8 then [16] else if k = 3 ∨ k = 4 then [2, 3, 4, 5, 6, 7, 9] else if k = 5 ∨ k = 6 ∨ k = 7 then [2, 3] else [2]
def sof (k : Int) : List Nat := if k = 2 then [11, 12, 13] else if k = 3 ∨ k = 4 then [8] else []
def pv (b o : Nat) : Value := .pointer (some ⟨b, o, none⟩)

/-- One pointer ahead of others. -/
theorem ahead_c {w0 w : World} {b o : Nat} {a : Option Addr} {l c : Nat} {xs : List Value} (k : Kp no w0 w) (hr : Rd w a xs) (hl : xs.length = l) (h0 : a = none → l = 0) (hl7 : l ≤ 20) (h1 : ∀ u ∈ xs, u.oneCell' = true) {ad : Addr} (had : ad = ⟨b, o, none⟩) {K : Option Addr → Nat → Nat → World → Prop}
    (h : ∀ a' c' w', Kp no w0 w' → Kp no w w' → Rd w' a' (pv b o :: xs) → a' ≠ none → (∀ k, Is a' k → w.heap.size ≤ k) → K a' (l + 1) c' w') :
    AlF w (.cells #[.pointer (some ad)] T_p_int) fun b8 w10 => RunF Try.prog (Builtin.append_ #[T_s_p_int, T_s_p_int] T_s_p_int #[.slice (some ⟨b8, 0, none⟩) 1 1, .slice a l c]) w10 fun r1 w11 => ∃ (a1 : Option Addr) (l1 c1 : Nat), r1 = .slice a1 l1 c1 ∧ K a1 l1 c1 w11 := by
  subst had
  refine AlF.intro fun b8 w1 hb8 hblk k1 _ => ?_
  have hs0 : Sl w1 T_p_int 1 (some ⟨b8, 0, none⟩) 1 1 [pv b o] := ⟨rfl, Nat.le_refl _, .inr ⟨b8, _, rfl, hblk, rfl, rfl⟩⟩
  refine append_own er_pint hs0 (hr.kp0 k1) (by rw [hl]; omega) h0 h1 (by omega) (by omega) fun a' c' w' hs' hk hi _ _ => ?_
  have kk : Kp no w w' := k1.trans hk (fun _ _ h => h) fun j hj hh => by
    obtain ⟨ad, had, hj2⟩ := hh
    cases had
    dsimp only at hj2
    omega
  have e : 1 + l = l + 1 := by omega
  rw [e]
  refine ⟨a', l + 1, c', rfl, h a' c' w' (k.trans0 kk) kk hs'.rd ?_ fun j hj => ?_⟩
  rotate_left
  · rcases hi j hj with ⟨ad, had, hj2⟩ | hj2
    · cases had
      dsimp only at hj2
      omega
    · have := k1.size
      omega
  intro hn
  obtain ⟨b', cur, ha, _⟩ := hs'.addr (by omega)
  rw [hn] at ha
  cases ha

theorem fr_some {w : World} {b o : Nat} (h : w.heap.size ≤ b) : Fresh w (some ⟨b, o, none⟩) := fun k hk => by
  obtain ⟨ad, had, hk⟩ := hk
  cases had
  dsimp only at hk
  omega

theorem pv_one {b : Nat} {l : List Nat} : ∀ u ∈ l.map (pv b), u.oneCell' = true := fun u hu => by
  obtain ⟨x, _, rfl⟩ := List.mem_map.1 hu
  rfl

theorem fields_c {w : World} {b : Nat} {r : RV} {m : Mm} {R : Ending → World → Prop} (hb : Blk w b (r.ca m) T_api_Record) (hk1 : 1 ≤ r.kind) (hk8 : r.kind ≤ 8)
    (h : ∀ a c a' c' w', Kp no w w' → Rd w' a ((iof r.kind).map (pv b)) → Rd w' a' ((sof r.kind).map (pv b)) → Fresh w a → Fresh w a' → R (.returned (.tuple #[.slice a (iof r.kind).length c, .slice a' (sof r.kind).length c'])) w') : GoC Try.prog F_record_fields #[.pointer (some ⟨b, 0, none⟩)] w R := by
  refine S_record_fields ?_
  unfold W_record_fields
  refine NilF.intro rfl ⟨_, hb.at rfl rfl, ?_⟩
  refine ⟨fun s w' => r.kind ≠ 2 ∧ r.kind ≠ 8 ∧ Kp no w w' ∧ ∃ A B : List Nat, iof r.kind = 2 :: A ∧ sof r.kind = B ∧ A.length ≤ 10 ∧ Rd w' s.1.1 (A.map (pv b)) ∧ A.length = s.1.2.1 ∧ (s.1.1 = none → s.1.2.1 = 0) ∧ Rd w' s.2.1.1 (B.map (pv b)) ∧ B.length = s.2.1.2.1 ∧ Fresh w s.2.1.1, ?_, ?_⟩
  · refine ⟨fun s w' => r.kind ≠ 2 ∧ r.kind ≠ 8 ∧ Kp no w w' ∧ ∃ A B : List Nat, iof r.kind = 2 :: 3 :: A ∧ sof r.kind = B ∧ A.length ≤ 9 ∧ Rd w' s.1.1 (A.map (pv b)) ∧ A.length = s.1.2.1 ∧ (s.1.1 = none → s.1.2.1 = 0) ∧ Rd w' s.2.1.1 (B.map (pv b)) ∧ B.length = s.2.1.2.1 ∧ Fresh w s.2.1.1, ?_, ?_⟩
    · refine ⟨fun _ w' => w' = w ∧ (r.kind = 3 ∨ r.kind = 4), ?_, ?_⟩
      · have c567 : (r.kind = 5 ∨ r.kind = 6 ∨ r.kind = 7) → iof r.kind = 2 :: 3 :: [] ∧ sof r.kind = [] := fun hh => by
          unfold iof sof
          rw [if_neg (by omega), if_neg (by omega), if_neg (by omega), if_pos hh, if_neg (by omega), if_neg (by omega)]
          exact ⟨rfl, rfl⟩
        have j14 : (r.kind = 5 ∨ r.kind = 6 ∨ r.kind = 7) → r.kind ≠ 2 ∧ r.kind ≠ 8 ∧ Kp no w w ∧ ∃ A B : List Nat, iof r.kind = 2 :: 3 :: A ∧ sof r.kind = B ∧ A.length ≤ 9 ∧ Rd w none (A.map (pv b)) ∧ A.length = 0 ∧ ((none : Option Addr) = none → 0 = 0) ∧ Rd w none (B.map (pv b)) ∧ B.length = 0 ∧ Fresh w none := fun hh =>
          ⟨by omega, by omega, Kp.refl _ _, [], [], (c567 hh).1, (c567 hh).2, by simp, Rd.nil _ _, rfl, fun _ => rfl, Rd.nil _ _, rfl, fun k hk => (is_none hk).elim⟩
        refine cond_eq (fun e2 => ?_) fun n2 => cond_eq (fun e8 => ?_) fun n8 => cond_eq (fun e3 => cond_eq (fun _ => ⟨rfl, .inl e3⟩) fun hh => absurd e3 hh) fun n3 => cond_eq (fun e4 => ⟨rfl, .inr e4⟩) fun n4 =>
          cond_eq (fun e5 => cond_eq (fun _ => j14 (by omega)) fun hh => absurd e5 hh) fun n5 => cond_eq (fun e6 => cond_eq (fun _ => j14 (by omega)) fun hh => absurd e6 hh) fun n6 =>
          cond_eq (fun e7 => j14 (by omega)) fun n7 => ?_
        · -- Create
          have hi : iof r.kind = [4, 5, 6, 7, 9, 10] := by unfold iof; rw [if_pos e2]
          have hs : sof r.kind = [11, 12, 13] := by unfold sof; rw [if_pos e2]
          rw [hi, hs] at h
          refine NilF.intro rfl ⟨fun w' => Kp no w w', Kp.drew w 1, NilF.intro rfl (NilF.intro rfl (NilF.intro rfl (NilF.intro rfl ⟨?_, ?_⟩)))⟩
          · refine AlF.intro fun b1 w1 hb1e hb1 k1 _ => ⟨(Kp.drew w 1).trans0 k1, AlF.intro fun b2 w2 hb2e hb2 k2 _ => ⟨((Kp.drew w 1).trans0 k1).trans0 k2, h _ _ _ _ w2 (((Kp.drew w 1).trans0 k1).trans0 k2) (rd_cells (k2.blk hb1 id) rfl) (rd_cells hb2 rfl) (fr_some (by rw [hb1e]; exact Nat.le_refl _)) (fr_some (by rw [hb2e]; exact ((Kp.drew w 1).trans0 k1).size))⟩⟩
          · refine AlF.intro fun b1 w1 hb1e hb1 k1 _ => ⟨(Kp.drew w 1).trans0 k1, AlF.intro fun b2 w2 hb2e hb2 k2 _ => ⟨((Kp.drew w 1).trans0 k1).trans0 k2, h _ _ _ _ w2 (((Kp.drew w 1).trans0 k1).trans0 k2) (rd_cells hb2 rfl) (rd_cells (k2.blk hb1 id) rfl) (fr_some (by rw [hb2e]; exact ((Kp.drew w 1).trans0 k1).size)) (fr_some (by rw [hb1e]; exact Nat.le_refl _))⟩⟩
        · have hi : iof r.kind = [16] := by unfold iof; rw [if_neg n2, if_pos e8]
          have hs : sof r.kind = [] := by unfold sof; rw [if_neg n2, if_neg (by omega)]
          rw [hi, hs] at h
          refine NilF.intro rfl (AlF.intro fun b1 w1 hb1e hb1 k1 _ => h _ _ _ _ w1 k1 (rd_cells hb1 rfl) (Rd.nil _ _) (fr_some (by omega)) fun k hk => (is_none hk).elim)
        · have e1 : r.kind = 1 := by omega
          have hi : iof r.kind = [2] := by unfold iof; rw [if_neg n2, if_neg n8, if_neg (by omega), if_neg (by omega)]
          have hs : sof r.kind = [] := by unfold sof; rw [if_neg n2, if_neg (by omega)]
          exact ⟨n2, n8, Kp.refl _ _, [], [], hi, hs, by simp, Rd.nil _ _, rfl, fun _ => rfl, Rd.nil _ _, rfl, fun k hk => (is_none hk).elim⟩
      · rintro _ w1 ⟨rfl, e34⟩ _
        refine NilF.intro rfl (NilF.intro rfl (NilF.intro rfl (NilF.intro rfl (NilF.intro rfl (AlF.intro fun b6 w2 hb6e hb6 k2 _ => NilF.intro rfl (AlF.intro fun b7 w3 hb7e hb7 k3 _ => ?_))))))
        have hi : iof r.kind = 2 :: 3 :: [4, 5, 6, 7, 9] := by unfold iof; rw [if_neg (by omega), if_neg (by omega), if_pos e34]
        have hs : sof r.kind = [8] := by unfold sof; rw [if_neg (by omega), if_pos e34]
        exact ⟨by omega, by omega, (Kp.drew w1 1).trans0 (k2.trans0 k3), _, _, hi, hs, by simp, rd_cells (k3.blk hb6 id) rfl, rfl, (fun h0 => by cases h0), rd_cells hb7 rfl, rfl, fr_some (by rw [hb7e]; exact ((Kp.drew w1 1).trans0 k2).size)⟩
    · rintro ⟨⟨a, l, c⟩, ⟨a', l', c'⟩, u⟩ w1 ⟨n2, n8, k1, A, B, hA, hB, hA9, hr, hl, h0, hr', hl', hf'⟩ _
      dsimp only at hr hl h0 hr' hl' ⊢
      refine NilF.intro rfl (ahead_c (b := b) (o := 3) k1 hr (by simpa using hl) h0 (by omega) pv_one rfl fun a2 c2 w2 k2 k12 hr2 hn2 hf2 => ?_)
      exact ⟨n2, n8, k2, 3 :: A, B, hA, hB, by simp; omega, hr2, by simp; omega, fun h0 => absurd h0 hn2, hr'.kp0 k12, hl', hf'⟩
  · rintro ⟨⟨a, l, c⟩, ⟨a', l', c'⟩, u⟩ w1 ⟨n2, n8, k1, A, B, hA, hB, hA9, hr, hl, h0, hr', hl', hf'⟩ _
    dsimp only at hr hl h0 hr' hl' ⊢
    refine NilF.intro rfl (ahead_c (b := b) (o := 2) k1 hr (by simpa using hl) h0 (by omega) pv_one rfl fun a2 c2 w2 k2 k12 hr2 hn2 hf2 => ?_)
    have hl2 : l + 1 = (iof r.kind).length := by rw [hA]; simp; omega
    have hl3 : l' = (sof r.kind).length := by rw [hB]; exact hl'.symm
    rw [hl2, hl3]
    refine h a2 c2 a' c' w2 k2 ?_ ?_ (fun k hk => by have := hf2 k hk; have := k1.size; omega) hf'
    · rw [hA]; exact hr2
    · rw [hB]; exact hr'.kp0 k12
end Go.Proofs.Ytkfdkcclojepnaa

/- The plain form of a record's bytes; the writer in a function's walk. Conditions: none. -/
set_option linter.unusedVariables false
set_option linter.unusedSimpArgs false
namespace Go.Proofs.Ytkfdkcclojepnaa
open Go Go.RowKit

/-- A record's number by its place; the record with another one there. -/
def RV.gi (r : RV) : Nat → Int
  | 0 => r.lsn | 1 => r.kind | 2 => r.tx | 3 => r.prev | 4 => r.wp | 5 => r.wi | 6 => r.sp | 7 => r.si | 8 => r.delta | 9 => r.id | 10 => r.grp | 11 => r.lo | 12 => r.hi | 13 => r.val | 16 => r.next | _ => 0
def RV.put (r : RV) (v : Int) : Nat → RV
  | 0 => { r with lsn := v } | 1 => { r with kind := v } | 2 => { r with tx := v } | 3 => { r with prev := v } | 4 => { r with wp := v } | 5 => { r with wi := v } | 6 => { r with sp := v } | 7 => { r with si := v }
  | 8 => { r with delta := v } | 9 => { r with id := v } | 10 => { r with grp := v } | 11 => { r with lo := v } | 12 => { r with hi := v } | 13 => { r with val := v } | 16 => { r with next := v } | _ => r
/-- The places of numbers. -/
def plc : List Nat := [2, 3, 4, 5, 6, 7, 8, 9, 10, 11, 12, 13, 16]
theorem iof_plc (k : Int) : ∀ o ∈ iof k, o ∈ plc := by
  intro o ho
  unfold iof at ho
  split at ho
  · revert o; decide
  · split at ho
    · revert o; decide
    · split at ho
      · revert o; decide
      · split at ho <;> (revert o; decide)
theorem sof_plc (k : Int) : ∀ o ∈ sof k, o ∈ plc := by
  intro o ho
  unfold sof at ho
  split at ho
  · revert o; decide
  · split at ho <;> (revert o; decide)
theorem gi_cell (r : RV) (m : Mm) {o : Nat} (ho : o ∈ plc) : (r.ca m)[o]? = some (.int .i64 (r.gi o)) := by
  simp only [plc, List.mem_cons, List.mem_nil_iff, or_false] at ho
  rcases ho with rfl | rfl | rfl | rfl | rfl | rfl | rfl | rfl | rfl | rfl | rfl | rfl | rfl <;> rfl
theorem put_cell (r : RV) (m : Mm) (v : Int) {o : Nat} (ho : o ∈ plc) : (r.ca m).setIfInBounds o (.int .i64 v) = (r.put v o).ca m := by
  simp only [plc, List.mem_cons, List.mem_nil_iff, or_false] at ho
  rcases ho with rfl | rfl | rfl | rfl | rfl | rfl | rfl | rfl | rfl | rfl | rfl | rfl | rfl <;> rfl
theorem plc_lt {o : Nat} (ho : o ∈ plc) : o < 17 := by revert o; decide
theorem iof_len (k : Int) : (iof k).length ≤ 7 := by
  unfold iof
  repeat' (split <;> try decide)
theorem sof_len (k : Int) : (sof k).length ≤ 3 := by
  unfold sof
  repeat' (split <;> try decide)

def lvB (x : LV) : List UInt8 := vform x.tx.toNat ++ (vform x.last.toNat ++ vform (stN x))
def dvB (x : DV) : List UInt8 := vform x.page.toNat ++ vform x.since.toNat
def intB (r : RV) (o : Nat) : List UInt8 := vform (r.gi o).toNat
def sgnB (r : RV) (o : Nat) : List UInt8 := vform (zig (r.gi o))
def tailB (r : RV) : List UInt8 := if r.kind = 8 then vform r.live.length ++ (r.live.flatMap lvB ++ (vform r.dirty.length ++ r.dirty.flatMap dvB)) else []
/-- A record's bytes. -/
def encB (r : RV) : List UInt8 := vform r.kind.toNat ++ ((iof r.kind).flatMap (intB r) ++ ((sof r.kind).flatMap (sgnB r) ++ tailB r))
/-- Numbers with a sign are such as an int64 holds. -/
def RV.w64 (r : RV) : Prop := i64 r.delta ∧ i64 r.lo ∧ i64 r.hi ∧ i64 r.val

theorem inB_iff {n lo hi : Int} : inB n lo hi = true ↔ lo ≤ n ∧ n ≤ hi := by unfold inB; simp
theorem li_ok {next lsn : Int} (hn : next ≤ 2147483648) : ∀ {last : Int} {L : List LV}, liB next lsn last L = true → 0 ≤ last → ∀ x ∈ L, 0 ≤ x.tx ∧ x.tx < 2147483648 ∧ 0 ≤ x.last ∧ x.last < 2147483648 := by
  intro last L
  induction L generalizing last with
  | nil => intro _ _ x hx; cases hx
  | cons y r ih =>
    intro h h0 x hx
    simp only [liB, Bool.and_eq_true, decide_eq_true_eq, inB_iff] at h
    obtain ⟨⟨⟨⟨⟨h1, h2⟩, h3⟩, h4⟩, h5⟩, h6⟩ := h
    rcases List.mem_cons.1 hx with rfl | hx
    · omega
    · exact ih h6 (by omega) x hx
theorem di_ok {lsn : Int} : ∀ {page : Int} {D : List DV}, diB lsn page D = true → -1 ≤ page → ∀ x ∈ D, 0 ≤ x.page ∧ x.page < 64 ∧ 0 ≤ x.since ∧ x.since < 2147483648 := by
  intro page D
  induction D generalizing page with
  | nil => intro _ _ x hx; cases hx
  | cons y r ih =>
    intro h h0 x hx
    simp only [diB, Bool.and_eq_true, decide_eq_true_eq, inB_iff] at h
    obtain ⟨⟨⟨⟨h1, h2⟩, h3⟩, h4⟩, h6⟩ := h
    rcases List.mem_cons.1 hx with rfl | hx
    · omega
    · exact ih h6 (by omega) x hx

theorem chk_kind {r : RV} (h : chkN r = 0) : 1 ≤ r.kind ∧ r.kind ≤ 8 ∧ okB r = true := by
  unfold chkN at h
  split at h
  · cases h
  · rename_i hk
    split at h
    · rename_i ho
      exact ⟨by omega, by omega, ho⟩
    · cases h
/-- A right record's numbers. -/
theorem ok_ints {r : RV} (h : chkN r = 0) : ∀ o ∈ iof r.kind, 0 ≤ r.gi o ∧ r.gi o ≤ 2147483648 ∧ (r.kind ≠ 8 → r.gi o < 2147483648) := by
  obtain ⟨h1, h8, hk⟩ := chk_kind h
  unfold okB at hk
  simp only [Bool.and_eq_true] at hk
  obtain ⟨_, hk⟩ := hk
  intro o ho
  unfold iof at ho
  split at ho
  · rename_i e2
    rw [if_pos e2] at hk
    simp only [Bool.and_eq_true, slB, inB_iff, decide_eq_true_eq] at hk
    simp only [List.mem_cons, List.mem_nil_iff, or_false] at ho
    rcases ho with rfl | rfl | rfl | rfl | rfl | rfl <;> simp only [RV.gi] <;> omega
  · rename_i n2
    rw [if_neg n2] at hk
    split at ho
    · rename_i e8
      rw [if_pos e8] at hk
      simp only [Bool.and_eq_true, cpB, inB_iff, decide_eq_true_eq] at hk
      simp only [List.mem_cons, List.mem_nil_iff, or_false] at ho
      subst ho
      simp only [RV.gi]
      omega
    · rename_i n8
      rw [if_neg n8] at hk
      split at ho
      · rename_i e34
        rw [if_pos e34] at hk
        simp only [Bool.and_eq_true, slB, inB_iff, decide_eq_true_eq] at hk
        simp only [List.mem_cons, List.mem_nil_iff, or_false] at ho
        rcases ho with rfl | rfl | rfl | rfl | rfl | rfl | rfl <;> simp only [RV.gi] <;> omega
      · rename_i n34
        rw [if_neg n34] at hk
        split at ho
        · rename_i e567
          rw [if_pos e567] at hk
          simp only [Bool.and_eq_true, inB_iff, decide_eq_true_eq] at hk
          simp only [List.mem_cons, List.mem_nil_iff, or_false] at ho
          rcases ho with rfl | rfl <;> simp only [RV.gi] <;> omega
        · rename_i n567
          rw [if_neg n567] at hk
          simp only [Bool.and_eq_true, inB_iff, decide_eq_true_eq] at hk
          simp only [List.mem_cons, List.mem_nil_iff, or_false] at ho
          subst ho
          simp only [RV.gi]
          omega
theorem ok_lists {r : RV} (h : chkN r = 0) (h8 : r.kind = 8) : r.live.length ≤ 32 ∧ r.dirty.length ≤ 16 ∧ (∀ x ∈ r.live, 0 ≤ x.tx ∧ x.tx < 2147483648 ∧ 0 ≤ x.last ∧ x.last < 2147483648) ∧ (∀ x ∈ r.dirty, 0 ≤ x.page ∧ x.page < 64 ∧ 0 ≤ x.since ∧ x.since < 2147483648) := by
  obtain ⟨_, _, hk⟩ := chk_kind h
  unfold okB at hk
  rw [if_neg (by omega), if_pos h8] at hk
  simp only [Bool.and_eq_true, cpB, inB_iff, decide_eq_true_eq] at hk
  obtain ⟨_, ⟨⟨⟨⟨hn, hl⟩, hd⟩, hL⟩, hD⟩, _⟩ := hk
  exact ⟨hl, hd, li_ok hn.2 hL (by omega), di_ok hD (by omega)⟩
theorem sgn_64 {r : RV} (h : r.w64) : ∀ o ∈ sof r.kind, i64 (r.gi o) := by
  intro o ho
  obtain ⟨h1, h2, h3, h4⟩ := h
  unfold sof at ho
  split at ho
  · simp only [List.mem_cons, List.mem_nil_iff, or_false] at ho
    rcases ho with rfl | rfl | rfl <;> assumption
  · split at ho
    · simp only [List.mem_cons, List.mem_nil_iff, or_false] at ho
      subst ho
      assumption
    · cases ho

/-- A writer from world w0 on. -/
structure WrS (w0 : World) (B : Nat) (g0 : Option Addr) (w : World) (g : Option Addr) (bs : List UInt8) : Prop where
  wr : Wr w B g bs
  kp : Kp (fpW B g0) w0 w
  nw : ∀ k, Is g k → Is g0 k ∨ w0.heap.size ≤ k
theorem WrS.init {w : World} {B : Nat} {g : Option Addr} {bs : List UInt8} (h : Wr w B g bs) : WrS w B g w g bs := ⟨h, Kp.refl _ _, fun k hk => .inl hk⟩
theorem WrS.step {w0 w w' : World} {B : Nat} {g0 g g' : Option Addr} {bs bs' : List UInt8} (h : WrS w0 B g0 w g bs) (hw : Wr w' B g' bs') (k : Kp (fpW B g) w w') (hn : ∀ k, Is g' k → Is g k ∨ w.heap.size ≤ k) : WrS w0 B g0 w' g' bs' := by
  have s0 := h.kp.size
  refine ⟨hw, h.kp.trans k (fun j hj hh => hh) fun j hj hh => ?_, fun j hj => ?_⟩
  · rcases hh with hh | hh
    · exact .inl hh
    · rcases h.nw j hh with h2 | h2
      · exact .inr h2
      · omega
  · rcases hn j hj with hh | hh
    · exact h.nw j hh
    · exact .inr (by omega)
theorem WrS.kp0 {w0 w w' : World} {B : Nat} {g0 g : Option Addr} {bs : List UInt8} (h : WrS w0 B g0 w g bs) (k : Kp no w w') : WrS w0 B g0 w' g bs := h.step (h.wr.kp0 k) k.of_no fun j hj => .inl hj
theorem WrS.U {w0 w : World} {B : Nat} {g0 g : Option Addr} {bs : List UInt8} {n : Nat} {v : Int} {R : Ending → World → Prop} (h : WrS w0 B g0 w g bs) (hv : v = (n : Int)) (hn : n < 18446744073709551616) (hb : bs.length ≤ 100000)
    (hk : ∀ g' w', WrS w0 B g0 w' g' (bs ++ vform n) → R (.returned (.tuple #[])) w') : GoC Try.prog F_field_Writer_U #[.pointer (some ⟨B, 0, none⟩), .int .u64 v] w R := by
  subst hv
  exact writer_U h.wr hn (by omega) fun g' w' hw kk hi => hk g' w' (h.step hw kk hi)
theorem WrS.S {w0 w : World} {B : Nat} {g0 g : Option Addr} {bs : List UInt8} {i : Int} {R : Ending → World → Prop} (h : WrS w0 B g0 w g bs) (hi : i64 i) (hb : bs.length ≤ 100000)
    (hk : ∀ g' w', WrS w0 B g0 w' g' (bs ++ vform (zig i)) → R (.returned (.tuple #[])) w') : GoC Try.prog F_field_Writer_S #[.pointer (some ⟨B, 0, none⟩), .int .i64 i] w R :=
  writer_S h.wr hi.1 hi.2 (by omega) fun g' w' hw kk hi => hk g' w' (h.step hw kk hi)
/-- What was there ahead of the writer stays. -/
theorem WrS.old {w1 w0 w : World} {B : Nat} {g0 g : Option Addr} {bs : List UInt8} (h : WrS w0 B g0 w g bs) (k : Kp no w1 w0) (hB : w1.heap.size ≤ B) (hg : Fresh w1 g0) : Kp no w1 w :=
  k.trans h.kp (fun _ _ h => h) fun j hj hh => by
    rcases hh with hh | hh
    · omega
    · have := hg j hh; omega

theorem flat_len {α : Type} {f : α → List UInt8} {n : Nat} : ∀ {L : List α}, (∀ x ∈ L, (f x).length ≤ n) → (L.flatMap f).length ≤ L.length * n
  | [], _ => by simp
  | x :: r, h => by
    have h1 := h x (List.mem_cons_self ..)
    have h2 := flat_len (L := r) fun y hy => h y (List.mem_cons_of_mem _ hy)
    rw [List.flatMap_cons, List.length_append, List.length_cons, Nat.add_mul, Nat.one_mul]
    omega
theorem flat_snoc {α : Type} {f : α → List UInt8} {L : List α} {k : Nat} (h : k < L.length) : (L.take (k + 1)).flatMap f = (L.take k).flatMap f ++ f L[k] := by
  rw [take_snoc_get L k h, List.flatMap_append, List.flatMap_cons, List.flatMap_nil, List.append_nil]
theorem vlen31 {n : Nat} (h : n ≤ 2147483648) : (vform n).length ≤ 10 := vform_len64 (by omega)
theorem Rd.kpw {S : Nat → Prop} {w w' : World} {a : Option Addr} {xs : List Value} (h : Rd w a xs) (k : Kp S w w') (hn : ∀ b, b < w.heap.size → Is a b → ¬ S b) : Rd w' a xs := fun i v hv => by
  obtain ⟨b, o, ha, hc⟩ := h i v hv
  exact ⟨b, o, ha, k.cell hc (hn b (cell_lt hc) ⟨_, ha, rfl⟩)⟩
end Go.Proofs.Ytkfdkcclojepnaa

/- The contract of the package record's Encode. Conditions: none. -/
set_option linter.unusedVariables false
set_option linter.unusedSimpArgs false
namespace Go.Proofs.Ytkfdkcclojepnaa
open Go Go.RowKit

theorem u64_toNat {x : Int} (h0 : 0 ≤ x) (h1 : x ≤ 2147483648) : IntKind.wrap .u64 x = (x.toNat : Int) := by rw [wrap_u64 h0 (by omega)]; omega
theorem wk1 {k n : Nat} (h : k < n) (hn : n ≤ 100000) : IntKind.wrap .i64 ((k : Int) + 1) = ((k + 1 : Nat) : Int) := by rw [wrap_i64 (by omega) (by omega)]; omega

theorem encode_c {w : World} {r : RV} {m : Mm} {R : Ending → World → Prop} (hi : LiIn w m r.live r.dirty) (h64 : r.w64)
    (hbad : chkN r ≠ 0 → ∀ w', Kp no w w' → R (.returned (.tuple #[.slice none 0 0, .int .i64 (chkN r : Int)])) w')
    (hok : chkN r = 0 → ∀ a c w', Kp no w w' → Sl w' T_uint8 1 a (encB r).length c (bvs (encB r)) → Fresh w a → R (.returned (.tuple #[.slice a (encB r).length c, .int .i64 0])) w') : GoC Try.prog F_record_Encode #[.agg (r.ca m)] w R := by
  refine S_record_Encode ?_
  unfold W_record_Encode
  refine Loc.al (Kp.refl _ w) fun b1 w1 h1 k1 g1 => ?_
  have h1 : Loc w w1 b1 (r.ca m) T_api_Record := h1
  refine rec_rd h1.blk (check_c (r := r) (m := m) (hi.kp0 h1.kp) fun w2 k2 => ⟨_, rfl, cond_ne (fun hc => ?_) (fun hc => ?_)⟩)
  · exact hbad (by omega) w2 (h1.kp.trans0 k2)
  have hc0 : chkN r = 0 := by omega
  obtain ⟨hk1, hk8, _⟩ := chk_kind hc0
  have hints := ok_ints hc0
  have hsg := sgn_64 h64
  refine newWriter_c fun B w3 hw3 k3 hB => ⟨_, rfl, ?_⟩
  have k13 : Kp no w1 w3 := k2.trans0 k3
  refine ⟨_, (h1.kp' k13).at rfl rfl, ?_⟩
  have hB1 : w1.heap.size ≤ B := by have := k2.size; omega
  have hW3 := WrS.init hw3
  refine hW3.U (u64_toNat (by omega) (by omega)) (by omega) (by simp) fun g4 w4 hW4 => ⟨rfl, ?_⟩
  have k14 : Kp no w1 w4 := hW4.old k13 hB1 fun k hk => (is_none hk).elim
  have hf4 : Fresh w1 g4 := fun k hk => by
    rcases hW4.nw k hk with hh | hh
    · exact (is_none hh).elim
    · have := k13.size; omega
  rw [List.nil_append] at hW4
  have l4 := vlen31 (n := r.kind.toNat) (by omega)
  refine fields_c (r := r) (m := m) (h1.kp' k14).blk hk1 hk8 fun a5 c5 a6 c6 w5 k5 hr5 hr6 hf5 hf6 => ⟨_, _, _, _, _, _, rfl, ?_⟩
  have k15 : Kp no w1 w5 := k14.trans0 k5
  have hW5 : WrS w5 B g4 w5 g4 (vform r.kind.toNat) := WrS.init (hW4.wr.kp0 k5)
  have hlt4 := hW4.wr.lt
  have ap : ∀ a, Fresh w4 a → ∀ b, Is a b → ¬ fpW B g4 b := fun a hf b hb hh => by
    have := hf b hb
    have := hlt4 b hh
    omega
  have il := iof_len r.kind
  have sl := sof_len r.kind
  refine loopN (fun s w6 => ∃ k : Nat, k ≤ (iof r.kind).length ∧ s.1 = (k : Int) ∧ ∃ g, WrS w5 B g4 w6 g (vform r.kind.toNat ++ ((iof r.kind).take k).flatMap (intB r))) (fun s _ => (iof r.kind).length - s.1.toNat) ⟨0, Nat.zero_le _, rfl, g4, by simpa using hW5⟩ ?_
  rintro ⟨k0, u⟩ w6 ⟨k, hk, hk0, g, hW⟩ _
  dsimp only at hk0 ⊢
  subst hk0
  refine cond_d (fun hlt => ?_) (fun hge => ?_)
  · have hkl : k < (iof r.kind).length := by omega
    have hmem := List.getElem_mem hkl
    refine (hr5.kp hW.kp (ap a5 hf5)).idx (by omega) hlt (by simp) fun b o ha hcl => ?_
    refine ⟨some ⟨b1, (iof r.kind)[k], none⟩, by rw [Int.toNat_natCast, add_at]; exact hcl k _ (by simp [hkl, pv]), NilF.intro rfl ?_⟩
    refine ⟨_, (h1.kp' (hW.old k15 hB1 hf4)).at rfl (gi_cell r m (iof_plc _ _ hmem)), ?_⟩
    obtain ⟨hi0, hi1, _⟩ := hints _ hmem
    refine hW.U (u64_toNat hi0 hi1) (by omega) ?_ fun g' w' hW' => ⟨rfl, ?_⟩
    · have := flat_len (f := intB r) (n := 10) (L := (iof r.kind).take k) fun x hx => vlen31 (by have := hints x (List.mem_of_mem_take hx); omega)
      rw [List.length_append]
      rw [List.length_take] at this
      omega
    · rw [wk1 hkl (by omega)]
      refine ⟨⟨k + 1, by omega, rfl, g', ?_⟩, by simp only [Int.toNat_natCast]; omega⟩
      rw [flat_snoc hkl, ← List.append_assoc]
      exact hW'
  have hke : k = (iof r.kind).length := by omega
  subst hke
  rw [List.take_length] at hW
  have l6 := flat_len (f := intB r) (n := 10) (L := iof r.kind) fun x hx => vlen31 (by have := hints x hx; omega)
  refine loopN (fun s w8 => ∃ k : Nat, k ≤ (sof r.kind).length ∧ s.1 = (k : Int) ∧ ∃ g, WrS w5 B g4 w8 g ((vform r.kind.toNat ++ (iof r.kind).flatMap (intB r)) ++ ((sof r.kind).take k).flatMap (sgnB r))) (fun s _ => (sof r.kind).length - s.1.toNat) ⟨0, Nat.zero_le _, rfl, g, by simpa using hW⟩ ?_
  rintro ⟨k0, u⟩ w8 ⟨k, hk, hk0, g8, hW8⟩ _
  dsimp only at hk0 ⊢
  subst hk0
  refine cond_d (fun hlt => ?_) (fun hge => ?_)
  · have hkl : k < (sof r.kind).length := by omega
    have hmem := List.getElem_mem hkl
    refine (hr6.kp hW8.kp (ap a6 hf6)).idx (by omega) hlt (by simp) fun b o ha hcl => ?_
    refine ⟨some ⟨b1, (sof r.kind)[k], none⟩, by rw [Int.toNat_natCast, add_at]; exact hcl k _ (by simp [hkl, pv]), NilF.intro rfl ?_⟩
    refine ⟨_, (h1.kp' (hW8.old k15 hB1 hf4)).at rfl (gi_cell r m (sof_plc _ _ hmem)), ?_⟩
    have hz := hsg _ hmem
    refine hW8.S hz ?_ fun g' w' hW' => ⟨rfl, ?_⟩
    · have := flat_len (f := sgnB r) (n := 10) (L := (sof r.kind).take k) fun x hx => vform_len64 (zig_lt (hsg x (List.mem_of_mem_take hx)).1 (hsg x (List.mem_of_mem_take hx)).2)
      rw [List.length_append, List.length_append]
      rw [List.length_take] at this
      omega
    · rw [wk1 hkl (by omega)]
      refine ⟨⟨k + 1, by omega, rfl, g', ?_⟩, by simp only [Int.toNat_natCast]; omega⟩
      rw [flat_snoc hkl, ← List.append_assoc]
      exact hW'
  have hke : k = (sof r.kind).length := by omega
  subst hke
  rw [List.take_length] at hW8
  have l8 := flat_len (f := sgnB r) (n := 10) (L := sof r.kind) fun x hx => vform_len64 (zig_lt (hsg x hx).1 (hsg x hx).2)
  have henc : encB r = (vform r.kind.toNat ++ (iof r.kind).flatMap (intB r) ++ (sof r.kind).flatMap (sgnB r)) ++ tailB r := by unfold encB; simp only [List.append_assoc]
  generalize hpre : vform r.kind.toNat ++ (iof r.kind).flatMap (intB r) ++ (sof r.kind).flatMap (sgnB r) = pre at hW8 henc
  have lpre : pre.length ≤ 120 := by rw [← hpre]; simp only [List.length_append]; omega
  have box : ∀ {w' : World} {g' : Option Addr} {bs : List UInt8}, WrS w5 B g4 w' g' bs → Loc w w' b1 (r.ca m) T_api_Record := fun hh => h1.kp' (hh.old k15 hB1 hf4)
  have lis : ∀ {w' : World} {g' : Option Addr} {bs : List UInt8}, WrS w5 B g4 w' g' bs → LiIn w' m r.live r.dirty := fun hh => hi.kp0 (h1.kp.trans0 (hh.old k15 hB1 hf4))
  refine ⟨fun _ w' => ∃ g, WrS w5 B g4 w' g (encB r) ∧ (encB r).length ≤ 10000, ?_, ?_⟩
  · refine ⟨_, (box hW8).at rfl rfl, cond_eq (fun e8 => ?_) (fun n8 => ⟨g8, ?_⟩)⟩
    · obtain ⟨hl32, hd16, hL, hD⟩ := ok_lists hc0 e8
      have hll := hi.ll
      have hdl := hi.dl
      refine ⟨_, _, _, (box hW8).at rfl rfl, ?_⟩
      refine hW8.U (n := r.live.length) (by rw [u64_toNat (by omega) (by omega)]; omega) (by omega) (by omega) fun g10 w10 hW10 => ⟨rfl, ?_⟩
      refine ⟨_, _, _, (box hW10).at rfl rfl, ?_⟩
      have l10 := vlen31 (n := r.live.length) (by omega)
      have llv : ∀ x ∈ r.live, (lvB x).length ≤ 30 := fun x hx => by
        have hh := hL x hx
        have h1 := vlen31 (n := x.tx.toNat) (by omega)
        have h2 := vlen31 (n := x.last.toNat) (by omega)
        have h3 : (vform (stN x)).length ≤ 10 := vlen31 (by unfold stN; split <;> (try split) <;> omega)
        unfold lvB
        simp only [List.length_append]
        omega
      have ldv : ∀ x ∈ r.dirty, (dvB x).length ≤ 20 := fun x hx => by
        have hh := hD x hx
        have h1 := vlen31 (n := x.page.toNat) (by omega)
        have h2 := vlen31 (n := x.since.toNat) (by omega)
        unfold dvB
        simp only [List.length_append]
        omega
      refine loopN (fun s w11 => ∃ k : Nat, k ≤ r.live.length ∧ s.1 = (k : Int) ∧ ∃ g, WrS w5 B g4 w11 g ((pre ++ vform r.live.length) ++ (r.live.take k).flatMap lvB)) (fun s _ => r.live.length - s.1.toNat) ⟨0, Nat.zero_le _, rfl, g10, by simpa using hW10⟩ ?_
      rintro ⟨k0, u⟩ w11 ⟨k, hk, hk0, g11, hW11⟩ _
      dsimp only at hk0 ⊢
      subst hk0
      have lk : ((r.live.take k).flatMap lvB).length ≤ 960 := by
        have := flat_len (f := lvB) (n := 30) (L := r.live.take k) fun x hx => llv x (List.mem_of_mem_take hx)
        rw [List.length_take] at this
        omega
      refine cond_d (fun hlt => ?_) (fun hge => ?_)
      · have hkl : k < r.live.length := by omega
        have hx := hL _ (List.getElem_mem hkl)
        refine rd_el LV.csl (by omega) (lis hW11).l hkl hll fun b o ha hcl => ?_
        have cell : ∀ q v, (r.live[k]).cs[q]? = some v → w11.cell? (Addr.add ((⟨b, o, none⟩ : Addr).add (Int.toNat (k : Int) * 4)) q) = some v := fun q v hv => by
          rw [Int.toNat_natCast, add_at, add_at]; exact hcl q v hv
        have cell0 : w11.cell? ((⟨b, o, none⟩ : Addr).add (Int.toNat (k : Int) * 4)) = some (.int .i64 (r.live[k]).tx) := by
          rw [Int.toNat_natCast, add_at]; exact hcl 0 _ rfl
        refine ⟨_, _, _, _, ⟨cell0, cell 1 _ rfl, cell 2 _ rfl, cell 3 _ rfl, trivial⟩, ?_⟩
        refine lv_cp r.live[k] fun b2 w12 h12 => ?_
        have hW12 := hW11.kp0 h12.kp
        have q2 : ¬ fpW B g11 b2 := fun hh => by
          have := hW11.wr.lt b2 hh
          have := h12.nw
          omega
        have l11 : ((pre ++ vform r.live.length) ++ (r.live.take k).flatMap lvB).length ≤ 2000 := by simp only [List.length_append]; omega
        have hst : stN r.live[k] ≤ 2 := by unfold stN; split <;> (try split) <;> omega
        have v1 := vlen31 (n := (r.live[k]).tx.toNat) (by omega)
        have v2 := vlen31 (n := (r.live[k]).last.toNat) (by omega)
        -- the copy stays while the writer writes
        have hW12' : WrS w12 B g11 w12 g11 ((pre ++ vform r.live.length) ++ (r.live.take k).flatMap lvB) := WrS.init hW12.wr
        refine ⟨_, h12.at rfl rfl, ?_⟩
        refine hW12'.U (u64_toNat (by omega) (by omega)) (by omega) (by omega) fun g13 w13 hW13 => ⟨rfl, ?_⟩
        have b13 : Blk w13 b2 (r.live[k]).cs.toArray T_api_Live := hW13.kp.blk h12.blk q2
        refine ⟨_, b13.at rfl rfl, ?_⟩
        refine hW13.U (u64_toNat (by omega) (by omega)) (by omega) (by rw [List.length_append]; omega) fun g14 w14 hW14 => ⟨rfl, ?_⟩
        have b14 : Blk w14 b2 (r.live[k]).cs.toArray T_api_Live := hW14.kp.blk h12.blk q2
        refine ⟨_, _, _, _, ⟨b14.at rfl rfl, b14.at rfl rfl, b14.at rfl rfl, b14.at rfl rfl, trivial⟩, ?_⟩
        refine state_c (x := r.live[k]) fun w15 k15' => ⟨_, rfl, ?_⟩
        refine (hW14.kp0 k15').U rfl (by omega) (by rw [List.length_append, List.length_append]; omega) fun g16 w16 hW16 => ⟨rfl, ?_⟩
        rw [wk1 hkl (by omega)]
        refine ⟨⟨k + 1, by omega, rfl, g16, ?_⟩, by simp only [Int.toNat_natCast]; omega⟩
        have hfin := hW12.step hW16.wr hW16.kp hW16.nw
        rw [flat_snoc hkl, ← List.append_assoc]
        unfold lvB
        unfold lvB at hfin
        simp only [List.append_assoc] at hfin ⊢
        exact hfin
      have hke : k = r.live.length := by omega
      subst hke
      rw [List.take_length] at hW11 lk
      refine ⟨_, _, _, (box hW11).at rfl rfl, ?_⟩
      refine hW11.U (n := r.dirty.length) (by rw [u64_toNat (by omega) (by omega)]; omega) (by omega) (by simp only [List.length_append]; omega) fun g21 w21 hW21 => ⟨rfl, ?_⟩
      refine ⟨_, _, _, (box hW21).at rfl rfl, ?_⟩
      have l21 := vlen31 (n := r.dirty.length) (by omega)
      refine loopN (fun s w22 => ∃ k : Nat, k ≤ r.dirty.length ∧ s.1 = (k : Int) ∧ ∃ g, WrS w5 B g4 w22 g ((((pre ++ vform r.live.length) ++ r.live.flatMap lvB) ++ vform r.dirty.length) ++ (r.dirty.take k).flatMap dvB)) (fun s _ => r.dirty.length - s.1.toNat) ⟨0, Nat.zero_le _, rfl, g21, by simpa using hW21⟩ ?_
      rintro ⟨k0, u⟩ w22 ⟨k, hk, hk0, g22, hW22⟩ _
      dsimp only at hk0 ⊢
      subst hk0
      have lkd : ((r.dirty.take k).flatMap dvB).length ≤ 320 := by
        have := flat_len (f := dvB) (n := 20) (L := r.dirty.take k) fun x hx => ldv x (List.mem_of_mem_take hx)
        rw [List.length_take] at this
        omega
      refine cond_d (fun hlt => ?_) (fun hge => ?_)
      · have hkl : k < r.dirty.length := by omega
        have hx := hD _ (List.getElem_mem hkl)
        refine rd_el DV.csl (by omega) (lis hW22).d hkl hdl fun b o ha hcl => ?_
        have cell1 : w22.cell? (Addr.add ((⟨b, o, none⟩ : Addr).add (Int.toNat (k : Int) * 2)) 1) = some (.int .i64 (r.dirty[k]).since) := by
          rw [Int.toNat_natCast, add_at, add_at]; exact hcl 1 _ rfl
        have cell0 : w22.cell? ((⟨b, o, none⟩ : Addr).add (Int.toNat (k : Int) * 2)) = some (.int .i64 (r.dirty[k]).page) := by
          rw [Int.toNat_natCast, add_at]; exact hcl 0 _ rfl
        refine ⟨_, _, ⟨cell0, cell1, trivial⟩, ?_⟩
        refine dv_cp r.dirty[k] fun b2 w12 h12 => ?_
        have hW12 := hW22.kp0 h12.kp
        have q2 : ¬ fpW B g22 b2 := fun hh => by
          have := hW22.wr.lt b2 hh
          have := h12.nw
          omega
        have l22 : ((((pre ++ vform r.live.length) ++ r.live.flatMap lvB) ++ vform r.dirty.length) ++ (r.dirty.take k).flatMap dvB).length ≤ 3000 := by simp only [List.length_append]; omega
        have v1 := vlen31 (n := (r.dirty[k]).page.toNat) (by omega)
        have hW12' : WrS w12 B g22 w12 g22 ((((pre ++ vform r.live.length) ++ r.live.flatMap lvB) ++ vform r.dirty.length) ++ (r.dirty.take k).flatMap dvB) := WrS.init hW12.wr
        refine ⟨_, h12.at rfl rfl, ?_⟩
        refine hW12'.U (u64_toNat (by omega) (by omega)) (by omega) (by omega) fun g13 w13 hW13 => ⟨rfl, ?_⟩
        have b13 : Blk w13 b2 (r.dirty[k]).cs.toArray T_api_Dirty := hW13.kp.blk h12.blk q2
        refine ⟨_, b13.at rfl rfl, ?_⟩
        refine hW13.U (u64_toNat (by omega) (by omega)) (by omega) (by rw [List.length_append]; omega) fun g14 w14 hW14 => ⟨rfl, ?_⟩
        rw [wk1 hkl (by omega)]
        refine ⟨⟨k + 1, by omega, rfl, g14, ?_⟩, by simp only [Int.toNat_natCast]; omega⟩
        have hfin := hW12.step hW14.wr hW14.kp hW14.nw
        rw [flat_snoc hkl, ← List.append_assoc]
        unfold dvB
        unfold dvB at hfin
        simp only [List.append_assoc] at hfin ⊢
        exact hfin
      have hke : k = r.dirty.length := by omega
      subst hke
      rw [List.take_length] at hW22 lkd
      refine ⟨g22, ?_⟩
      have he : encB r = (((pre ++ vform r.live.length) ++ r.live.flatMap lvB) ++ vform r.dirty.length) ++ r.dirty.flatMap dvB := by
        rw [henc]
        unfold tailB
        rw [if_pos e8]
        simp only [List.append_assoc]
      rw [he]
      refine ⟨hW22, ?_⟩
      simp only [List.length_append]
      omega
    · have : tailB r = [] := by unfold tailB; rw [if_neg n8]
      rw [henc, this, List.append_nil]
      exact ⟨hW8, by omega⟩
  · rintro _ w9 ⟨g9, hW9, hlen⟩ _
    refine writer_Out hW9.wr (by omega) fun a c w' hs k' hf => ⟨_, _, _, rfl, ?_⟩
    have kk : Kp no w w9 := h1.kp.trans0 (hW9.old k15 hB1 hf4)
    exact hok hc0 a c w' (kk.trans0 k') hs fun k hk => by
      have := hf k hk
      have := kk.size
      omega
end Go.Proofs.Ytkfdkcclojepnaa

/- The plain form of a record's reading; the state of a reading walk. Conditions: none. -/
set_option linter.unusedVariables false
set_option linter.unusedSimpArgs false
namespace Go.Proofs.Ytkfdkcclojepnaa
open Go Go.RowKit

def u64m : Nat := 18446744073709551615
def mst (k : Int) : Nat := if k = 8 then 2147483648 else 2147483647
def rdInts (bs : List UInt8) (M : Nat) : List Nat → RV × (Nat × Nat) → RV × (Nat × Nat)
  | [], s => s
  | o :: l, s => rdInts bs M l (s.1.put ((rdU bs s.2 M).1 : Int) o, (rdU bs s.2 M).2)
def rdSgn (bs : List UInt8) : List Nat → RV × (Nat × Nat) → RV × (Nat × Nat)
  | [], s => s
  | o :: l, s => rdSgn bs l (s.1.put (unzig (rdU bs s.2 18446744073709551615).1) o, (rdU bs s.2 18446744073709551615).2)
/-- A live transaction is read. -/
def rdL1 (bs : List UInt8) (st : Nat × Nat) : LV × (Nat × Nat) :=
  (⟨((rdU bs st 2147483647).1 : Int), ((rdU bs (rdU bs st 2147483647).2 2147483647).1 : Int), ((rdU bs (rdU bs (rdU bs st 2147483647).2 2147483647).2 2).1 : Int) == 1, ((rdU bs (rdU bs (rdU bs st 2147483647).2 2147483647).2 2).1 : Int) == 2⟩,
   (rdU bs (rdU bs (rdU bs st 2147483647).2 2147483647).2 2).2)
def rdD1 (bs : List UInt8) (st : Nat × Nat) : DV × (Nat × Nat) :=
  (⟨((rdU bs st 2147483647).1 : Int), ((rdU bs (rdU bs st 2147483647).2 2147483647).1 : Int)⟩, (rdU bs (rdU bs st 2147483647).2 2147483647).2)
def rdLive (bs : List UInt8) : Nat → List LV × (Nat × Nat) → List LV × (Nat × Nat)
  | 0, s => s
  | n + 1, s => rdLive bs n (s.1 ++ [(rdL1 bs s.2).1], (rdL1 bs s.2).2)
def rdDirty (bs : List UInt8) : Nat → List DV × (Nat × Nat) → List DV × (Nat × Nat)
  | 0, s => s
  | n + 1, s => rdDirty bs n (s.1 ++ [(rdD1 bs s.2).1], (rdD1 bs s.2).2)
def rdCp (bs : List UInt8) (s : RV × (Nat × Nat)) : RV × (Nat × Nat) :=
  let n := rdU bs s.2 32
  let l := rdLive bs n.1 (s.1.live, n.2)
  let d := rdU bs l.2 16
  let e := rdDirty bs d.1 (s.1.dirty, d.2)
  ({ s.1 with live := l.1, dirty := e.1 }, e.2)
def rdTail (bs : List UInt8) (s : RV × (Nat × Nat)) : RV × (Nat × Nat) := if s.1.kind = 8 then rdCp bs s else s
def rdRec (bs : List UInt8) (k : Int) (st : Nat × Nat) : RV × (Nat × Nat) := rdTail bs (rdSgn bs (sof k) (rdInts bs (mst k) (iof k) ({ kind := k }, st)))
def endE (bs : List UInt8) (st : Nat × Nat) : Nat := if st.2 = 0 ∧ st.1 < bs.length then 21 else st.2
/-- The record of bytes, or the fault. -/
def decB (bs : List UInt8) : RV × Nat :=
  let a := rdU bs (0, 0) 18446744073709551615
  if a.2.2 ≠ 0 then ({}, a.2.2) else if a.1 < 1 ∨ 8 < a.1 then ({}, 70) else
  let x := rdRec bs (a.1 : Int) a.2
  if endE bs x.2 ≠ 0 then ({}, endE bs x.2) else if chkN x.1 ≠ 0 then ({}, chkN x.1) else (x.1, 0)

theorem rdU_le (bs : List UInt8) (st : Nat × Nat) (m : Nat) : (rdU bs st m).1 ≤ m := by
  unfold rdU
  split
  · split
    · split
      · simp
      · simp only; omega
    · simp
  · simp
theorem put_kind {r : RV} {v : Int} {o : Nat} (ho : o ∈ plc) : (r.put v o).kind = r.kind ∧ (r.put v o).live = r.live ∧ (r.put v o).dirty = r.dirty ∧ (r.put v o).lsn = r.lsn := by
  simp only [plc, List.mem_cons, List.mem_nil_iff, or_false] at ho
  rcases ho with rfl | rfl | rfl | rfl | rfl | rfl | rfl | rfl | rfl | rfl | rfl | rfl | rfl <;> exact ⟨rfl, rfl, rfl, rfl⟩

theorem er_lv : ElemRow Try.prog T_s_api_Live T_api_Live (.agg #[.int .i64 0, .int .i64 0, .bool false, .bool false]) 4 24 := elemRow (by kernel_rfl) (by kernel_rfl) rfl
theorem er_dv : ElemRow Try.prog T_s_api_Dirty T_api_Dirty (.agg #[.int .i64 0, .int .i64 0]) 2 16 := elemRow (by kernel_rfl) (by kernel_rfl) rfl
theorem LV.cs1 (x : LV) : ∀ u ∈ x.cs, u.oneCell' = true := by
  intro u hu
  simp only [LV.cs, List.mem_cons, List.mem_nil_iff, or_false] at hu
  rcases hu with rfl | rfl | rfl | rfl <;> rfl
theorem DV.cs1 (x : DV) : ∀ u ∈ x.cs, u.oneCell' = true := by
  intro u hu
  simp only [DV.cs, List.mem_cons, List.mem_nil_iff, or_false] at hu
  rcases hu with rfl | rfl <;> rfl

/-- A record's block and its lists, by owners 2, 4, 5; the answer's block, by owner 1. -/
structure Bx (w0 w : World) (ow : Nat → Nat) (b1 b2 : Nat) (r : RV) (m : Mm) : Prop where
  old : Old w0 w ow
  x1 : Blk w b1 (({} : RV).ca {}) T_api_Record
  t1 : ow b1 = 1
  x2 : Blk w b2 (r.ca m) T_api_Record
  t2 : ow b2 = 2
theorem Bx.fr {T : Nat → Prop} {w0 w w' : World} {ow ow' : Nat → Nat} {b1 b2 : Nat} {r : RV} {m : Mm} (h : Bx w0 w ow b1 b2 r m) (f : Fro T w ow w' ow') (h0 : T 0) (h1 : T 1) (h2 : T 2) : Bx w0 w' ow' b1 b2 r m := by
  obtain ⟨a, b⟩ := blk_fr h.x1 h.t1 f h1
  obtain ⟨c, d⟩ := blk_fr h.x2 h.t2 f h2
  exact ⟨h.old.fr f h0, a, b, c, d⟩
theorem Bx.st {w0 w : World} {ow : Nat → Nat} {b1 b2 o : Nat} {r : RV} {m : Mm} {ad : Addr} {v : Value} {K : World → Prop} (h : Bx w0 w ow b1 b2 r m) (r3 : RV) (m3 : Mm) (had : ad = ⟨b2, o, none⟩) (ho : o < 17)
    (he : (r.ca m).setIfInBounds o v = r3.ca m3) (hk : ∀ w', Bx w0 w' ow b1 b2 r3 m3 → Fro (fun t => t ≠ 2) w ow w' ow → K w') : StF w ad v K :=
  StF.at had h.x2 ho fun w' hb' k' _ => by
    have f : Fro (fun t => t ≠ 2) w ow w' ow := Fro.of_kp' k' fun b _ hb hne => hne (by rw [hb]; exact h.t2)
    obtain ⟨a, b⟩ := blk_fr h.x1 h.t1 f (by omega)
    exact hk w' ⟨h.old.fr f (by omega), a, b, he ▸ hb', h.t2⟩ f

/-- The reader, by owner 3. -/
structure Rr (w : World) (ow : Nat → Nat) (B : Nat) (g : Option Addr) (bs : List UInt8) (st : Nat × Nat) : Prop where
  re : Re w B g bs st.1 st.2
  t3 : Tg ow 3 (fpW B g)
theorem Rr.fr {T : Nat → Prop} {w w' : World} {ow ow' : Nat → Nat} {B : Nat} {g : Option Addr} {bs : List UInt8} {st : Nat × Nat} (h : Rr w ow B g bs st) (f : Fro T w ow w' ow') (h3 : T 3) : Rr w' ow' B g bs st :=
  ⟨h.re.kp f.kp fun b hb hn => hn (by rw [h.t3 b hb]; exact h3), h.t3.fr f h3 h.re.lt⟩
theorem Rr.U {w : World} {ow : Nat → Nat} {B : Nat} {g : Option Addr} {bs : List UInt8} {st : Nat × Nat} {M : Nat} {R : Ending → World → Prop} (h : Rr w ow B g bs st) (hb : bs.length < 140737488355329)
    (hk : ∀ w', Rr w' ow B g bs (rdU bs st M).2 → Fro (fun t => t ≠ 3) w ow w' ow → R (.returned (.int .u64 ((rdU bs st M).1 : Int))) w') : GoC Try.prog F_field_Reader_U #[.pointer (some ⟨B, 0, none⟩), .int .u64 (M : Int)] w R :=
  reader_U h.re hb fun w' hr k => hk w' ⟨hr, h.t3⟩ (Fro.of_kp' k fun b _ hb' hne => hne (h.t3 b (.inl hb')))
theorem Rr.S {w : World} {ow : Nat → Nat} {B : Nat} {g : Option Addr} {bs : List UInt8} {st : Nat × Nat} {R : Ending → World → Prop} (h : Rr w ow B g bs st) (hb : bs.length < 140737488355329)
    (hk : ∀ w', Rr w' ow B g bs (rdU bs st 18446744073709551615).2 → Fro (fun t => t ≠ 3) w ow w' ow → R (.returned (.int .i64 (unzig (rdU bs st 18446744073709551615).1))) w') : GoC Try.prog F_field_Reader_S #[.pointer (some ⟨B, 0, none⟩)] w R :=
  reader_S h.re hb fun w' hr k => hk w' ⟨hr, h.t3⟩ (Fro.of_kp' k fun b _ hb' hne => hne (h.t3 b (.inl hb')))

/-- A list that is only read, by its owner. -/
structure RdR (w : World) (ow : Nat → Nat) (a : Option Addr) (xs : List Value) (t : Nat) : Prop where
  rd : Rd w a xs
  tg : xs ≠ [] → Tg ow t (Is a)
theorem RdR.fr {T : Nat → Prop} {w w' : World} {ow ow' : Nat → Nat} {a : Option Addr} {xs : List Value} {t : Nat} (h : RdR w ow a xs t) (f : Fro T w ow w' ow') (ht : T t) : RdR w' ow' a xs t := by
  by_cases hx : xs = []
  · subst hx
    exact ⟨Rd.nil _ _, fun hh => absurd rfl hh⟩
  · refine ⟨h.rd.kp f.kp fun b hb hn => hn (by rw [h.tg hx b hb]; exact ht), fun _ => (h.tg hx).fr f ht fun k hk => ?_⟩
    obtain ⟨b, o, ha, hlt, _⟩ := h.rd.addr hx
    obtain ⟨ad, had, rfl⟩ := hk
    rw [ha] at had
    cases had
    exact hlt

/-- The record's lists, by owners 4 and 5. -/
structure LsR (w : World) (ow : Nat → Nat) (r : RV) (m : Mm) : Prop where
  lv : SlT w ow T_api_Live 4 m.la m.ll m.lc (flatV LV.cs r.live) 4
  dv : SlT w ow T_api_Dirty 2 m.da m.dl m.dc (flatV DV.cs r.dirty) 5
  ll : r.live.length = m.ll
  dl : r.dirty.length = m.dl
theorem LsR.fr {T : Nat → Prop} {w w' : World} {ow ow' : Nat → Nat} {r : RV} {m : Mm} (h : LsR w ow r m) (f : Fro T w ow w' ow') (h4 : T 4) (h5 : T 5) : LsR w' ow' r m := ⟨h.lv.fr f h4, h.dv.fr f h5, h.ll, h.dl⟩
theorem LsR.li {w : World} {ow : Nat → Nat} {r : RV} {m : Mm} (h : LsR w ow r m) (hl : m.ll < 140737488355329) (hd : m.dl < 140737488355329) : LiIn w m r.live r.dirty := ⟨h.lv.sl.rd, h.ll, hl, h.dv.sl.rd, h.dl, hd⟩
end Go.Proofs.Ytkfdkcclojepnaa

/- The contract of the package record's Decode. Conditions: lengths below 2^46. -/
set_option linter.unusedVariables false
set_option linter.unusedSimpArgs false
namespace Go.Proofs.Ytkfdkcclojepnaa
open Go Go.RowKit

/-- A record, written over another one. -/
theorem rec_st {w : World} {b : Nat} {q : RV} {n : Mm} {T : TypeId} (h : Blk w b (q.ca n) T) (r : RV) (m : Mm) {K : World → Prop} (hk : ∀ w', Blk w' b (r.ca m) T → Kp (fun k => k = b) w w' → K w') :
    StF w ⟨b, 0, none⟩ (.int .i64 r.lsn) fun w1 => StF w1 (Addr.add ⟨b, 0, none⟩ 1) (.int .i64 r.kind) fun w2 => StF w2 (Addr.add ⟨b, 0, none⟩ 2) (.int .i64 r.tx) fun w3 => StF w3 (Addr.add ⟨b, 0, none⟩ 3) (.int .i64 r.prev) fun w4 => StF w4 (Addr.add ⟨b, 0, none⟩ 4) (.int .i64 r.wp) fun w5 => StF w5 (Addr.add ⟨b, 0, none⟩ 5) (.int .i64 r.wi) fun w6 => StF w6 (Addr.add ⟨b, 0, none⟩ 6) (.int .i64 r.sp) fun w7 => StF w7 (Addr.add ⟨b, 0, none⟩ 7) (.int .i64 r.si) fun w8 => StF w8 (Addr.add ⟨b, 0, none⟩ 8) (.int .i64 r.delta) fun w9 => StF w9 (Addr.add ⟨b, 0, none⟩ 9) (.int .i64 r.id) fun w10 => StF w10 (Addr.add ⟨b, 0, none⟩ 10) (.int .i64 r.grp) fun w11 => StF w11 (Addr.add ⟨b, 0, none⟩ 11) (.int .i64 r.lo) fun w12 => StF w12 (Addr.add ⟨b, 0, none⟩ 12) (.int .i64 r.hi) fun w13 => StF w13 (Addr.add ⟨b, 0, none⟩ 13) (.int .i64 r.val) fun w14 => StF w14 (Addr.add ⟨b, 0, none⟩ 14) (.slice m.la m.ll m.lc) fun w15 => StF w15 (Addr.add ⟨b, 0, none⟩ 15) (.slice m.da m.dl m.dc) fun w16 => StF w16 (Addr.add ⟨b, 0, none⟩ 16) (.int .i64 r.next) fun w17 => K w17 :=
  have k0 : Kp (fun k => k = b) w w := Kp.refl _ w
  have h0 : Blk w b #[.int .i64 q.lsn, .int .i64 q.kind, .int .i64 q.tx, .int .i64 q.prev, .int .i64 q.wp, .int .i64 q.wi, .int .i64 q.sp, .int .i64 q.si, .int .i64 q.delta, .int .i64 q.id, .int .i64 q.grp, .int .i64 q.lo, .int .i64 q.hi, .int .i64 q.val, .slice n.la n.ll n.lc, .slice n.da n.dl n.dc, .int .i64 q.next] T := h
  StF.at rfl h0 (by simp) fun w1 h' k' _ => have h1 : Blk w1 b #[.int .i64 r.lsn, .int .i64 q.kind, .int .i64 q.tx, .int .i64 q.prev, .int .i64 q.wp, .int .i64 q.wi, .int .i64 q.sp, .int .i64 q.si, .int .i64 q.delta, .int .i64 q.id, .int .i64 q.grp, .int .i64 q.lo, .int .i64 q.hi, .int .i64 q.val, .slice n.la n.ll n.lc, .slice n.da n.dl n.dc, .int .i64 q.next] T := h'; have k1 : Kp (fun k => k = b) w w1 := k0.trans0 k'
  StF.at rfl h1 (by simp) fun w2 h' k' _ => have h2 : Blk w2 b #[.int .i64 r.lsn, .int .i64 r.kind, .int .i64 q.tx, .int .i64 q.prev, .int .i64 q.wp, .int .i64 q.wi, .int .i64 q.sp, .int .i64 q.si, .int .i64 q.delta, .int .i64 q.id, .int .i64 q.grp, .int .i64 q.lo, .int .i64 q.hi, .int .i64 q.val, .slice n.la n.ll n.lc, .slice n.da n.dl n.dc, .int .i64 q.next] T := h'; have k2 : Kp (fun k => k = b) w w2 := k1.trans0 k'
  StF.at rfl h2 (by simp) fun w3 h' k' _ => have h3 : Blk w3 b #[.int .i64 r.lsn, .int .i64 r.kind, .int .i64 r.tx, .int .i64 q.prev, .int .i64 q.wp, .int .i64 q.wi, .int .i64 q.sp, .int .i64 q.si, .int .i64 q.delta, .int .i64 q.id, .int .i64 q.grp, .int .i64 q.lo, .int .i64 q.hi, .int .i64 q.val, .slice n.la n.ll n.lc, .slice n.da n.dl n.dc, .int .i64 q.next] T := h'; have k3 : Kp (fun k => k = b) w w3 := k2.trans0 k'
  StF.at rfl h3 (by simp) fun w4 h' k' _ => have h4 : Blk w4 b #[.int .i64 r.lsn, .int .i64 r.kind, .int .i64 r.tx, .int .i64 r.prev, .int .i64 q.wp, .int .i64 q.wi, .int .i64 q.sp, .int .i64 q.si, .int .i64 q.delta, .int .i64 q.id, .int .i64 q.grp, .int .i64 q.lo, .int .i64 q.hi, .int .i64 q.val, .slice n.la n.ll n.lc, .slice n.da n.dl n.dc, .int .i64 q.next] T := h'; have k4 : Kp (fun k => k = b) w w4 := k3.trans0 k'
  StF.at rfl h4 (by simp) fun w5 h' k' _ => have h5 : Blk w5 b #[.int .i64 r.lsn, .int .i64 r.kind, .int .i64 r.tx, .int .i64 r.prev, .int .i64 r.wp, .int .i64 q.wi, .int .i64 q.sp, .int .i64 q.si, .int .i64 q.delta, .int .i64 q.id, .int .i64 q.grp, .int .i64 q.lo, .int .i64 q.hi, .int .i64 q.val, .slice n.la n.ll n.lc, .slice n.da n.dl n.dc, .int .i64 q.next] T := h'; have k5 : Kp (fun k => k = b) w w5 := k4.trans0 k'
  StF.at rfl h5 (by simp) fun w6 h' k' _ => have h6 : Blk w6 b #[.int .i64 r.lsn, .int .i64 r.kind, .int .i64 r.tx, .int .i64 r.prev, .int .i64 r.wp, .int .i64 r.wi, .int .i64 q.sp, .int .i64 q.si, .int .i64 q.delta, .int .i64 q.id, .int .i64 q.grp, .int .i64 q.lo, .int .i64 q.hi, .int .i64 q.val, .slice n.la n.ll n.lc, .slice n.da n.dl n.dc, .int .i64 q.next] T := h'; have k6 : Kp (fun k => k = b) w w6 := k5.trans0 k'
  StF.at rfl h6 (by simp) fun w7 h' k' _ => have h7 : Blk w7 b #[.int .i64 r.lsn, .int .i64 r.kind, .int .i64 r.tx, .int .i64 r.prev, .int .i64 r.wp, .int .i64 r.wi, .int .i64 r.sp, .int .i64 q.si, .int .i64 q.delta, .int .i64 q.id, .int .i64 q.grp, .int .i64 q.lo, .int .i64 q.hi, .int .i64 q.val, .slice n.la n.ll n.lc, .slice n.da n.dl n.dc, .int .i64 q.next] T := h'; have k7 : Kp (fun k => k = b) w w7 := k6.trans0 k'
  StF.at rfl h7 (by simp) fun w8 h' k' _ => have h8 : Blk w8 b #[.int .i64 r.lsn, .int .i64 r.kind, .int .i64 r.tx, .int .i64 r.prev, .int .i64 r.wp, .int .i64 r.wi, .int .i64 r.sp, .int .i64 r.si, .int .i64 q.delta, .int .i64 q.id, .int .i64 q.grp, .int .i64 q.lo, .int .i64 q.hi, .int .i64 q.val, .slice n.la n.ll n.lc, .slice n.da n.dl n.dc, .int .i64 q.next] T := h'; have k8 : Kp (fun k => k = b) w w8 := k7.trans0 k'
  StF.at rfl h8 (by simp) fun w9 h' k' _ => have h9 : Blk w9 b #[.int .i64 r.lsn, .int .i64 r.kind, .int .i64 r.tx, .int .i64 r.prev, .int .i64 r.wp, .int .i64 r.wi, .int .i64 r.sp, .int .i64 r.si, .int .i64 r.delta, .int .i64 q.id, .int .i64 q.grp, .int .i64 q.lo, .int .i64 q.hi, .int .i64 q.val, .slice n.la n.ll n.lc, .slice n.da n.dl n.dc, .int .i64 q.next] T := h'; have k9 : Kp (fun k => k = b) w w9 := k8.trans0 k'
  StF.at rfl h9 (by simp) fun w10 h' k' _ => have h10 : Blk w10 b #[.int .i64 r.lsn, .int .i64 r.kind, .int .i64 r.tx, .int .i64 r.prev, .int .i64 r.wp, .int .i64 r.wi, .int .i64 r.sp, .int .i64 r.si, .int .i64 r.delta, .int .i64 r.id, .int .i64 q.grp, .int .i64 q.lo, .int .i64 q.hi, .int .i64 q.val, .slice n.la n.ll n.lc, .slice n.da n.dl n.dc, .int .i64 q.next] T := h'; have k10 : Kp (fun k => k = b) w w10 := k9.trans0 k'
  StF.at rfl h10 (by simp) fun w11 h' k' _ => have h11 : Blk w11 b #[.int .i64 r.lsn, .int .i64 r.kind, .int .i64 r.tx, .int .i64 r.prev, .int .i64 r.wp, .int .i64 r.wi, .int .i64 r.sp, .int .i64 r.si, .int .i64 r.delta, .int .i64 r.id, .int .i64 r.grp, .int .i64 q.lo, .int .i64 q.hi, .int .i64 q.val, .slice n.la n.ll n.lc, .slice n.da n.dl n.dc, .int .i64 q.next] T := h'; have k11 : Kp (fun k => k = b) w w11 := k10.trans0 k'
  StF.at rfl h11 (by simp) fun w12 h' k' _ => have h12 : Blk w12 b #[.int .i64 r.lsn, .int .i64 r.kind, .int .i64 r.tx, .int .i64 r.prev, .int .i64 r.wp, .int .i64 r.wi, .int .i64 r.sp, .int .i64 r.si, .int .i64 r.delta, .int .i64 r.id, .int .i64 r.grp, .int .i64 r.lo, .int .i64 q.hi, .int .i64 q.val, .slice n.la n.ll n.lc, .slice n.da n.dl n.dc, .int .i64 q.next] T := h'; have k12 : Kp (fun k => k = b) w w12 := k11.trans0 k'
  StF.at rfl h12 (by simp) fun w13 h' k' _ => have h13 : Blk w13 b #[.int .i64 r.lsn, .int .i64 r.kind, .int .i64 r.tx, .int .i64 r.prev, .int .i64 r.wp, .int .i64 r.wi, .int .i64 r.sp, .int .i64 r.si, .int .i64 r.delta, .int .i64 r.id, .int .i64 r.grp, .int .i64 r.lo, .int .i64 r.hi, .int .i64 q.val, .slice n.la n.ll n.lc, .slice n.da n.dl n.dc, .int .i64 q.next] T := h'; have k13 : Kp (fun k => k = b) w w13 := k12.trans0 k'
  StF.at rfl h13 (by simp) fun w14 h' k' _ => have h14 : Blk w14 b #[.int .i64 r.lsn, .int .i64 r.kind, .int .i64 r.tx, .int .i64 r.prev, .int .i64 r.wp, .int .i64 r.wi, .int .i64 r.sp, .int .i64 r.si, .int .i64 r.delta, .int .i64 r.id, .int .i64 r.grp, .int .i64 r.lo, .int .i64 r.hi, .int .i64 r.val, .slice n.la n.ll n.lc, .slice n.da n.dl n.dc, .int .i64 q.next] T := h'; have k14 : Kp (fun k => k = b) w w14 := k13.trans0 k'
  StF.at rfl h14 (by simp) fun w15 h' k' _ => have h15 : Blk w15 b #[.int .i64 r.lsn, .int .i64 r.kind, .int .i64 r.tx, .int .i64 r.prev, .int .i64 r.wp, .int .i64 r.wi, .int .i64 r.sp, .int .i64 r.si, .int .i64 r.delta, .int .i64 r.id, .int .i64 r.grp, .int .i64 r.lo, .int .i64 r.hi, .int .i64 r.val, .slice m.la m.ll m.lc, .slice n.da n.dl n.dc, .int .i64 q.next] T := h'; have k15 : Kp (fun k => k = b) w w15 := k14.trans0 k'
  StF.at rfl h15 (by simp) fun w16 h' k' _ => have h16 : Blk w16 b #[.int .i64 r.lsn, .int .i64 r.kind, .int .i64 r.tx, .int .i64 r.prev, .int .i64 r.wp, .int .i64 r.wi, .int .i64 r.sp, .int .i64 r.si, .int .i64 r.delta, .int .i64 r.id, .int .i64 r.grp, .int .i64 r.lo, .int .i64 r.hi, .int .i64 r.val, .slice m.la m.ll m.lc, .slice m.da m.dl m.dc, .int .i64 q.next] T := h'; have k16 : Kp (fun k => k = b) w w16 := k15.trans0 k'
  StF.at rfl h16 (by simp) fun w17 h' k' _ => have h17 : Blk w17 b #[.int .i64 r.lsn, .int .i64 r.kind, .int .i64 r.tx, .int .i64 r.prev, .int .i64 r.wp, .int .i64 r.wi, .int .i64 r.sp, .int .i64 r.si, .int .i64 r.delta, .int .i64 r.id, .int .i64 r.grp, .int .i64 r.lo, .int .i64 r.hi, .int .i64 r.val, .slice m.la m.ll m.lc, .slice m.da m.dl m.dc, .int .i64 r.next] T := h'; have k17 : Kp (fun k => k = b) w w17 := k16.trans0 k'
  hk w17 h17 k17

/-- A result's block is written over, and read. -/
theorem ret_c {w0 w : World} {ow : Nat → Nat} {b1 b2 : Nat} {q : RV} {n : Mm} (h : Bx w0 w ow b1 b2 q n) (r : RV) (m : Mm) {K : World → Prop} (hk : ∀ w', Blk w' b1 (r.ca m) T_api_Record → Old w0 w' ow → Fro (fun t => t ≠ 1) w ow w' ow → K w') {G : Prop}
    (hG : G = (StF w ⟨b1, 0, none⟩ (.int .i64 r.lsn) fun w1 => StF w1 (Addr.add ⟨b1, 0, none⟩ 1) (.int .i64 r.kind) fun w2 => StF w2 (Addr.add ⟨b1, 0, none⟩ 2) (.int .i64 r.tx) fun w3 => StF w3 (Addr.add ⟨b1, 0, none⟩ 3) (.int .i64 r.prev) fun w4 =>
      StF w4 (Addr.add ⟨b1, 0, none⟩ 4) (.int .i64 r.wp) fun w5 => StF w5 (Addr.add ⟨b1, 0, none⟩ 5) (.int .i64 r.wi) fun w6 => StF w6 (Addr.add ⟨b1, 0, none⟩ 6) (.int .i64 r.sp) fun w7 => StF w7 (Addr.add ⟨b1, 0, none⟩ 7) (.int .i64 r.si) fun w8 =>
      StF w8 (Addr.add ⟨b1, 0, none⟩ 8) (.int .i64 r.delta) fun w9 => StF w9 (Addr.add ⟨b1, 0, none⟩ 9) (.int .i64 r.id) fun w10 => StF w10 (Addr.add ⟨b1, 0, none⟩ 10) (.int .i64 r.grp) fun w11 => StF w11 (Addr.add ⟨b1, 0, none⟩ 11) (.int .i64 r.lo) fun w12 =>
      StF w12 (Addr.add ⟨b1, 0, none⟩ 12) (.int .i64 r.hi) fun w13 => StF w13 (Addr.add ⟨b1, 0, none⟩ 13) (.int .i64 r.val) fun w14 => StF w14 (Addr.add ⟨b1, 0, none⟩ 14) (.slice m.la m.ll m.lc) fun w15 => StF w15 (Addr.add ⟨b1, 0, none⟩ 15) (.slice m.da m.dl m.dc) fun w16 =>
      StF w16 (Addr.add ⟨b1, 0, none⟩ 16) (.int .i64 r.next) fun w17 => K w17)) : G := by
  subst hG
  refine rec_st h.x1 r m fun w' hb k => ?_
  have f : Fro (fun t => t ≠ 1) w ow w' ow := Fro.of_kp' k fun b _ hb' hne => hne (by rw [hb']; exact h.t1)
  exact hk w' hb (h.old.fr f (by omega)) f

theorem wr31 {n : Nat} (h : n ≤ 2147483648) : IntKind.wrap .i64 (n : Int) = (n : Int) := wrap_i64 (by omega) (by omega)

/-- A live transaction more. -/
theorem pushL {w0 w : World} {ow : Nat → Nat} {b1 b2 : Nat} {r : RV} {m : Mm} (hx : Bx w0 w ow b1 b2 r m) (hL : LsR w ow r m) (x : LV) (hlen : m.ll ≤ 1000) {K : World → Prop}
    (h : ∀ m' w' ow', Bx w0 w' ow' b1 b2 { r with live := r.live ++ [x] } m' → LsR w' ow' { r with live := r.live ++ [x] } m' → Fro (fun t => t ≠ 2 ∧ t ≠ 4) w ow w' ow' → m'.ll = m.ll + 1 → m'.dl = m.dl → K w') :
    AlF w (.cells #[.int .i64 x.tx, .int .i64 x.last, .bool x.c, .bool x.u] T_api_Live) fun b4 w94 => RunF Try.prog (Builtin.append_ #[T_s_api_Live, T_s_api_Live] T_s_api_Live #[.slice m.la m.ll m.lc, .slice (some ⟨b4, 0, none⟩) 1 1]) w94 fun r11 w95 =>
      ∃ (a11 : Option Addr) (l11 c11 : Nat), r11 = .slice a11 l11 c11 ∧ StF w95 (Addr.add ⟨b2, 0, none⟩ 14) (.slice a11 l11 c11) K := by
  refine AlF.intro fun b4 wa hb4e hb4 ka _ => ?_
  have fa : Fro (fun _ => True) w ow wa (ext ow w.heap.size 8) := Fro.of_kp0 8 ka
  have hLa := hL.fr fa trivial trivial
  have hxa := hx.fr fa trivial trivial trivial
  refine app_c er_lv hLa.lv (rd_cells hb4 (xs := x.cs) rfl) (by rw [LV.csl]) (fun hh => by cases hh) x.cs1 (by omega) (by omega) fun a' c' wb hs' kb fb => ⟨a', _, c', rfl, ?_⟩
  have hxb := hxa.fr fb (by omega) (by omega) (by omega)
  have hdb := hLa.dv.fr fb (by omega)
  refine hxb.st { r with live := r.live ++ [x] } { m with la := a', ll := m.ll + 1, lc := c' } rfl (Nat.le_of_ble_eq_true rfl) rfl fun wc hxc fc => ?_
  refine h _ wc _ hxc ⟨?_, hdb.fr fc (by omega), by simp [hL.ll], hL.dl⟩ ?_ rfl rfl
  · have := hs'.fr fc (by omega)
    show SlT wc _ T_api_Live 4 a' (m.ll + 1) c' (flatV LV.cs (r.live ++ [x])) 4
    rw [flatV_app]
    exact this
  · exact ((fa.mono fun _ _ => trivial).trans (fb.mono fun t ht => ht.2)).trans (fc.mono fun t ht => ht.1)

/-- A dirty page more. -/
theorem pushD {w0 w : World} {ow : Nat → Nat} {b1 b2 : Nat} {r : RV} {m : Mm} (hx : Bx w0 w ow b1 b2 r m) (hL : LsR w ow r m) (x : DV) (hlen : m.dl ≤ 1000) {K : World → Prop}
    (h : ∀ m' w' ow', Bx w0 w' ow' b1 b2 { r with dirty := r.dirty ++ [x] } m' → LsR w' ow' { r with dirty := r.dirty ++ [x] } m' → Fro (fun t => t ≠ 2 ∧ t ≠ 5) w ow w' ow' → m'.dl = m.dl + 1 → m'.ll = m.ll → K w') :
    AlF w (.cells #[.int .i64 x.page, .int .i64 x.since] T_api_Dirty) fun b4 w94 => (Blk w94 b2 (r.ca m) T_api_Record) ∧ RunF Try.prog (Builtin.append_ #[T_s_api_Dirty, T_s_api_Dirty] T_s_api_Dirty #[.slice m.da m.dl m.dc, .slice (some ⟨b4, 0, none⟩) 1 1]) w94 fun r11 w95 =>
      ∃ (a11 : Option Addr) (l11 c11 : Nat), r11 = .slice a11 l11 c11 ∧ Blk w95 b2 (r.ca m) T_api_Record ∧ StF w95 (Addr.add (Addr.add ⟨b2, 0, none⟩ 14) 1) (.slice a11 l11 c11) K := by
  refine AlF.intro fun b4 wa hb4e hb4 ka _ => ?_
  have fa : Fro (fun _ => True) w ow wa (ext ow w.heap.size 8) := Fro.of_kp0 8 ka
  have hLa := hL.fr fa trivial trivial
  have hxa := hx.fr fa trivial trivial trivial
  refine ⟨hxa.x2, app_c er_dv hLa.dv (rd_cells hb4 (xs := x.cs) rfl) (by rw [DV.csl]) (fun hh => by cases hh) x.cs1 (by omega) (by omega) fun a' c' wb hs' kb fb => ⟨a', _, c', rfl, ?_⟩⟩
  have hxb := hxa.fr fb (by omega) (by omega) (by omega)
  have hdb := hLa.lv.fr fb (by omega)
  refine ⟨hxb.x2, hxb.st { r with dirty := r.dirty ++ [x] } { m with da := a', dl := m.dl + 1, dc := c' } rfl (Nat.le_of_ble_eq_true rfl) rfl fun wc hxc fc => ?_⟩
  refine h _ wc _ hxc ⟨hdb.fr fc (by omega), ?_, hL.ll, by simp [hL.dl]⟩ ?_ rfl rfl
  · have := hs'.fr fc (by omega)
    show SlT wc _ T_api_Dirty 2 a' (m.dl + 1) c' (flatV DV.cs (r.dirty ++ [x])) 5
    rw [flatV_app]
    exact this
  · exact ((fa.mono fun _ _ => trivial).trans (fb.mono fun t ht => ht.2)).trans (fc.mono fun t ht => ht.1)

theorem Rr.E {w : World} {ow : Nat → Nat} {B : Nat} {g : Option Addr} {bs : List UInt8} {st : Nat × Nat} {R : Ending → World → Prop} (h : Rr w ow B g bs st)
    (hk : ∀ w', Rr w' ow B g bs (st.1, endE bs st) → Fro (fun t => t ≠ 3) w ow w' ow → R (.returned (.tuple #[])) w') : GoC Try.prog F_field_Reader_End #[.pointer (some ⟨B, 0, none⟩)] w R :=
  reader_End h.re fun w' hr k => hk w' ⟨hr, h.t3⟩ (Fro.of_kp' k fun b _ hb' hne => hne (h.t3 b (.inl hb')))
theorem Rr.F {w : World} {ow : Nat → Nat} {B : Nat} {g : Option Addr} {bs : List UInt8} {st : Nat × Nat} {R : Ending → World → Prop} (h : Rr w ow B g bs st)
    (hk : ∀ n w', Fro (fun _ => True) w ow w' ow → R (.returned (.tuple #[.int .i64 n, .int .i64 (st.2 : Int)])) w') : GoC Try.prog F_field_Reader_Fault #[.pointer (some ⟨B, 0, none⟩)] w R :=
  reader_Fault h.re fun w' k => hk _ w' (Fro.of_kp' k fun _ _ h => h.elim)
theorem u64c {k n : Nat} (h : k < n) (hn : n ≤ 1000) : IntKind.wrap .u64 ((k : Int) + 1) = ((k + 1 : Nat) : Int) := by rw [wrap_u64 (by omega) (by omega)]; omega

set_option maxHeartbeats 1000000 in
theorem decode_c {w : World} {a : Option Addr} {l c : Nat} {bs : List UInt8} {R : Ending → World → Prop} (hr : Rd w a (bvs bs)) (hl : bs.length = l) (h0 : a = none → l = 0) (hb : l < 140737488355329)
    (h : ∀ m w' ow, Kp no w w' → Old w w' ow → LsR w' ow (decB bs).1 m → R (.returned (.tuple #[.agg ((decB bs).1.ca m), .int .i64 ((decB bs).2 : Int)])) w') : GoC Try.prog F_record_Decode #[.slice a l c] w R := by
  subst hl
  refine S_record_Decode ?_
  unfold W_record_Decode
  refine AlF.intro fun b1 w1 hb1e hb1 k1 hs1 => ?_
  refine newReader_c (hr.kp0 k1) rfl h0 (by omega) fun B g w2 hre k2 hB hg => ⟨_, rfl, ?_⟩
  have o0 : Old w w fun _ => 0 := ⟨Kp.refl _ _, fun _ _ => rfl⟩
  have f1 : Fro (fun _ => True) w (fun _ => 0) w1 (ext (fun _ => 0) w.heap.size 1) := Fro.of_kp0 1 k1
  have f2 : Fro (fun _ => True) w1 (ext (fun _ => 0) w.heap.size 1) w2 (ext (ext (fun _ => 0) w.heap.size 1) w1.heap.size 3) := Fro.of_kp0 3 k2
  generalize how : ext (ext (fun _ => 0) w.heap.size 1) w1.heap.size 3 = ow2 at f2
  have t1 : ow2 b1 = 1 := by rw [← how, ext_old (by omega), ext_new (by omega)]
  have old2 : Old w w2 ow2 := (o0.fr f1 trivial).fr f2 trivial
  have x1 : Blk w2 b1 (({} : RV).ca {}) T_api_Record := k2.blk hb1 id
  have hR2 : Rr w2 ow2 B g bs (0, 0) := ⟨hre, fun k hk => by
    rw [← how]
    rcases hk with rfl | hk
    · exact ext_new hB
    · exact ext_new (hg k hk)⟩
  have hfin : ∀ (r : RV) (e : Nat), decB bs = (r, e) → ∀ m w' ow, Kp no w w' → Old w w' ow → LsR w' ow r m → R (.returned (.tuple #[.agg (r.ca m), .int .i64 (e : Int)])) w' := fun r e he m w' ow hk ho hL => by
    have := h m w' ow hk ho (by rw [he]; exact hL)
    rw [he] at this
    exact this
  have e0 : ∀ w' ow, LsR w' ow {} {} := fun w' ow => ⟨slt_nil _ _ _ _ _, slt_nil _ _ _ _ _, rfl, rfl⟩
  -- a way out with an empty record
  have out : ∀ (e : Nat) (w' : World) (ow : Nat → Nat) (b2 : Nat) (q : RV) (n : Mm), decB bs = ({}, e) → Bx w w' ow b1 b2 q n → ∀ w'', Blk w'' b1 (({} : RV).ca {}) T_api_Record → Old w w'' ow → R (.returned (.tuple #[.agg (({} : RV).ca {}), .int .i64 (e : Int)])) w'' :=
    fun e w' ow b2 q n he hx w'' hb ho => hfin _ _ he {} w'' ow ho.kp ho (e0 _ _)
  refine hR2.U (M := 18446744073709551615) hb fun w3 hR3 f3 => ⟨_, rfl, ?_⟩
  have hR3 : Rr w3 ow2 B g bs (rdU bs (0, 0) 18446744073709551615).2 := hR3
  have hx3 : Blk w3 b1 (({} : RV).ca {}) T_api_Record ∧ ow2 b1 = 1 := blk_fr x1 t1 f3 (by omega)
  have old3 := old2.fr f3 (by omega)
  have bx3 : Bx w w3 ow2 b1 b1 {} {} → Bx w w3 ow2 b1 b1 {} {} := id
  refine reader_Fault hR3.re fun w4 k4 => ⟨_, _, rfl, ?_⟩
  have f4 : Fro (fun _ => True) w3 ow2 w4 ow2 := Fro.of_kp' k4 fun _ _ h => h.elim
  have hR4 := hR3.fr f4 trivial
  have hx4 : Blk w4 b1 (({} : RV).ca {}) T_api_Record := k4.blk hx3.1 id
  have old4 := old3.fr f4 trivial
  have zero : ∀ (e : Nat), decB bs = ({}, e) → ∀ w'', Blk w'' b1 (({} : RV).ca {}) T_api_Record → Kp (fun k => k = b1) w4 w'' → R (.returned (.tuple #[.agg (({} : RV).ca {}), .int .i64 (e : Int)])) w'' := fun e he w'' hb kk => by
    have f : Fro (fun t => t ≠ 1) w4 ow2 w'' ow2 := Fro.of_kp' kk fun b _ hb' hne => hne (by rw [hb']; exact t1)
    have := old4.fr f (by omega)
    exact hfin _ _ he {} w'' ow2 this.kp this (e0 _ _)
  generalize ha : rdU bs (0, 0) 18446744073709551615 = a3 at *
  refine cond_ne (fun hf => ?_) (fun hf => ?_)
  · refine rec_st hx4 {} {} fun w5 hb5 k5 => rec_rd hb5 (zero a3.2.2 ?_ w5 hb5 k5)
    unfold decB
    simp only [ha]
    rw [if_pos (by omega)]
  have hd70 : (a3.1 < 1 ∨ 8 < a3.1) → decB bs = ({}, 70) := fun hh => by
    unfold decB
    simp only [ha]
    rw [if_neg (by omega), if_pos hh]
  refine cond_d (fun hlt => ?_) (fun hge => cond_d (fun hgt => ?_) (fun hle => ?_))
  · exact rec_st hx4 {} {} fun w5 hb5 k5 => rec_rd hb5 (zero 70 (hd70 (by omega)) w5 hb5 k5)
  · exact rec_st hx4 {} {} fun w5 hb5 k5 => rec_rd hb5 (zero 70 (hd70 (by omega)) w5 hb5 k5)
  have hdec : decB bs = (let x := rdRec bs (a3.1 : Int) a3.2; if endE bs x.2 ≠ 0 then ({}, endE bs x.2) else if chkN x.1 ≠ 0 then ({}, chkN x.1) else (x.1, 0)) := by
    unfold decB
    simp only [ha]
    rw [if_neg (by omega), if_neg (by omega)]
  have hk31 : IntKind.wrap .i64 (a3.1 : Int) = (a3.1 : Int) := wr31 (by omega)
  rw [hk31]
  refine rec_cp { kind := (a3.1 : Int) } {} fun b2 w5 h5 => ?_
  have f5 : Fro (fun _ => True) w4 ow2 w5 (ext ow2 w4.heap.size 2) := Fro.of_kp0 2 h5.kp
  have hR5 := hR4.fr f5 trivial
  have bx5 : Bx w w5 (ext ow2 w4.heap.size 2) b1 b2 { kind := (a3.1 : Int) } {} := by
    obtain ⟨a, b⟩ := blk_fr hx4 t1 f5 trivial
    exact ⟨old4.fr f5 trivial, a, b, h5.blk, ext_new h5.nw⟩
  generalize ext ow2 w4.heap.size 2 = ow5 at f5 hR5 bx5
  have hk1 : (1 : Int) ≤ (a3.1 : Int) := by omega
  have hk8 : (a3.1 : Int) ≤ 8 := by omega
  generalize hK : (a3.1 : Int) = kd at *
  have hms : mst kd ≤ 2147483648 := by unfold mst; split <;> omega
  refine ⟨fun s w' => w' = w5 ∧ s.1 = (mst kd : Int), ?_, ?_⟩
  · refine ⟨_, bx5.x2.at rfl rfl, cond_eq (fun e8 => ⟨rfl, ?_⟩) (fun n8 => ⟨rfl, ?_⟩)⟩
    · unfold mst
      rw [if_pos e8]
      decide
    · unfold mst
      rw [if_neg n8]
      rfl
  rintro ⟨s12, u12⟩ w6 ⟨rfl, hs12⟩ _
  dsimp only at hs12 ⊢
  subst hs12
  refine fields_c (r := { kind := kd }) (m := {}) bx5.x2 hk1 hk8 fun a8 c8 a9 c9 w7 k7 hr8 hr9 hf8 hf9 => ⟨_, _, _, _, _, _, rfl, ?_⟩
  dsimp only at hr8 hr9 ⊢
  have f7 : Fro (fun _ => True) w6 ow5 w7 (ext ow5 w6.heap.size 6) := Fro.of_kp0 6 k7
  have hR7 := hR5.fr f7 trivial
  have bx7 := bx5.fr f7 trivial trivial trivial
  have p8 : RdR w7 (ext ow5 w6.heap.size 6) a8 ((iof kd).map (pv b2)) 6 := ⟨hr8, fun _ k hk => ext_new (hf8 k hk)⟩
  have p9 : RdR w7 (ext ow5 w6.heap.size 6) a9 ((sof kd).map (pv b2)) 6 := ⟨hr9, fun _ k hk => ext_new (hf9 k hk)⟩
  generalize ext ow5 w6.heap.size 6 = ow7 at f7 hR7 bx7 p8 p9
  clear f7 hR5 bx5 hr8 hr9 hf8 hf9
  have il := iof_len kd
  have sl := sof_len kd
  refine loopN (fun s w' => ∃ k : Nat, k ≤ (iof kd).length ∧ s.1 = (k : Int) ∧ ∃ r st, Bx w w' ow7 b1 b2 r {} ∧ Rr w' ow7 B g bs st ∧ RdR w' ow7 a8 ((iof kd).map (pv b2)) 6 ∧ RdR w' ow7 a9 ((sof kd).map (pv b2)) 6 ∧ (r.kind = kd ∧ r.live = [] ∧ r.dirty = []) ∧
      rdInts bs (mst kd) ((iof kd).drop k) (r, st) = rdInts bs (mst kd) (iof kd) ({ kind := kd }, a3.2)) (fun s _ => (iof kd).length - s.1.toNat) ⟨0, Nat.zero_le _, rfl, _, _, bx7, hR7, p8, p9, ⟨rfl, rfl, rfl⟩, rfl⟩ ?_
  rintro ⟨k0, u⟩ wa ⟨k, hk, hk0, r, st, bx, hR, q8, q9, hrk, hrd⟩ _
  dsimp only at hk0 ⊢
  subst hk0
  refine cond_d (fun hlt => ?_) (fun hge => ?_)
  · have hkl : k < (iof kd).length := by omega
    have hmem := iof_plc _ _ (List.getElem_mem hkl)
    refine q8.rd.idx (by omega) hlt (by simp) fun b o ha hcl => ?_
    refine ⟨some ⟨b2, (iof kd)[k], none⟩, by rw [Int.toNat_natCast, add_at]; exact hcl k _ (by simp [hkl, pv]), ?_⟩
    refine hR.U hb fun wb hRb fb => ⟨_, rfl, NilF.intro rfl ?_⟩
    rw [wr31 (by have := rdU_le bs st (mst kd); omega)]
    refine (bx.fr fb (by omega) (by omega) (by omega)).st (r.put ((rdU bs st (mst kd)).1 : Int) (iof kd)[k]) {} rfl (plc_lt hmem) (put_cell _ _ _ hmem) fun wc bxc fc => ?_
    rw [wk1 hkl (by omega)]
    obtain ⟨e1, e2, e3, _⟩ := put_kind (r := r) (v := ((rdU bs st (mst kd)).1 : Int)) hmem
    refine ⟨⟨k + 1, by omega, rfl, _, _, bxc, hRb.fr fc (by omega), (q8.fr fb (by omega)).fr fc (by omega), (q9.fr fb (by omega)).fr fc (by omega), ⟨by rw [e1]; exact hrk.1, by rw [e2]; exact hrk.2.1, by rw [e3]; exact hrk.2.2⟩, ?_⟩, by simp only [Int.toNat_natCast]; omega⟩
    rw [← hrd, List.drop_eq_getElem_cons hkl, rdInts]
  have hke : k = (iof kd).length := by omega
  subst hke
  rw [List.drop_length, rdInts] at hrd
  refine loopN (fun s w' => ∃ k : Nat, k ≤ (sof kd).length ∧ s.1 = (k : Int) ∧ ∃ r st, Bx w w' ow7 b1 b2 r {} ∧ Rr w' ow7 B g bs st ∧ RdR w' ow7 a9 ((sof kd).map (pv b2)) 6 ∧ (r.kind = kd ∧ r.live = [] ∧ r.dirty = []) ∧
      rdSgn bs ((sof kd).drop k) (r, st) = rdSgn bs (sof kd) (rdInts bs (mst kd) (iof kd) ({ kind := kd }, a3.2))) (fun s _ => (sof kd).length - s.1.toNat) ⟨0, Nat.zero_le _, rfl, r, st, bx, hR, q9, hrk, by rw [← hrd]; rfl⟩ ?_
  rintro ⟨k0, u⟩ wd ⟨k, hk, hk0, r, st, bx, hR, q9, hrk, hrd⟩ _
  dsimp only at hk0 ⊢
  subst hk0
  refine cond_d (fun hlt => ?_) (fun hge => ?_)
  · have hkl : k < (sof kd).length := by omega
    have hmem := sof_plc _ _ (List.getElem_mem hkl)
    refine q9.rd.idx (by omega) hlt (by simp) fun b o ha hcl => ?_
    refine ⟨some ⟨b2, (sof kd)[k], none⟩, by rw [Int.toNat_natCast, add_at]; exact hcl k _ (by simp [hkl, pv]), ?_⟩
    refine hR.S hb fun wb hRb fb => ⟨_, rfl, NilF.intro rfl ?_⟩
    refine (bx.fr fb (by omega) (by omega) (by omega)).st (r.put (unzig (rdU bs st 18446744073709551615).1) (sof kd)[k]) {} rfl (plc_lt hmem) (put_cell _ _ _ hmem) fun wc bxc fc => ?_
    rw [wk1 hkl (by omega)]
    obtain ⟨e1, e2, e3, _⟩ := put_kind (r := r) (v := unzig (rdU bs st 18446744073709551615).1) hmem
    refine ⟨⟨k + 1, by omega, rfl, _, _, bxc, hRb.fr fc (by omega), (q9.fr fb (by omega)).fr fc (by omega), ⟨by rw [e1]; exact hrk.1, by rw [e2]; exact hrk.2.1, by rw [e3]; exact hrk.2.2⟩, ?_⟩, by simp only [Int.toNat_natCast]; omega⟩
    rw [← hrd, List.drop_eq_getElem_cons hkl, rdSgn]
  have hke : k = (sof kd).length := by omega
  subst hke
  rw [List.drop_length, rdSgn] at hrd
  have hrec : rdRec bs kd a3.2 = rdTail bs (r, st) := by unfold rdRec; rw [← hrd]
  obtain ⟨hk, hl0, hd0⟩ := hrk
  have hL : LsR wd ow7 r {} := ⟨by rw [hl0]; exact slt_nil _ _ _ _ _, by rw [hd0]; exact slt_nil _ _ _ _ _, by rw [hl0]; rfl, by rw [hd0]; rfl⟩
  refine ⟨fun _ w' => ∃ r m st ow, Bx w w' ow b1 b2 r m ∧ Rr w' ow B g bs st ∧ LsR w' ow r m ∧ m.ll ≤ 1000 ∧ m.dl ≤ 1000 ∧ rdRec bs kd a3.2 = (r, st), ?_, ?_⟩
  · refine ⟨_, bx.x2.at rfl rfl, cond_eq (fun e8 => ?_) (fun n8 => ⟨r, {}, st, ow7, bx, hR, hL, by simp, by simp, ?_⟩)⟩
    rotate_left
    · rw [hrec]
      unfold rdTail
      rw [if_neg (by exact n8)]
    have hrec : rdRec bs kd a3.2 = rdCp bs (r, st) := by
      rw [hrec]
      unfold rdTail
      rw [if_pos (by exact e8)]
    refine hR.U (M := 32) hb fun we hRe fe => ⟨_, rfl, ?_⟩
    have bxe := bx.fr fe (by omega) (by omega) (by omega)
    have hLe := hL.fr fe (by omega) (by omega)
    have hn32 := rdU_le bs st 32
    unfold rdCp at hrec
    dsimp only at hrec
    generalize rdU bs st 32 = nn at *
    rw [hl0, hd0] at hrec
    refine loopN (fun s w' => ∃ k : Nat, k ≤ nn.1 ∧ s.1 = (k : Int) ∧ ∃ L m st ow, Bx w w' ow b1 b2 { r with live := L } m ∧ Rr w' ow B g bs st ∧ LsR w' ow { r with live := L } m ∧ m.ll = k ∧ m.dl = 0 ∧
        rdLive bs (nn.1 - k) (L, st) = rdLive bs nn.1 ([], nn.2)) (fun s _ => nn.1 - s.1.toNat) ⟨0, Nat.zero_le _, rfl, [], {}, nn.2, ow7, by rw [← hl0]; exact bxe, hRe, by rw [← hl0]; exact hLe, rfl, rfl, rfl⟩ ?_
    rintro ⟨k0, u⟩ wf ⟨k, hk, hk0, L, m, st', ow, bx, hR, hL, hm, hmd, hrl⟩ _
    dsimp only at hk0 ⊢
    subst hk0
    refine cond_d (fun hlt => ?_) (fun hge => ?_)
    · have hkn : k < nn.1 := by omega
      refine hR.U (M := 2147483647) hb fun w1 hR1 f1 => ⟨_, rfl, ?_⟩
      refine hR1.U (M := 2147483647) hb fun w2 hR2 f2 => ⟨_, rfl, ?_⟩
      have bx2 := (bx.fr f1 (by omega) (by omega) (by omega)).fr f2 (by omega) (by omega) (by omega)
      have hL2 := (hL.fr f1 (by omega) (by omega)).fr f2 (by omega) (by omega)
      have v1 := rdU_le bs st' 2147483647
      have v2 := rdU_le bs (rdU bs st' 2147483647).2 2147483647
      rw [wr31 (by omega), wr31 (by omega)]
      refine lv_cp ⟨((rdU bs st' 2147483647).1 : Int), ((rdU bs (rdU bs st' 2147483647).2 2147483647).1 : Int), false, false⟩ fun b3 w3 h3 => ?_
      have f3 : Fro (fun _ => True) w2 ow w3 (ext ow w2.heap.size 7) := Fro.of_kp0 7 h3.kp
      have t7 : ext ow w2.heap.size 7 b3 = 7 := ext_new h3.nw
      have bx3 := bx2.fr f3 trivial trivial trivial
      have hL3 := hL2.fr f3 trivial trivial
      have hR3 := hR2.fr f3 trivial
      generalize ext ow w2.heap.size 7 = ow3 at *
      refine hR3.U (M := 2) hb fun w4 hR4 f4 => ⟨_, rfl, ?_⟩
      obtain ⟨x4, _⟩ := blk_fr h3.blk t7 f4 (by omega)
      have bx4 := bx3.fr f4 (by omega) (by omega) (by omega)
      have hL4 := hL3.fr f4 (by omega) (by omega)
      refine StF.at rfl x4 (by simp [LV.cs]) fun w5 x5 k5 _ => ?_
      refine StF.at rfl x5 (by simp [LV.cs]) fun w6 x6 k6 _ => ?_
      have f6 : Fro (fun t => t ≠ 7) w4 ow3 w6 ow3 := Fro.of_kp' (k5.trans0 k6) fun b _ hb' hne => hne (by rw [hb']; exact t7)
      have bx6 := bx4.fr f6 (by omega) (by omega) (by omega)
      have hL6 := hL4.fr f6 (by omega) (by omega)
      have hR6 := hR4.fr f6 (by omega)
      refine ⟨_, _, _, bx6.x2.at rfl rfl, _, _, _, _, ⟨x6.at rfl rfl, x6.at rfl rfl, x6.at rfl rfl, x6.at rfl rfl, trivial⟩, ?_⟩
      refine pushL bx6 hL6 (rdL1 bs st').1 (by omega) fun m' w7 ow7' bx7 hL7 f7 hm' hmd' => ?_
      rw [u64c hkn (by omega)]
      refine ⟨⟨k + 1, by omega, rfl, _, m', (rdL1 bs st').2, ow7', bx7, hR6.fr f7 (by omega), hL7, by omega, by omega, ?_⟩, by simp only [Int.toNat_natCast]; omega⟩
      rw [← hrl, show nn.1 - k = (nn.1 - (k + 1)) + 1 by omega, rdLive]
    have hke : k = nn.1 := by omega
    subst hke
    rw [Nat.sub_self, rdLive] at hrl
    rw [← hrl] at hrec
    dsimp only at hrec
    refine hR.U (M := 16) hb fun wg hRg fg => ⟨_, rfl, ?_⟩
    have bxg := bx.fr fg (by omega) (by omega) (by omega)
    have hLg := hL.fr fg (by omega) (by omega)
    have hn16 := rdU_le bs st' 16
    generalize rdU bs st' 16 = dd at *
    refine loopN (fun s w' => ∃ k : Nat, k ≤ dd.1 ∧ s.1 = (k : Int) ∧ ∃ D m st ow, Bx w w' ow b1 b2 { r with live := L, dirty := D } m ∧ Rr w' ow B g bs st ∧ LsR w' ow { r with live := L, dirty := D } m ∧ m.ll = nn.1 ∧ m.dl = k ∧
        rdDirty bs (dd.1 - k) (D, st) = rdDirty bs dd.1 ([], dd.2)) (fun s _ => dd.1 - s.1.toNat) ⟨0, Nat.zero_le _, rfl, [], m, dd.2, ow, by rw [← hd0]; exact bxg, hRg, by rw [← hd0]; exact hLg, hm, hmd, rfl⟩ ?_
    rintro ⟨k0, u⟩ wh ⟨k, hk, hk0, D, m, st', ow, bx, hR, hL, hm, hmd, hrl⟩ _
    dsimp only at hk0 ⊢
    subst hk0
    refine cond_d (fun hlt => ?_) (fun hge => ?_)
    · have hkn : k < dd.1 := by omega
      refine ⟨fun w' => Blk w' b2 (RV.ca { r with live := L, dirty := D } m) T_api_Record, bx.x2, m.da, m.dl, m.dc, fun w' hw' => hw'.at rfl rfl, ?_⟩
      have fd : Fro (fun _ => True) wh ow wh.drew ow := Fro.of_kp' (Kp.drew wh 1) fun _ _ h => h.elim
      refine (hR.fr fd trivial).U (M := 2147483647) hb fun w1 hR1 f1 => ⟨_, rfl, ?_⟩
      have bx1 := (bx.fr fd trivial trivial trivial).fr f1 (by omega) (by omega) (by omega)
      have hL1 := (hL.fr fd trivial trivial).fr f1 (by omega) (by omega)
      refine ⟨bx1.x2, hR1.U (M := 2147483647) hb fun w2 hR2 f2 => ⟨_, rfl, ?_⟩⟩
      have bx2 := bx1.fr f2 (by omega) (by omega) (by omega)
      have hL2 := hL1.fr f2 (by omega) (by omega)
      have v1 := rdU_le bs st' 2147483647
      have v2 := rdU_le bs (rdU bs st' 2147483647).2 2147483647
      rw [wr31 (by omega), wr31 (by omega)]
      refine ⟨bx2.x2, pushD bx2 hL2 (rdD1 bs st').1 (by omega) fun m' w7 ow7' bx7 hL7 f7 hm' hmd' => ?_⟩
      rw [u64c hkn (by omega)]
      refine ⟨⟨k + 1, by omega, rfl, _, m', (rdD1 bs st').2, ow7', bx7, hR2.fr f7 (by omega), hL7, by omega, by omega, ?_⟩, by simp only [Int.toNat_natCast]; omega⟩
      rw [← hrl, show dd.1 - k = (dd.1 - (k + 1)) + 1 by omega, rdDirty]
    have hke : k = dd.1 := by omega
    subst hke
    rw [Nat.sub_self, rdDirty] at hrl
    rw [← hrl] at hrec
    exact ⟨_, m, _, ow, bx, hR, hL, by omega, by omega, hrec⟩
  · rintro _ we ⟨r, m, st, ow, bx, hR, hL, hml, hmd, hrec⟩ _
    rw [hrec] at hdec
    dsimp only at hdec
    refine hR.E fun wf hRf ff => ⟨rfl, ?_⟩
    refine hRf.F fun n wg fg => ⟨_, _, rfl, ?_⟩
    have bxg := (bx.fr ff (by omega) (by omega) (by omega)).fr fg trivial trivial trivial
    have hLg := (hL.fr ff (by omega) (by omega)).fr fg trivial trivial
    refine cond_ne (fun hne => ?_) (fun he => ?_)
    · refine rec_st bxg.x1 {} {} fun wh hbh kh => rec_rd hbh ?_
      have f : Fro (fun t => t ≠ 1) wg ow wh ow := Fro.of_kp' kh fun b _ hb' hne => hne (by rw [hb']; exact bxg.t1)
      have ho := bxg.old.fr f (by omega)
      have hd : decB bs = ({}, endE bs st) := by rw [hdec, if_pos (by intro hh; exact hne (by simp only [hh]; rfl))]
      exact hfin _ _ hd {} wh ow ho.kp ho (e0 _ _)
    have he0 : endE bs st = 0 := by simpa using he
    rw [if_neg (by omega)] at hdec
    refine rec_rd bxg.x2 (check_c (r := r) (m := m) (hLg.li (by omega) (by omega)) fun wh kh => ⟨_, rfl, ?_⟩)
    have fh : Fro (fun _ => True) wg ow wh ow := Fro.of_kp' kh fun _ _ h => h.elim
    have bxh := bxg.fr fh trivial trivial trivial
    have hLh := hLg.fr fh trivial trivial
    refine cond_ne (fun hne => ?_) (fun he => ?_)
    · refine rec_st bxh.x1 {} {} fun wi hbi ki => rec_rd hbi ?_
      have f : Fro (fun t => t ≠ 1) wh ow wi ow := Fro.of_kp' ki fun b _ hb' hne => hne (by rw [hb']; exact bxh.t1)
      have ho := bxh.old.fr f (by omega)
      have hd : decB bs = ({}, chkN r) := by rw [hdec, if_pos (by omega)]
      exact hfin _ _ hd {} wi ow ho.kp ho (e0 _ _)
    · refine rec_rd bxh.x2 (rec_st bxh.x1 r m fun wi hbi ki => rec_rd hbi ?_)
      have f : Fro (fun t => t ≠ 1) wh ow wi ow := Fro.of_kp' ki fun b _ hb' hne => hne (by rw [hb']; exact bxh.t1)
      have ho := bxh.old.fr f (by omega)
      have hd : decB bs = (r, 0) := by rw [hdec, if_neg (by omega)]
      exact hfin _ _ hd m wi ow ho.kp ho (hLh.fr f (by omega) (by omega))
end Go.Proofs.Ytkfdkcclojepnaa

/- Several texts in one: Rr, Rs, Rt, Ru. Conditions: lengths below 2^47. -/
/-! Plain laws of a record's bytes: there and back, one form, cut. Conditions: none. -/
set_option linter.unusedVariables false
set_option linter.unusedSimpArgs false
namespace Go.Proofs.Ytkfdkcclojepnaa
open Go Go.RowKit

theorem belB_0 (n : Int) : belB n 0 = true := by unfold belB; simp

theorem liB_all (next lsn : Int) : ∀ (L : List LV) (last : Int), liB next lsn last L = (liB next 0 last L && L.all fun x => belB x.last lsn)
  | [], _ => rfl
  | x :: r, last => by
    rw [liB, liB, liB_all next lsn r, belB_0, List.all_cons]
    cases decide (last < x.tx) <;> cases decide (x.tx < next) <;> cases inB x.last 1 2147483647 <;> cases belB x.last lsn <;> cases x.c && x.u <;> simp
theorem diB_all (lsn : Int) : ∀ (D : List DV) (page : Int), diB lsn page D = (diB 0 page D && D.all fun x => belB x.since lsn)
  | [], _ => rfl
  | x :: r, page => by
    rw [diB, diB, diB_all lsn r, belB_0, List.all_cons]
    cases decide (page < x.page) <;> cases decide (x.page < 64) <;> cases inB x.since 1 2147483647 <;> cases belB x.since lsn <;> simp

theorem rdU_fault {bs : List UInt8} {st : Nat × Nat} {m : Nat} (h : st.2 ≠ 0) : rdU bs st m = (0, st) := by unfold rdU; rw [if_neg h]
theorem rdL1_fault {bs : List UInt8} {st : Nat × Nat} (h : st.2 ≠ 0) : (rdL1 bs st).2 = st := by unfold rdL1; simp only [rdU_fault h]
theorem rdD1_fault {bs : List UInt8} {st : Nat × Nat} (h : st.2 ≠ 0) : (rdD1 bs st).2 = st := by unfold rdD1; simp only [rdU_fault h]
theorem rdLive_fault {bs : List UInt8} : ∀ (n : Nat) {L : List LV} {st : Nat × Nat}, st.2 ≠ 0 → (rdLive bs n (L, st)).2 = st
  | 0, _, _, _ => rfl
  | n + 1, L, st, h => by
    rw [rdLive]
    dsimp only
    rw [rdL1_fault h]
    exact rdLive_fault n h
theorem rdDirty_fault {bs : List UInt8} : ∀ (n : Nat) {D : List DV} {st : Nat × Nat}, st.2 ≠ 0 → (rdDirty bs n (D, st)).2 = st
  | 0, _, _, _ => rfl
  | n + 1, D, st, h => by
    rw [rdDirty]
    dsimp only
    rw [rdD1_fault h]
    exact rdDirty_fault n h


theorem zig_unzig (n : Nat) : zig (unzig n) = n := by
  unfold unzig
  split
  · unfold zig
    rw [if_pos (by omega)]
    omega
  · unfold zig
    rw [if_neg (by omega)]
    omega
theorem unzig_bd {n : Nat} (h : n < 18446744073709551616) : i64 (unzig n) := by
  unfold i64 unzig
  split <;> omega
theorem rdU_ok {bs : List UInt8} {at_ m M : Nat} {rest : List UInt8} (hm : m < 18446744073709551616) (hM : m ≤ M) (hd : bs.drop at_ = vform m ++ rest) : rdU bs (at_, 0) M = (m, (at_ + (vform m).length, 0)) := by
  unfold rdU
  rw [if_pos rfl]
  dsimp only
  rw [hd, parse_vform hm]
  dsimp only
  rw [if_pos rfl, if_neg (by omega)]
theorem drop_next {α : Type} {bs x rest : List α} {at_ : Nat} (hd : bs.drop at_ = x ++ rest) : bs.drop (at_ + x.length) = rest := by
  rw [← List.drop_drop, hd, List.drop_left]
/-- What was read is the form of the number. -/
theorem rdU_one {bs : List UInt8} {st : Nat × Nat} {M : Nat} (h : (rdU bs st M).2.2 = 0) : st.2 = 0 ∧ bs.drop st.1 = vform (rdU bs st M).1 ++ bs.drop (rdU bs st M).2.1 := by
  unfold rdU at h ⊢
  split at h
  · rename_i h0
    rw [if_pos h0]
    split at h
    · rename_i hp
      rw [if_pos hp]
      split at h
      · cases h
      · rename_i hm
        rw [if_neg hm]
        refine ⟨h0, ?_⟩
        dsimp only
        rw [parse_one hp, ← List.drop_drop, List.take_append_drop]
    · rename_i hp
      exact absurd h hp
  · rename_i h0
    exact absurd h h0

theorem gi_put_same {r : RV} {v : Int} {o : Nat} (ho : o ∈ plc) : (r.put v o).gi o = v := by
  simp only [plc, List.mem_cons, List.mem_nil_iff, or_false] at ho
  rcases ho with rfl | rfl | rfl | rfl | rfl | rfl | rfl | rfl | rfl | rfl | rfl | rfl | rfl <;> rfl
theorem gi_put_ne {r : RV} {v : Int} {o q : Nat} (ho : o ∈ plc) (hq : q ∈ plc) (h : q ≠ o) : (r.put v o).gi q = r.gi q := by
  simp only [plc, List.mem_cons, List.mem_nil_iff, or_false] at ho hq
  rcases ho with rfl | rfl | rfl | rfl | rfl | rfl | rfl | rfl | rfl | rfl | rfl | rfl | rfl <;> rcases hq with rfl | rfl | rfl | rfl | rfl | rfl | rfl | rfl | rfl | rfl | rfl | rfl | rfl <;> first | rfl | exact absurd rfl h

/-- What a reading of numbers leaves. -/
structure Left (l : List Nat) (r0 r1 : RV) (f : Nat → Int) : Prop where
  got : ∀ o ∈ l, r1.gi o = f o
  old : ∀ o ∈ plc, o ∉ l → r1.gi o = r0.gi o
  k : r1.kind = r0.kind ∧ r1.live = r0.live ∧ r1.dirty = r0.dirty ∧ r1.lsn = r0.lsn
theorem Left.cons {o : Nat} {l : List Nat} {r0 r1 : RV} {v : Int} {f : Nat → Int} (ho : o ∈ plc) (hl : ∀ o ∈ l, o ∈ plc) (hnd : o ∉ l) (h : Left l (r0.put v o) r1 f) (hv : v = f o) : Left (o :: l) r0 r1 f := by
  obtain ⟨e1, e2, e3, e4⟩ := put_kind (r := r0) (v := v) ho
  refine ⟨fun q hq => ?_, fun q hq hn => ?_, h.k.1.trans e1, h.k.2.1.trans e2, h.k.2.2.1.trans e3, h.k.2.2.2.trans e4⟩
  · rcases List.mem_cons.1 hq with rfl | hq
    · rw [h.old q ho hnd, gi_put_same ho, hv]
    · exact h.got q hq
  · rw [h.old q hq (fun hh => hn (List.mem_cons_of_mem _ hh)), gi_put_ne ho hq (fun hh => hn (by rw [hh]; exact List.mem_cons_self ..))]

theorem rdInts_ok {bs : List UInt8} {M : Nat} {f : Nat → Nat} {rest : List UInt8} : ∀ (l : List Nat) (r0 : RV) (at_ : Nat), l.Nodup → (∀ o ∈ l, o ∈ plc) → (∀ o ∈ l, f o ≤ M ∧ f o < 18446744073709551616) → bs.drop at_ = l.flatMap (fun o => vform (f o)) ++ rest →
    (rdInts bs M l (r0, (at_, 0))).2 = (at_ + (l.flatMap fun o => vform (f o)).length, 0) ∧ Left l r0 (rdInts bs M l (r0, (at_, 0))).1 fun o => (f o : Int)
  | [], r0, at_, _, _, _, _ => ⟨rfl, ⟨fun o ho => (by cases ho), fun o _ _ => rfl, rfl, rfl, rfl, rfl⟩⟩
  | o :: l, r0, at_, hnd, hp, hf, hd => by
    rw [List.flatMap_cons, List.append_assoc] at hd
    have hu := rdU_ok (hf o (List.mem_cons_self ..)).2 (hf o (List.mem_cons_self ..)).1 hd
    obtain ⟨h1, h2⟩ := rdInts_ok l (r0.put (f o : Int) o) (at_ + (vform (f o)).length) (List.nodup_cons.1 hnd).2 (fun q hq => hp q (List.mem_cons_of_mem _ hq)) (fun q hq => hf q (List.mem_cons_of_mem _ hq)) (drop_next hd)
    rw [rdInts]
    dsimp only
    rw [hu]
    refine ⟨by rw [h1, List.flatMap_cons, List.length_append, Nat.add_assoc], h2.cons (hp o (List.mem_cons_self ..)) (fun q hq => hp q (List.mem_cons_of_mem _ hq)) (List.nodup_cons.1 hnd).1 rfl⟩
theorem rdSgn_ok {bs : List UInt8} {f : Nat → Int} {rest : List UInt8} : ∀ (l : List Nat) (r0 : RV) (at_ : Nat), l.Nodup → (∀ o ∈ l, o ∈ plc) → (∀ o ∈ l, i64 (f o)) → bs.drop at_ = l.flatMap (fun o => vform (zig (f o))) ++ rest →
    (rdSgn bs l (r0, (at_, 0))).2 = (at_ + (l.flatMap fun o => vform (zig (f o))).length, 0) ∧ Left l r0 (rdSgn bs l (r0, (at_, 0))).1 f
  | [], r0, at_, _, _, _, _ => ⟨rfl, ⟨fun o ho => (by cases ho), fun o _ _ => rfl, rfl, rfl, rfl, rfl⟩⟩
  | o :: l, r0, at_, hnd, hp, hf, hd => by
    rw [List.flatMap_cons, List.append_assoc] at hd
    have hi := hf o (List.mem_cons_self ..)
    have hz := zig_lt hi.1 hi.2
    have hu := rdU_ok (M := 18446744073709551615) hz (by omega) hd
    obtain ⟨h1, h2⟩ := rdSgn_ok l (r0.put (f o) o) (at_ + (vform (zig (f o))).length) (List.nodup_cons.1 hnd).2 (fun q hq => hp q (List.mem_cons_of_mem _ hq)) (fun q hq => hf q (List.mem_cons_of_mem _ hq)) (drop_next hd)
    rw [rdSgn]
    dsimp only
    rw [hu]
    dsimp only
    rw [unzig_zig]
    refine ⟨by rw [h1, List.flatMap_cons, List.length_append, Nat.add_assoc], h2.cons (hp o (List.mem_cons_self ..)) (fun q hq => hp q (List.mem_cons_of_mem _ hq)) (List.nodup_cons.1 hnd).1 rfl⟩
theorem rdL1_ok {bs : List UInt8} {x : LV} {at_ : Nat} {rest : List UInt8} (hx : 0 ≤ x.tx ∧ x.tx < 2147483648 ∧ 0 ≤ x.last ∧ x.last < 2147483648) (hcu : ¬ (x.c = true ∧ x.u = true)) (hd : bs.drop at_ = lvB x ++ rest) : rdL1 bs (at_, 0) = (x, (at_ + (lvB x).length, 0)) := by
  unfold lvB at hd ⊢
  simp only [List.append_assoc] at hd
  have hst : stN x ≤ 2 := by unfold stN; split <;> (try split) <;> omega
  have u1 := rdU_ok (M := 2147483647) (by omega) (by omega) hd
  have u2 := rdU_ok (M := 2147483647) (by omega) (by omega) (drop_next hd)
  have u3 := rdU_ok (M := 2) (by omega) (by omega) (drop_next (drop_next hd))
  unfold rdL1
  simp only [u1, u2, u3]
  refine Prod.ext ?_ (by simp only [List.length_append]; refine Prod.ext ?_ rfl; dsimp only; omega)
  obtain ⟨tx, last, c, u⟩ := x
  dsimp only at hx hcu ⊢
  have e1 : ((tx.toNat : Nat) : Int) = tx := by omega
  have e2 : ((last.toNat : Nat) : Int) = last := by omega
  rw [e1, e2]
  cases c <;> cases u <;> simp [stN] at hcu ⊢
theorem rdD1_ok {bs : List UInt8} {x : DV} {at_ : Nat} {rest : List UInt8} (hx : 0 ≤ x.page ∧ x.page < 64 ∧ 0 ≤ x.since ∧ x.since < 2147483648) (hd : bs.drop at_ = dvB x ++ rest) : rdD1 bs (at_, 0) = (x, (at_ + (dvB x).length, 0)) := by
  unfold dvB at hd ⊢
  simp only [List.append_assoc] at hd
  have u1 := rdU_ok (M := 2147483647) (by omega) (by omega) hd
  have u2 := rdU_ok (M := 2147483647) (by omega) (by omega) (drop_next hd)
  unfold rdD1
  simp only [u1, u2]
  refine Prod.ext ?_ (by simp only [List.length_append]; refine Prod.ext ?_ rfl; dsimp only; omega)
  obtain ⟨p, s⟩ := x
  dsimp only at hx ⊢
  have e1 : ((p.toNat : Nat) : Int) = p := by omega
  have e2 : ((s.toNat : Nat) : Int) = s := by omega
  rw [e1, e2]
theorem rdLive_ok {bs : List UInt8} {rest : List UInt8} : ∀ (L A : List LV) (at_ : Nat), (∀ x ∈ L, (0 ≤ x.tx ∧ x.tx < 2147483648 ∧ 0 ≤ x.last ∧ x.last < 2147483648) ∧ ¬ (x.c = true ∧ x.u = true)) → bs.drop at_ = L.flatMap lvB ++ rest → rdLive bs L.length (A, (at_, 0)) = (A ++ L, (at_ + (L.flatMap lvB).length, 0))
  | [], A, at_, _, _ => by simp [rdLive]
  | x :: L, A, at_, hx, hd => by
    rw [List.flatMap_cons, List.append_assoc] at hd
    have h1 := rdL1_ok (hx x (List.mem_cons_self ..)).1 (hx x (List.mem_cons_self ..)).2 hd
    rw [List.length_cons, rdLive]
    dsimp only
    rw [h1]
    dsimp only
    rw [rdLive_ok L _ _ (fun y hy => hx y (List.mem_cons_of_mem _ hy)) (drop_next hd), List.flatMap_cons, List.length_append, List.append_assoc, Nat.add_assoc]
    rfl
theorem rdDirty_ok {bs : List UInt8} {rest : List UInt8} : ∀ (D A : List DV) (at_ : Nat), (∀ x ∈ D, 0 ≤ x.page ∧ x.page < 64 ∧ 0 ≤ x.since ∧ x.since < 2147483648) → bs.drop at_ = D.flatMap dvB ++ rest → rdDirty bs D.length (A, (at_, 0)) = (A ++ D, (at_ + (D.flatMap dvB).length, 0))
  | [], A, at_, _, _ => by simp [rdDirty]
  | x :: D, A, at_, hx, hd => by
    rw [List.flatMap_cons, List.append_assoc] at hd
    have h1 := rdD1_ok (hx x (List.mem_cons_self ..)) hd
    rw [List.length_cons, rdDirty]
    dsimp only
    rw [h1]
    dsimp only
    rw [rdDirty_ok D _ _ (fun y hy => hx y (List.mem_cons_of_mem _ hy)) (drop_next hd), List.flatMap_cons, List.length_append, List.append_assoc, Nat.add_assoc]
    rfl

theorem iof_nodup (k : Int) : (iof k).Nodup := by
  unfold iof
  repeat' (split <;> try decide)
theorem sof_nodup (k : Int) : (sof k).Nodup := by
  unfold sof
  repeat' (split <;> try decide)
theorem iof_sof (k : Int) : ∀ o ∈ iof k, o ∉ sof k := by
  unfold iof sof
  intro o ho
  split at ho
  · rename_i h
    rw [if_pos h]
    revert o; decide
  · rename_i h2
    rw [if_neg h2]
    split at ho
    · rename_i h8
      rw [if_neg (by omega)]
      simp
    · split at ho
      · rename_i h
        rw [if_pos h]
        revert o; decide
      · rename_i h
        rw [if_neg h]
        simp
theorem gi_ext {a b : RV} (hl : a.lsn = b.lsn) (hk : a.kind = b.kind) (h : ∀ o ∈ plc, a.gi o = b.gi o) (hL : a.live = b.live) (hD : a.dirty = b.dirty) : a = b := by
  obtain ⟨a0, a1, a2, a3, a4, a5, a6, a7, a8, a9, a10, a11, a12, a13, a14, aL, aD⟩ := a
  obtain ⟨b0, b1, b2, b3, b4, b5, b6, b7, b8, b9, b10, b11, b12, b13, b14, bL, bD⟩ := b
  have h2 := h 2 (by decide)
  have h3 := h 3 (by decide)
  have h4 := h 4 (by decide)
  have h5 := h 5 (by decide)
  have h6 := h 6 (by decide)
  have h7 := h 7 (by decide)
  have h8 := h 8 (by decide)
  have h9 := h 9 (by decide)
  have h10 := h 10 (by decide)
  have h11 := h 11 (by decide)
  have h12 := h 12 (by decide)
  have h13 := h 13 (by decide)
  have h16 := h 16 (by decide)
  simp only [RV.gi] at *
  subst hl hk h2 h3 h4 h5 h6 h7 h8 h9 h10 h11 h12 h13 h16 hL hD
  rfl
/-- What its kind has not is zero. -/
theorem ok_zero {r : RV} (h : okB r = true) (h1 : 1 ≤ r.kind) (h8 : r.kind ≤ 8) : (∀ o ∈ plc, o ∉ iof r.kind → o ∉ sof r.kind → r.gi o = 0) ∧ (r.kind ≠ 8 → r.live = [] ∧ r.dirty = []) := by
  unfold okB at h
  unfold iof sof
  by_cases e2 : r.kind = 2
  · rw [if_pos e2] at h
    simp only [e2, Bool.and_eq_true, decide_eq_true_eq] at h ⊢
    obtain ⟨_, _, hz⟩ := h
    refine ⟨fun o ho hi hs => ?_, fun _ => ⟨List.eq_nil_of_length_eq_zero hz.2.2.2.2.1, List.eq_nil_of_length_eq_zero hz.2.2.2.2.2⟩⟩
    simp only [plc, List.mem_cons, List.mem_nil_iff, or_false] at ho
    rcases ho with rfl | rfl | rfl | rfl | rfl | rfl | rfl | rfl | rfl | rfl | rfl | rfl | rfl <;> first | (simp at hi; done) | (simp at hs; done) | (simp only [RV.gi]; omega)
  · rw [if_neg e2] at h
    rw [if_neg e2, if_neg e2]
    by_cases e8 : r.kind = 8
    · rw [if_pos e8] at h
      rw [if_pos e8, if_neg (by omega)]
      simp only [Bool.and_eq_true, decide_eq_true_eq] at h
      obtain ⟨_, _, hz⟩ := h
      refine ⟨fun o ho hi hs => ?_, fun hh => absurd e8 hh⟩
      simp only [plc, List.mem_cons, List.mem_nil_iff, or_false] at ho
      rcases ho with rfl | rfl | rfl | rfl | rfl | rfl | rfl | rfl | rfl | rfl | rfl | rfl | rfl <;> first | (simp at hi; done) | (simp only [RV.gi]; omega)
    · rw [if_neg e8] at h
      rw [if_neg e8]
      by_cases e34 : r.kind = 3 ∨ r.kind = 4
      · rw [if_pos e34] at h
        rw [if_pos e34, if_pos e34]
        simp only [Bool.and_eq_true, decide_eq_true_eq] at h
        obtain ⟨_, _, hz⟩ := h
        refine ⟨fun o ho hi hs => ?_, fun _ => ⟨List.eq_nil_of_length_eq_zero hz.2.2.2.2.2.1, List.eq_nil_of_length_eq_zero hz.2.2.2.2.2.2⟩⟩
        simp only [plc, List.mem_cons, List.mem_nil_iff, or_false] at ho
        rcases ho with rfl | rfl | rfl | rfl | rfl | rfl | rfl | rfl | rfl | rfl | rfl | rfl | rfl <;> first | (simp at hi; done) | (simp at hs; done) | (simp only [RV.gi]; omega)
      · rw [if_neg e34] at h
        rw [if_neg e34, if_neg e34]
        by_cases e567 : r.kind = 5 ∨ r.kind = 6 ∨ r.kind = 7
        · rw [if_pos e567] at h
          rw [if_pos e567]
          simp only [Bool.and_eq_true, decide_eq_true_eq] at h
          obtain ⟨_, _, hz⟩ := h
          refine ⟨fun o ho hi hs => ?_, fun _ => ⟨List.eq_nil_of_length_eq_zero hz.2.2.2.2.2.2.2.2.2.2.2.1, List.eq_nil_of_length_eq_zero hz.2.2.2.2.2.2.2.2.2.2.2.2⟩⟩
          simp only [plc, List.mem_cons, List.mem_nil_iff, or_false] at ho
          rcases ho with rfl | rfl | rfl | rfl | rfl | rfl | rfl | rfl | rfl | rfl | rfl | rfl | rfl <;> first | (simp at hi; done) | (simp only [RV.gi]; omega)
        · rw [if_neg e567] at h
          rw [if_neg e567]
          simp only [Bool.and_eq_true, decide_eq_true_eq] at h
          obtain ⟨_, _, hz⟩ := h
          refine ⟨fun o ho hi hs => ?_, fun _ => ⟨List.eq_nil_of_length_eq_zero hz.2.2.2.2.2.2.2.2.2.2.2.2.1, List.eq_nil_of_length_eq_zero hz.2.2.2.2.2.2.2.2.2.2.2.2.2⟩⟩
          simp only [plc, List.mem_cons, List.mem_nil_iff, or_false] at ho
          rcases ho with rfl | rfl | rfl | rfl | rfl | rfl | rfl | rfl | rfl | rfl | rfl | rfl | rfl <;> first | (simp at hi; done) | (simp only [RV.gi]; omega)
end Go.Proofs.Ytkfdkcclojepnaa
/-! Plain laws of a record's bytes: there and back, one form, their length. Conditions: none. -/
set_option linter.unusedVariables false
set_option linter.unusedSimpArgs false
namespace Go.Proofs.Ytkfdkcclojepnaa
open Go Go.RowKit

theorem liB_cu {next lsn : Int} : ∀ {last : Int} {L : List LV}, liB next lsn last L = true → ∀ x ∈ L, ¬ (x.c = true ∧ x.u = true) := by
  intro last L
  induction L generalizing last with
  | nil => intro _ x hx; cases hx
  | cons y t ih =>
    intro h x hx
    simp only [liB, Bool.and_eq_true, Bool.not_eq_true'] at h
    rcases List.mem_cons.1 hx with rfl | hx
    · intro hh
      have := h.1.2
      rw [hh.1, hh.2] at this
      cases this
    · exact ih h.2 x hx
theorem ok_cu {r : RV} (hc : chkN r = 0) (h8 : r.kind = 8) : ∀ x ∈ r.live, ¬ (x.c = true ∧ x.u = true) := by
  obtain ⟨_, _, ho⟩ := chk_kind hc
  unfold okB at ho
  rw [if_neg (by omega), if_pos h8] at ho
  simp only [Bool.and_eq_true, cpB] at ho
  exact liB_cu ho.2.1.1.2

theorem rdRec_ok {r : RV} (hc : chkN r = 0) (h64 : r.w64) {bs rest : List UInt8} {at_ : Nat} (hd : bs.drop at_ = (iof r.kind).flatMap (intB r) ++ ((sof r.kind).flatMap (sgnB r) ++ (tailB r ++ rest))) :
    rdRec bs r.kind (at_, 0) = ({ r with lsn := 0 }, (at_ + ((iof r.kind).flatMap (intB r) ++ ((sof r.kind).flatMap (sgnB r) ++ tailB r)).length, 0)) := by
  obtain ⟨h1, h8, hok⟩ := chk_kind hc
  have hints := ok_ints hc
  have hsg := sgn_64 h64
  obtain ⟨hz, hll⟩ := ok_zero hok h1 h8
  obtain ⟨i1, i2⟩ := rdInts_ok (M := mst r.kind) (f := fun o => (r.gi o).toNat) (iof r.kind) { kind := r.kind } at_ (iof_nodup _) (iof_plc _) (fun o ho => by
    have := hints o ho
    unfold mst
    split
    · omega
    · rename_i hn
      have := this.2.2 hn
      omega) hd
  obtain ⟨j1, j2⟩ := rdSgn_ok (f := r.gi) (sof r.kind) (rdInts bs (mst r.kind) (iof r.kind) ({ kind := r.kind }, (at_, 0))).1 (at_ + ((iof r.kind).flatMap fun o => vform (r.gi o).toNat).length) (sof_nodup _) (sof_plc _) hsg (drop_next hd)
  have hin : rdInts bs (mst r.kind) (iof r.kind) ({ kind := r.kind }, (at_, 0)) = ((rdInts bs (mst r.kind) (iof r.kind) ({ kind := r.kind }, (at_, 0))).1, (at_ + ((iof r.kind).flatMap fun o => vform (r.gi o).toNat).length, 0)) := Prod.ext rfl i1
  unfold rdRec
  rw [hin]
  generalize (rdInts bs (mst r.kind) (iof r.kind) ({ kind := r.kind }, (at_, 0))).1 = ra at *
  have hsn : rdSgn bs (sof r.kind) (ra, (at_ + ((iof r.kind).flatMap fun o => vform (r.gi o).toNat).length, 0)) = ((rdSgn bs (sof r.kind) (ra, (at_ + ((iof r.kind).flatMap fun o => vform (r.gi o).toNat).length, 0))).1, (at_ + ((iof r.kind).flatMap fun o => vform (r.gi o).toNat).length + ((sof r.kind).flatMap fun o => vform (zig (r.gi o))).length, 0)) := Prod.ext rfl j1
  rw [hsn]
  generalize (rdSgn bs (sof r.kind) (ra, (at_ + ((iof r.kind).flatMap fun o => vform (r.gi o).toNat).length, 0))).1 = rb at *
  have hgi : ∀ o ∈ plc, rb.gi o = r.gi o := fun o ho => by
    by_cases hs : o ∈ sof r.kind
    · exact j2.got o hs
    · rw [j2.old o ho hs]
      by_cases hi : o ∈ iof r.kind
      · rw [i2.got o hi]
        have := hints o hi
        omega
      · rw [i2.old o ho hi, hz o ho hi hs]
        simp only [plc, List.mem_cons, List.mem_nil_iff, or_false] at ho
        rcases ho with rfl | rfl | rfl | rfl | rfl | rfl | rfl | rfl | rfl | rfl | rfl | rfl | rfl <;> rfl
  have hkb : rb.kind = r.kind := j2.k.1.trans i2.k.1
  have hlb : rb.live = [] := j2.k.2.1.trans i2.k.2.1
  have hdb : rb.dirty = [] := j2.k.2.2.1.trans i2.k.2.2.1
  have hsb : rb.lsn = 0 := j2.k.2.2.2.trans i2.k.2.2.2
  have gl : ∀ o ∈ plc, ({ r with lsn := 0 } : RV).gi o = r.gi o := fun o ho => by
    simp only [plc, List.mem_cons, List.mem_nil_iff, or_false] at ho
    rcases ho with rfl | rfl | rfl | rfl | rfl | rfl | rfl | rfl | rfl | rfl | rfl | rfl | rfl <;> rfl
  unfold rdTail
  dsimp only
  rw [hkb]
  by_cases e8 : r.kind = 8
  · rw [if_pos e8]
    obtain ⟨hl32, hd16, hL, hD⟩ := ok_lists hc e8
    have hcu := ok_cu hc e8
    have d2 := drop_next (drop_next hd)
    have htail : tailB r = vform r.live.length ++ (r.live.flatMap lvB ++ (vform r.dirty.length ++ r.dirty.flatMap dvB)) := by unfold tailB; rw [if_pos e8]
    rw [htail] at d2 ⊢
    simp only [List.append_assoc] at d2
    unfold rdCp
    dsimp only
    have u1 := rdU_ok (M := 32) (by omega) (by omega) d2
    have d3 := drop_next d2
    have u2 := rdLive_ok r.live [] _ (fun x hx => ⟨hL x hx, hcu x hx⟩) d3
    have d4 := drop_next d3
    have u3 := rdU_ok (M := 16) (by omega) (by omega) d4
    have d5 := drop_next d4
    have u4 := rdDirty_ok r.dirty [] _ hD d5
    rw [hlb, hdb]
    unfold intB sgnB at u1 u2 u3 u4
    simp only [u1, u2, u3, u4, List.nil_append]
    refine Prod.ext ?_ ?_
    · refine gi_ext hsb hkb (fun o ho => ?_) rfl rfl
      rw [gl o ho, ← hgi o ho]
      simp only [plc, List.mem_cons, List.mem_nil_iff, or_false] at ho
      rcases ho with rfl | rfl | rfl | rfl | rfl | rfl | rfl | rfl | rfl | rfl | rfl | rfl | rfl <;> rfl
    · refine Prod.ext ?_ rfl
      simp only [List.length_append]
      unfold intB sgnB
      omega
  · rw [if_neg e8]
    have htail : tailB r = [] := by unfold tailB; rw [if_neg e8]
    obtain ⟨hl0, hd0⟩ := hll e8
    refine Prod.ext ?_ ?_
    · exact gi_ext hsb hkb (fun o ho => by rw [gl o ho]; exact hgi o ho) (by rw [hlb]; exact hl0.symm) (by rw [hdb]; exact hd0.symm)
    · refine Prod.ext ?_ rfl
      rw [htail]
      simp only [List.length_append, List.length_nil]
      unfold intB sgnB
      omega

theorem inB0 : inB 0 0 2147483647 = true := by unfold inB; simp
theorem chk_lsn0 {r : RV} (h : chkN r = 0) : chkN { r with lsn := 0 } = 0 := by
  obtain ⟨h1, h8, hok⟩ := chk_kind h
  unfold chkN
  rw [if_neg (by dsimp only; omega), if_pos]
  unfold okB at hok ⊢
  dsimp only
  simp only [Bool.and_eq_true] at hok
  rw [inB0, Bool.true_and]
  obtain ⟨_, hok⟩ := hok
  by_cases e2 : r.kind = 2
  · rw [if_pos e2] at hok ⊢
    exact hok
  rw [if_neg e2] at hok ⊢
  by_cases e8 : r.kind = 8
  · rw [if_pos e8] at hok ⊢
    simp only [Bool.and_eq_true] at hok ⊢
    refine ⟨?_, hok.2⟩
    have := hok.1
    unfold cpB at this ⊢
    rw [liB_all, diB_all] at this
    simp only [Bool.and_eq_true] at this ⊢
    exact ⟨⟨this.1.1, this.1.2.1⟩, this.2.1⟩
  rw [if_neg e8] at hok ⊢
  by_cases e34 : r.kind = 3 ∨ r.kind = 4
  · rw [if_pos e34] at hok ⊢
    rw [belB_0]
    simp only [Bool.and_eq_true] at hok ⊢
    exact ⟨⟨⟨hok.1.1.1, hok.1.1.2.1, trivial⟩, hok.1.2⟩, hok.2⟩
  rw [if_neg e34] at hok ⊢
  by_cases e567 : r.kind = 5 ∨ r.kind = 6 ∨ r.kind = 7
  · rw [if_pos e567] at hok ⊢
    rw [belB_0]
    simp only [Bool.and_eq_true] at hok ⊢
    exact ⟨⟨⟨hok.1.1.1, trivial⟩, hok.1.2⟩, hok.2⟩
  · rw [if_neg e567] at hok ⊢
    exact hok
theorem flat_congr {α : Type} {f g : α → List UInt8} : ∀ {L : List α}, (∀ x ∈ L, f x = g x) → L.flatMap f = L.flatMap g
  | [], _ => rfl
  | x :: r, h => by rw [List.flatMap_cons, List.flatMap_cons, h x (List.mem_cons_self ..), flat_congr fun y hy => h y (List.mem_cons_of_mem _ hy)]
theorem enc_lsn (r : RV) (n : Int) : encB { r with lsn := n } = encB r := by
  unfold encB tailB
  dsimp only
  have : ∀ o ∈ plc, ({ r with lsn := n } : RV).gi o = r.gi o := fun o ho => by
    simp only [plc, List.mem_cons, List.mem_nil_iff, or_false] at ho
    rcases ho with rfl | rfl | rfl | rfl | rfl | rfl | rfl | rfl | rfl | rfl | rfl | rfl | rfl <;> rfl
  have e1 : (iof r.kind).flatMap (intB { r with lsn := n }) = (iof r.kind).flatMap (intB r) := flat_congr fun o ho => by unfold intB; rw [this o (iof_plc _ o ho)]
  have e2 : (sof r.kind).flatMap (sgnB { r with lsn := n }) = (sof r.kind).flatMap (sgnB r) := flat_congr fun o ho => by unfold sgnB; rw [this o (sof_plc _ o ho)]
  rw [e1, e2]

/-- There and back, with bytes behind it. -/
theorem dec_enc {r : RV} (hc : chkN r = 0) (h64 : r.w64) (more : List UInt8) : decB (encB r ++ more) = if more = [] then ({ r with lsn := 0 }, 0) else ({}, 21) := by
  obtain ⟨h1, h8, hok⟩ := chk_kind hc
  have hd : (encB r ++ more).drop 0 = vform r.kind.toNat ++ ((iof r.kind).flatMap (intB r) ++ ((sof r.kind).flatMap (sgnB r) ++ (tailB r ++ more))) := by
    unfold encB
    simp only [List.drop_zero, List.append_assoc]
  have u := rdU_ok (M := 18446744073709551615) (by omega) (by omega) hd
  have hk : ((r.kind.toNat : Nat) : Int) = r.kind := by omega
  have d1 := drop_next hd
  have hrec := rdRec_ok hc h64 d1
  have hlen : (vform r.kind.toNat).length + ((iof r.kind).flatMap (intB r) ++ ((sof r.kind).flatMap (sgnB r) ++ tailB r)).length = (encB r).length := by
    unfold encB
    simp only [List.length_append]
  unfold decB
  simp only [u, hk]
  rw [if_neg (by omega), if_neg (by omega), hrec]
  dsimp only
  rw [Nat.zero_add, hlen]
  by_cases hm : more = []
  · subst hm
    have e : endE (encB r ++ []) ((encB r).length, 0) = 0 := by
      unfold endE
      dsimp only
      rw [List.append_nil, if_neg (by omega)]
    rw [e, if_neg (by omega), if_pos rfl, chk_lsn0 hc]
    rfl
  · have : 0 < more.length := List.length_pos_iff.2 hm
    have e : endE (encB r ++ more) ((encB r).length, 0) = 21 := by
      unfold endE
      dsimp only
      rw [if_pos ⟨rfl, by rw [List.length_append]; omega⟩]
    rw [e, if_neg hm, if_pos (by omega)]
end Go.Proofs.Ytkfdkcclojepnaa
/-! Plain laws of a record's bytes: one form, cut, length. Conditions: none. -/
set_option linter.unusedVariables false
set_option linter.unusedSimpArgs false
namespace Go.Proofs.Ytkfdkcclojepnaa
open Go Go.RowKit

theorem dec_err {bs : List UInt8} (h : (decB bs).2 ≠ 0) : (decB bs).1 = {} := by
  unfold decB at h ⊢
  dsimp only at h ⊢
  split at h
  · rename_i h1
    rw [if_pos h1]
  · rename_i h1
    rw [if_neg h1]
    split at h
    · rename_i h2
      rw [if_pos h2]
    · rename_i h2
      rw [if_neg h2]
      split at h
      · rename_i h3
        rw [if_pos h3]
      · rename_i h3
        rw [if_neg h3]
        split at h
        · rename_i h4
          rw [if_pos h4]
        · exact absurd rfl h

/-- What a reading of numbers has read. -/
theorem rdInts_one {bs : List UInt8} {M : Nat} : ∀ (l : List Nat) (s : RV × (Nat × Nat)), l.Nodup → (∀ o ∈ l, o ∈ plc) → (rdInts bs M l s).2.2 = 0 →
    s.2.2 = 0 ∧ bs.drop s.2.1 = l.flatMap (intB (rdInts bs M l s).1) ++ bs.drop (rdInts bs M l s).2.1 ∧ Left l s.1 (rdInts bs M l s).1 (rdInts bs M l s).1.gi
  | [], s, _, _, h => ⟨h, rfl, ⟨fun o ho => (by cases ho), fun o _ _ => rfl, rfl, rfl, rfl, rfl⟩⟩
  | o :: l, s, hnd, hp, h => by
    rw [rdInts] at h ⊢
    obtain ⟨h1, h2, h3⟩ := rdInts_one l _ (List.nodup_cons.1 hnd).2 (fun q hq => hp q (List.mem_cons_of_mem _ hq)) h
    dsimp only at h1 h2
    obtain ⟨h4, h5⟩ := rdU_one h1
    have hv : (rdInts bs M l (s.1.put ((rdU bs s.2 M).1 : Int) o, (rdU bs s.2 M).2)).1.gi o = ((rdU bs s.2 M).1 : Int) := by
      rw [h3.old o (hp o (List.mem_cons_self ..)) (List.nodup_cons.1 hnd).1, gi_put_same (hp o (List.mem_cons_self ..))]
    refine ⟨h4, ?_, h3.cons (hp o (List.mem_cons_self ..)) (fun q hq => hp q (List.mem_cons_of_mem _ hq)) (List.nodup_cons.1 hnd).1 hv.symm⟩
    rw [h5, h2, List.flatMap_cons, List.append_assoc]
    congr 1
    unfold intB
    rw [hv, Int.toNat_natCast]
theorem rdSgn_one {bs : List UInt8} : ∀ (l : List Nat) (s : RV × (Nat × Nat)), l.Nodup → (∀ o ∈ l, o ∈ plc) → (rdSgn bs l s).2.2 = 0 →
    s.2.2 = 0 ∧ bs.drop s.2.1 = l.flatMap (sgnB (rdSgn bs l s).1) ++ bs.drop (rdSgn bs l s).2.1 ∧ Left l s.1 (rdSgn bs l s).1 (rdSgn bs l s).1.gi ∧ ∀ o ∈ l, i64 ((rdSgn bs l s).1.gi o)
  | [], s, _, _, h => ⟨h, rfl, ⟨fun o ho => (by cases ho), fun o _ _ => rfl, rfl, rfl, rfl, rfl⟩, fun o ho => (by cases ho)⟩
  | o :: l, s, hnd, hp, h => by
    rw [rdSgn] at h ⊢
    obtain ⟨h1, h2, h3, h6⟩ := rdSgn_one l _ (List.nodup_cons.1 hnd).2 (fun q hq => hp q (List.mem_cons_of_mem _ hq)) h
    dsimp only at h1 h2
    obtain ⟨h4, h5⟩ := rdU_one h1
    have hv : (rdSgn bs l (s.1.put (unzig (rdU bs s.2 18446744073709551615).1) o, (rdU bs s.2 18446744073709551615).2)).1.gi o = unzig (rdU bs s.2 18446744073709551615).1 := by
      rw [h3.old o (hp o (List.mem_cons_self ..)) (List.nodup_cons.1 hnd).1, gi_put_same (hp o (List.mem_cons_self ..))]
    refine ⟨h4, ?_, h3.cons (hp o (List.mem_cons_self ..)) (fun q hq => hp q (List.mem_cons_of_mem _ hq)) (List.nodup_cons.1 hnd).1 hv.symm, fun q hq => ?_⟩
    · rw [h5, h2, List.flatMap_cons, List.append_assoc]
      congr 1
      unfold sgnB
      rw [hv, zig_unzig]
    · rcases List.mem_cons.1 hq with rfl | hq
      · rw [hv]
        exact unzig_bd (rdU_lt _ _ _)
      · exact h6 q hq
theorem rdL1_one {bs : List UInt8} {st : Nat × Nat} (h : (rdL1 bs st).2.2 = 0) : st.2 = 0 ∧ bs.drop st.1 = lvB (rdL1 bs st).1 ++ bs.drop (rdL1 bs st).2.1 := by
  unfold rdL1 at h ⊢
  dsimp only at h ⊢
  obtain ⟨h1, e1⟩ := rdU_one h
  obtain ⟨h2, e2⟩ := rdU_one h1
  obtain ⟨h3, e3⟩ := rdU_one h2
  refine ⟨h3, ?_⟩
  rw [e3, e2, e1]
  unfold lvB
  dsimp only
  have hle := rdU_le bs (rdU bs (rdU bs st 2147483647).2 2147483647).2 2
  have hst : stN ⟨((rdU bs st 2147483647).1 : Int), ((rdU bs (rdU bs st 2147483647).2 2147483647).1 : Int), ((rdU bs (rdU bs (rdU bs st 2147483647).2 2147483647).2 2).1 : Int) == 1, ((rdU bs (rdU bs (rdU bs st 2147483647).2 2147483647).2 2).1 : Int) == 2⟩ = (rdU bs (rdU bs (rdU bs st 2147483647).2 2147483647).2 2).1 := by
    unfold stN
    dsimp only
    generalize (rdU bs (rdU bs (rdU bs st 2147483647).2 2147483647).2 2).1 = v at *
    have : v = 0 ∨ v = 1 ∨ v = 2 := by omega
    rcases this with rfl | rfl | rfl <;> rfl
  rw [hst, Int.toNat_natCast, Int.toNat_natCast]
  simp only [List.append_assoc]
theorem rdD1_one {bs : List UInt8} {st : Nat × Nat} (h : (rdD1 bs st).2.2 = 0) : st.2 = 0 ∧ bs.drop st.1 = dvB (rdD1 bs st).1 ++ bs.drop (rdD1 bs st).2.1 := by
  unfold rdD1 at h ⊢
  dsimp only at h ⊢
  obtain ⟨h1, e1⟩ := rdU_one h
  obtain ⟨h2, e2⟩ := rdU_one h1
  refine ⟨h2, ?_⟩
  rw [e2, e1]
  unfold dvB
  dsimp only
  rw [Int.toNat_natCast, Int.toNat_natCast]
  simp only [List.append_assoc]
theorem rdLive_one {bs : List UInt8} : ∀ (n : Nat) (A : List LV) (st : Nat × Nat), (rdLive bs n (A, st)).2.2 = 0 → st.2 = 0 ∧ ∃ L, (rdLive bs n (A, st)).1 = A ++ L ∧ L.length = n ∧ bs.drop st.1 = L.flatMap lvB ++ bs.drop (rdLive bs n (A, st)).2.1
  | 0, A, st, h => ⟨h, [], by simp [rdLive], rfl, rfl⟩
  | n + 1, A, st, h => by
    rw [rdLive] at h ⊢
    dsimp only at h ⊢
    obtain ⟨h1, L, h2, h3, h4⟩ := rdLive_one n _ _ h
    obtain ⟨h5, h6⟩ := rdL1_one h1
    refine ⟨h5, (rdL1 bs st).1 :: L, by rw [h2, List.append_assoc]; rfl, by simp [h3], ?_⟩
    rw [h6, h4, List.flatMap_cons, List.append_assoc]
theorem rdDirty_one {bs : List UInt8} : ∀ (n : Nat) (A : List DV) (st : Nat × Nat), (rdDirty bs n (A, st)).2.2 = 0 → st.2 = 0 ∧ ∃ D, (rdDirty bs n (A, st)).1 = A ++ D ∧ D.length = n ∧ bs.drop st.1 = D.flatMap dvB ++ bs.drop (rdDirty bs n (A, st)).2.1
  | 0, A, st, h => ⟨h, [], by simp [rdDirty], rfl, rfl⟩
  | n + 1, A, st, h => by
    rw [rdDirty] at h ⊢
    dsimp only at h ⊢
    obtain ⟨h1, L, h2, h3, h4⟩ := rdDirty_one n _ _ h
    obtain ⟨h5, h6⟩ := rdD1_one h1
    refine ⟨h5, (rdD1 bs st).1 :: L, by rw [h2, List.append_assoc]; rfl, by simp [h3], ?_⟩
    rw [h6, h4, List.flatMap_cons, List.append_assoc]

theorem rdRec_one {bs : List UInt8} {k : Int} {st : Nat × Nat} (h : (rdRec bs k st).2.2 = 0) : st.2 = 0 ∧ (rdRec bs k st).1.kind = k ∧ (rdRec bs k st).1.lsn = 0 ∧ (∀ o ∈ sof k, i64 ((rdRec bs k st).1.gi o)) ∧
    bs.drop st.1 = (iof k).flatMap (intB (rdRec bs k st).1) ++ ((sof k).flatMap (sgnB (rdRec bs k st).1) ++ (tailB (rdRec bs k st).1 ++ bs.drop (rdRec bs k st).2.1)) := by
  unfold rdRec at h ⊢
  generalize hA : rdInts bs (mst k) (iof k) ({ kind := k }, st) = A at h ⊢
  generalize hB : rdSgn bs (sof k) A = B at h ⊢
  have fin : B.2.2 = 0 → st.2 = 0 ∧ B.1.kind = k ∧ B.1.lsn = 0 ∧ B.1.live = [] ∧ B.1.dirty = [] ∧ (∀ o ∈ sof k, i64 (B.1.gi o)) ∧ bs.drop st.1 = (iof k).flatMap (intB B.1) ++ ((sof k).flatMap (sgnB B.1) ++ bs.drop B.2.1) := fun hz => by
    rw [← hB] at hz
    obtain ⟨j1, j2, j3, j4⟩ := rdSgn_one (sof k) A (sof_nodup k) (sof_plc k) hz
    rw [← hA] at j1
    obtain ⟨i1, i2, i3⟩ := rdInts_one (iof k) ({ kind := k }, st) (iof_nodup k) (iof_plc k) j1
    rw [hA] at i2 i3
    rw [hB] at j2 j3 j4
    refine ⟨i1, j3.k.1.trans i3.k.1, j3.k.2.2.2.trans i3.k.2.2.2, j3.k.2.1.trans i3.k.2.1, j3.k.2.2.1.trans i3.k.2.2.1, j4, ?_⟩
    dsimp only at i2
    rw [i2, j2]
    congr 1
    exact flat_congr fun o ho => by
      unfold intB
      rw [j3.old o (iof_plc k o ho) (iof_sof k o ho)]
  unfold rdTail at h ⊢
  by_cases e8 : B.1.kind = 8
  · rw [if_pos e8] at h ⊢
    unfold rdCp at h ⊢
    dsimp only at h ⊢
    obtain ⟨d1, D, d2, d3, d4⟩ := rdDirty_one _ _ _ h
    obtain ⟨u1, u2⟩ := rdU_one d1
    obtain ⟨l1, L, l2, l3, l4⟩ := rdLive_one _ _ _ u1
    obtain ⟨v1, v2⟩ := rdU_one l1
    obtain ⟨a1, a2, a3, a4, a5, a6, a7⟩ := fin v1
    have l2 := l2.trans (by rw [a4, List.nil_append] : B.1.live ++ L = L)
    have d2 := d2.trans (by rw [a5, List.nil_append] : B.1.dirty ++ D = D)
    have gl : ∀ (L : List LV) (D : List DV), ∀ o ∈ plc, ({ B.1 with live := L, dirty := D } : RV).gi o = B.1.gi o := fun L D o ho => by
      simp only [plc, List.mem_cons, List.mem_nil_iff, or_false] at ho
      rcases ho with rfl | rfl | rfl | rfl | rfl | rfl | rfl | rfl | rfl | rfl | rfl | rfl | rfl <;> rfl
    refine ⟨a1, a2, a3, fun o ho => by rw [gl _ _ o (sof_plc k o ho)]; exact a6 o ho, ?_⟩
    have eI : ∀ L D, (iof k).flatMap (intB { B.1 with live := L, dirty := D }) = (iof k).flatMap (intB B.1) := fun L D => flat_congr fun o ho => by unfold intB; rw [gl _ _ o (iof_plc k o ho)]
    have eS : ∀ L D, (sof k).flatMap (sgnB { B.1 with live := L, dirty := D }) = (sof k).flatMap (sgnB B.1) := fun L D => flat_congr fun o ho => by unfold sgnB; rw [gl _ _ o (sof_plc k o ho)]
    have eT : ∀ L D, tailB { B.1 with live := L, dirty := D } = vform L.length ++ (L.flatMap lvB ++ (vform D.length ++ D.flatMap dvB)) := fun L D => by
      unfold tailB
      rw [if_pos (by exact e8)]
    rw [eI, eS, eT, l2, d2, l3, d3, a7, v2, l4, u2, d4]
    simp only [List.append_assoc]
  · rw [if_neg e8] at h ⊢
    obtain ⟨a1, a2, a3, a4, a5, a6, a7⟩ := fin h
    refine ⟨a1, a2, a3, a6, ?_⟩
    have : tailB B.1 = [] := by unfold tailB; rw [if_neg e8]
    rw [this]
    exact a7

/-- Where bytes are a record's, they are its bytes. -/
theorem dec_one {bs : List UInt8} (h : (decB bs).2 = 0) : chkN (decB bs).1 = 0 ∧ (decB bs).1.lsn = 0 ∧ (decB bs).1.w64 ∧ encB (decB bs).1 = bs := by
  unfold decB at h ⊢
  dsimp only at h ⊢
  split at h
  · rename_i h1
    exact absurd h h1
  rename_i h1
  rw [if_neg h1]
  split at h
  · cases h
  rename_i h2
  rw [if_neg h2]
  split at h
  · rename_i h3
    exact absurd h h3
  rename_i h3
  rw [if_neg h3]
  split at h
  · rename_i h4
    exact absurd h h4
  rename_i h4
  rw [if_neg h4]
  dsimp only
  have he : endE bs (rdRec bs ((rdU bs (0, 0) 18446744073709551615).1 : Int) (rdU bs (0, 0) 18446744073709551615).2).2 = 0 := Decidable.not_not.1 h3
  have hc : chkN (rdRec bs ((rdU bs (0, 0) 18446744073709551615).1 : Int) (rdU bs (0, 0) 18446744073709551615).2).1 = 0 := Decidable.not_not.1 h4
  obtain ⟨u1, u2⟩ := rdU_one (Decidable.not_not.1 h1)
  generalize rdU bs (0, 0) 18446744073709551615 = a at *
  have hz : (rdRec bs (a.1 : Int) a.2).2.2 = 0 ∧ bs.length ≤ (rdRec bs (a.1 : Int) a.2).2.1 := by
    unfold endE at he
    split at he
    · cases he
    · rename_i hh
      exact ⟨he, by omega⟩
  obtain ⟨r1, r2, r3, r4, r5⟩ := rdRec_one hz.1
  generalize hx : rdRec bs (a.1 : Int) a.2 = x at *
  refine ⟨hc, r3, ?_, ?_⟩
  · obtain ⟨k1, k8, hok⟩ := chk_kind hc
    obtain ⟨hzz, _⟩ := ok_zero hok k1 k8
    rw [r2] at hzz
    have get : ∀ o, o ∈ plc → o ∉ iof (a.1 : Int) → i64 (x.1.gi o) := fun o ho hi => by
      by_cases hs : o ∈ sof (a.1 : Int)
      · exact r4 o hs
      · rw [hzz o ho hi hs]
        unfold i64
        omega
    have ni : ∀ o, o = 8 ∨ o = 11 ∨ o = 12 ∨ o = 13 → o ∉ iof (a.1 : Int) := fun o ho => by
      unfold iof
      rcases ho with rfl | rfl | rfl | rfl <;> (repeat' (split <;> try decide))
    exact ⟨get 8 (by decide) (ni 8 (by simp)), get 11 (by decide) (ni 11 (by simp)), get 12 (by decide) (ni 12 (by simp)), get 13 (by decide) (ni 13 (by simp))⟩
  · unfold encB
    rw [r2, Int.toNat_natCast]
    rw [List.drop_eq_nil_of_le hz.2, List.append_nil] at r5
    rw [← r5, ← u2, List.drop_zero]
end Go.Proofs.Ytkfdkcclojepnaa
/-! Plain laws of a record's bytes: cut anywhere; their length. Conditions: none. -/
set_option linter.unusedVariables false
set_option linter.unusedSimpArgs false
namespace Go.Proofs.Ytkfdkcclojepnaa
open Go Go.RowKit

theorem hi_all : ∀ (l : List UInt8) (j : Nat), hiRun l = l.length → j ≤ l.length → hiRun (l.take j) = j
  | [], j, _, h => by simp at h; subst h; rfl
  | c :: r, 0, _, _ => rfl
  | c :: r, j + 1, h, hj => by
    have hc : 128 ≤ c.toNat := by
      refine Decidable.by_contra fun hn => ?_
      rw [hiRun, if_neg hn] at h
      simp at h
    rw [hiRun, if_pos hc, List.length_cons] at h
    rw [List.take_succ_cons, hiRun, if_pos hc, hi_all r j (by omega) (by simpa using hj)]
theorem parse_pre {m j : Nat} (h : m < 18446744073709551616) (hj : j < (vform m).length) : parse ((vform m).take j) = (0, 0, 20) := by
  have hc := hiRun_cut m m (Nat.le_refl _)
  have hl := vform_len64 h
  have e : (vform m).take j = ((vform m).take ((vform m).length - 1)).take j := by rw [List.take_take, Nat.min_eq_left (by omega)]
  have hr : hiRun ((vform m).take j) = j := by
    rw [e]
    exact hi_all _ j (by rw [hc, List.length_take]; omega) (by rw [List.length_take]; omega)
  have hlen : ((vform m).take j).length = j := by rw [List.length_take]; omega
  unfold parse
  rw [if_neg (by omega), if_pos (by omega)]

/-- A reading of cut bytes beside that of all: the same so far, or short. -/
def CR {α : Type} (k : Nat) (s s' : α × (Nat × Nat)) : Prop := (s' = s ∧ s.2.1 ≤ k) ∨ s'.2.2 = 20
theorem rdU_cr {bs : List UInt8} {k M : Nat} {st st' : Nat × Nat} (h : (st' = st ∧ st.1 ≤ k) ∨ st'.2 = 20) (hz : (rdU bs st M).2.2 = 0) (hk : k ≤ bs.length) : CR k (rdU bs st M) (rdU (bs.take k) st' M) := by
  rcases h with ⟨rfl, hat⟩ | h
  · obtain ⟨h0, hd⟩ := rdU_one hz
    have hlt := rdU_lt bs st' M
    have hle := rdU_le bs st' M
    obtain ⟨at_, e⟩ := st'
    dsimp only at h0 hat hd
    subst h0
    generalize hu : rdU bs (at_, 0) M = u at *
    obtain ⟨v, at', e'⟩ := u
    dsimp only at hz hd hlt hle
    subst hz
    have hu2 := rdU_ok hlt hle hd
    rw [hu] at hu2
    have hat' : at' = at_ + (vform v).length := by
      have := congrArg (fun x => x.2.1) hu2
      exact this
    have hdk : (bs.take k).drop at_ = (vform v ++ bs.drop at').take (k - at_) := by rw [List.drop_take, hd]
    by_cases hc : (vform v).length ≤ k - at_
    · left
      have hd2 : (bs.take k).drop at_ = vform v ++ (bs.drop at').take (k - at_ - (vform v).length) := by rw [hdk, List.take_append, List.take_of_length_le hc]
      have := rdU_ok hlt hle hd2
      rw [this, hat']
      exact ⟨rfl, by dsimp only; omega⟩
    · right
      have hd2 : (bs.take k).drop at_ = (vform v).take (k - at_) := by rw [hdk, List.take_append_of_le_length (by omega)]
      unfold rdU
      rw [if_pos rfl]
      dsimp only
      rw [hd2, parse_pre hlt (by omega)]
      rfl
  · right
    rw [rdU_fault (by omega)]
    exact h
theorem CR.st {α : Type} {k : Nat} {s s' : α × (Nat × Nat)} (h : CR k s s') : (s'.2 = s.2 ∧ s.2.1 ≤ k) ∨ s'.2.2 = 20 := by
  rcases h with ⟨h, h'⟩ | h
  · exact .inl ⟨by rw [h], h'⟩
  · exact .inr h
theorem rdInts_cr {bs : List UInt8} {k M : Nat} (hk : k ≤ bs.length) : ∀ (l : List Nat) (s s' : RV × (Nat × Nat)), l.Nodup → (∀ o ∈ l, o ∈ plc) → CR k s s' → (rdInts bs M l s).2.2 = 0 → CR k (rdInts bs M l s) (rdInts (bs.take k) M l s')
  | [], s, s', _, _, h, _ => h
  | o :: l, s, s', hnd, hp, h, hz => by
    rw [rdInts] at hz ⊢
    rw [rdInts]
    have h1 := (rdInts_one l _ (List.nodup_cons.1 hnd).2 (fun q hq => hp q (List.mem_cons_of_mem _ hq)) hz).1
    refine rdInts_cr hk l _ _ (List.nodup_cons.1 hnd).2 (fun q hq => hp q (List.mem_cons_of_mem _ hq)) ?_ hz
    have hu := rdU_cr h.st h1 hk
    rcases h with ⟨rfl, hs⟩ | h
    · rcases hu with ⟨hu, hu'⟩ | hu
      · left
        rw [hu]
        exact ⟨rfl, hu'⟩
      · right
        exact hu
    · right
      dsimp only
      rw [rdU_fault (by omega)]
      exact h
theorem rdSgn_cr {bs : List UInt8} {k : Nat} (hk : k ≤ bs.length) : ∀ (l : List Nat) (s s' : RV × (Nat × Nat)), l.Nodup → (∀ o ∈ l, o ∈ plc) → CR k s s' → (rdSgn bs l s).2.2 = 0 → CR k (rdSgn bs l s) (rdSgn (bs.take k) l s')
  | [], s, s', _, _, h, _ => h
  | o :: l, s, s', hnd, hp, h, hz => by
    rw [rdSgn] at hz ⊢
    rw [rdSgn]
    have h1 := (rdSgn_one l _ (List.nodup_cons.1 hnd).2 (fun q hq => hp q (List.mem_cons_of_mem _ hq)) hz).1
    refine rdSgn_cr hk l _ _ (List.nodup_cons.1 hnd).2 (fun q hq => hp q (List.mem_cons_of_mem _ hq)) ?_ hz
    have hu := rdU_cr h.st h1 hk
    rcases h with ⟨rfl, hs⟩ | h
    · rcases hu with ⟨hu, hu'⟩ | hu
      · left
        rw [hu]
        exact ⟨rfl, hu'⟩
      · right
        exact hu
    · right
      dsimp only
      rw [rdU_fault (by omega)]
      exact h
theorem rdL1_cr {bs : List UInt8} {k : Nat} (hk : k ≤ bs.length) {st st' : Nat × Nat} (h : (st' = st ∧ st.1 ≤ k) ∨ st'.2 = 20) (hz : (rdL1 bs st).2.2 = 0) : CR k (rdL1 bs st) (rdL1 (bs.take k) st') := by
  unfold rdL1 at hz ⊢
  dsimp only at hz ⊢
  have z2 := (rdU_one hz).1
  have z1 := (rdU_one z2).1
  have c1 := rdU_cr h z1 hk
  have c2 := rdU_cr c1.st z2 hk
  have c3 := rdU_cr c2.st hz hk
  rcases c3 with ⟨e3, l3⟩ | c3
  · rcases c2 with ⟨e2, l2⟩ | c2
    · rcases c1 with ⟨e1, l1⟩ | c1
      · left
        rw [e3, e2, e1]
        exact ⟨rfl, l3⟩
      · right
        rw [rdU_fault (bs := bs.take k) (st := (rdU (bs.take k) st' 2147483647).2) (by omega)]
        dsimp only
        rw [rdU_fault (by omega)]
        exact c1
    · right
      rw [rdU_fault (bs := bs.take k) (st := (rdU (bs.take k) (rdU (bs.take k) st' 2147483647).2 2147483647).2) (by omega)]
      exact c2
  · exact .inr c3
theorem rdD1_cr {bs : List UInt8} {k : Nat} (hk : k ≤ bs.length) {st st' : Nat × Nat} (h : (st' = st ∧ st.1 ≤ k) ∨ st'.2 = 20) (hz : (rdD1 bs st).2.2 = 0) : CR k (rdD1 bs st) (rdD1 (bs.take k) st') := by
  unfold rdD1 at hz ⊢
  dsimp only at hz ⊢
  have z1 := (rdU_one hz).1
  have c1 := rdU_cr h z1 hk
  have c2 := rdU_cr c1.st hz hk
  rcases c2 with ⟨e2, l2⟩ | c2
  · rcases c1 with ⟨e1, l1⟩ | c1
    · left
      rw [e2, e1]
      exact ⟨rfl, l2⟩
    · right
      rw [rdU_fault (bs := bs.take k) (st := (rdU (bs.take k) st' 2147483647).2) (by omega)]
      exact c1
  · exact .inr c2
theorem rdLive_cr {bs : List UInt8} {k : Nat} (hk : k ≤ bs.length) : ∀ (n : Nat) (s s' : List LV × (Nat × Nat)), CR k s s' → (rdLive bs n s).2.2 = 0 → CR k (rdLive bs n s) (rdLive (bs.take k) n s')
  | 0, s, s', h, _ => h
  | n + 1, s, s', h, hz => by
    rw [rdLive] at hz ⊢
    rw [rdLive]
    have h1 := (rdLive_one n _ _ hz).1
    refine rdLive_cr hk n _ _ ?_ hz
    have hu := rdL1_cr hk h.st h1
    rcases h with ⟨rfl, hs⟩ | h
    · rcases hu with ⟨hu, hu'⟩ | hu
      · left
        rw [hu]
        exact ⟨rfl, hu'⟩
      · exact .inr hu
    · right
      dsimp only
      rw [rdL1_fault (by omega)]
      exact h
theorem rdDirty_cr {bs : List UInt8} {k : Nat} (hk : k ≤ bs.length) : ∀ (n : Nat) (s s' : List DV × (Nat × Nat)), CR k s s' → (rdDirty bs n s).2.2 = 0 → CR k (rdDirty bs n s) (rdDirty (bs.take k) n s')
  | 0, s, s', h, _ => h
  | n + 1, s, s', h, hz => by
    rw [rdDirty] at hz ⊢
    rw [rdDirty]
    have h1 := (rdDirty_one n _ _ hz).1
    refine rdDirty_cr hk n _ _ ?_ hz
    have hu := rdD1_cr hk h.st h1
    rcases h with ⟨rfl, hs⟩ | h
    · rcases hu with ⟨hu, hu'⟩ | hu
      · left
        rw [hu]
        exact ⟨rfl, hu'⟩
      · exact .inr hu
    · right
      dsimp only
      rw [rdD1_fault (by omega)]
      exact h
theorem rdCp_cr {bs : List UInt8} {k : Nat} (hk : k ≤ bs.length) {s s' : RV × (Nat × Nat)} (h : CR k s s') (hz : (rdCp bs s).2.2 = 0) : CR k (rdCp bs s) (rdCp (bs.take k) s') := by
  unfold rdCp at hz ⊢
  dsimp only at hz ⊢
  have z4 := (rdDirty_one _ _ _ hz).1
  have z3 := (rdU_one z4).1
  have z2 := (rdLive_one _ _ _ z3).1
  have c1 := rdU_cr h.st z2 hk
  rcases h with ⟨rfl, hs⟩ | h
  · rcases c1 with ⟨e1, l1⟩ | c1
    · rw [e1]
      have c2 : CR k (rdLive bs (rdU bs s'.2 32).1 (s'.1.live, (rdU bs s'.2 32).2)) (rdLive (bs.take k) (rdU bs s'.2 32).1 (s'.1.live, (rdU bs s'.2 32).2)) := rdLive_cr hk _ _ _ (.inl ⟨rfl, l1⟩) z3
      have c3 := rdU_cr c2.st z4 hk
      rcases c2 with ⟨e2, l2⟩ | c2
      · rw [e2] at c3 ⊢
        rcases c3 with ⟨e3, l3⟩ | c3
        · rw [e3]
          have c4 := rdDirty_cr hk _ _ _ (.inl ⟨rfl, l3⟩) hz
          rcases c4 with ⟨e4, l4⟩ | c4
          · left
            rw [e4]
            exact ⟨rfl, l4⟩
          · exact .inr c4
        · right
          rw [rdDirty_fault _ (by omega)]
          exact c3
      · right
        have f2 : (rdLive (bs.take k) (rdU bs s'.2 32).1 (s'.1.live, (rdU bs s'.2 32).2)).2.2 ≠ 0 := by omega
        rw [rdU_fault f2, rdDirty_fault _ f2]
        exact c2
    · right
      have f := rdLive_fault (bs := bs.take k) (rdU (bs.take k) s'.2 32).1 (L := s'.1.live) (st := (rdU (bs.take k) s'.2 32).2) (by omega)
      have f2 : (rdLive (bs.take k) (rdU (bs.take k) s'.2 32).1 (s'.1.live, (rdU (bs.take k) s'.2 32).2)).2.2 ≠ 0 := by rw [f]; omega
      rw [rdU_fault f2, rdDirty_fault _ f2, f]
      exact c1
  · right
    have f0 : rdU (bs.take k) s'.2 32 = (0, s'.2) := rdU_fault (by omega)
    rw [f0]
    have f2 : (rdLive (bs.take k) 0 (s'.1.live, s'.2)).2.2 ≠ 0 := by rw [rdLive]; dsimp only; omega
    rw [rdU_fault f2, rdDirty_fault _ f2, rdLive]
    exact h

theorem rdRec_cr {bs : List UInt8} {n : Nat} {k : Int} (hn : n ≤ bs.length) {st st' : Nat × Nat} (h : (st' = st ∧ st.1 ≤ n) ∨ st'.2 = 20) (hz : (rdRec bs k st).2.2 = 0) : CR n (rdRec bs k st) (rdRec (bs.take n) k st') := by
  unfold rdRec at hz ⊢
  have h0 : CR n (({ kind := k } : RV), st) (({ kind := k } : RV), st') := by
    rcases h with ⟨rfl, h⟩ | h
    · exact .inl ⟨rfl, h⟩
    · exact .inr h
  have tz : ∀ s : RV × (Nat × Nat), (rdTail bs s).2.2 = 0 → s.2.2 = 0 := fun s hs => by
    unfold rdTail at hs
    split at hs
    · unfold rdCp at hs
      dsimp only at hs
      exact (rdU_one (rdLive_one _ _ _ (rdU_one (rdDirty_one _ _ _ hs).1).1).1).1
    · exact hs
  have z2 := tz _ hz
  have z1 := (rdSgn_one (sof k) _ (sof_nodup k) (sof_plc k) z2).1
  have c1 := rdInts_cr hn (iof k) _ _ (iof_nodup k) (iof_plc k) h0 z1
  have c2 := rdSgn_cr hn (sof k) _ _ (sof_nodup k) (sof_plc k) c1 z2
  generalize rdSgn bs (sof k) (rdInts bs (mst k) (iof k) ({ kind := k }, st)) = A at *
  generalize rdSgn (bs.take n) (sof k) (rdInts (bs.take n) (mst k) (iof k) ({ kind := k }, st')) = B at *
  have kB : B.2.2 = 20 → (rdTail (bs.take n) B).2.2 = 20 := fun hb => by
    unfold rdTail
    split
    · unfold rdCp
      dsimp only
      have f0 : rdU (bs.take n) B.2 32 = (0, B.2) := rdU_fault (by omega)
      rw [f0]
      have f2 : (rdLive (bs.take n) 0 (B.1.live, B.2)).2.2 ≠ 0 := by rw [rdLive]; dsimp only; omega
      rw [rdU_fault f2, rdDirty_fault _ f2, rdLive]
      exact hb
    · exact hb
  rcases c2 with ⟨rfl, l2⟩ | c2
  · unfold rdTail at hz ⊢
    split
    · rename_i e8
      rw [if_pos e8] at hz
      exact rdCp_cr hn (.inl ⟨rfl, l2⟩) hz
    · exact .inl ⟨rfl, l2⟩
  · exact .inr (kB c2)

/-- Cut anywhere: short. -/
theorem dec_cut {r : RV} (hc : chkN r = 0) (h64 : r.w64) {n : Nat} (hn : n < (encB r).length) : decB ((encB r).take n) = ({}, 20) := by
  obtain ⟨h1, h8, hok⟩ := chk_kind hc
  have hd : (encB r).drop 0 = vform r.kind.toNat ++ ((iof r.kind).flatMap (intB r) ++ ((sof r.kind).flatMap (sgnB r) ++ (tailB r ++ []))) := by
    unfold encB
    simp only [List.drop_zero, List.append_assoc, List.append_nil]
  have u := rdU_ok (M := 18446744073709551615) (by omega) (by omega) hd
  have hk : ((r.kind.toNat : Nat) : Int) = r.kind := by omega
  have hrec := rdRec_ok hc h64 (drop_next hd)
  have hlen : (vform r.kind.toNat).length + ((iof r.kind).flatMap (intB r) ++ ((sof r.kind).flatMap (sgnB r) ++ tailB r)).length = (encB r).length := by
    unfold encB
    simp only [List.length_append]
  have hu : CR n (rdU (encB r) (0, 0) 18446744073709551615) (rdU ((encB r).take n) (0, 0) 18446744073709551615) := rdU_cr (.inl ⟨rfl, Nat.zero_le _⟩) (by rw [u]) (by omega)
  unfold decB
  dsimp only
  rcases hu with ⟨e1, l1⟩ | hu
  · rw [u] at e1 l1
    have hcr := rdRec_cr (k := r.kind) (n := n) (bs := encB r) (by omega) (.inl ⟨rfl, l1⟩) (by dsimp only; rw [hrec])
    dsimp only at hcr l1
    rw [hrec] at hcr
    rw [e1]
    dsimp only
    rw [if_neg (by omega), if_neg (by omega), hk]
    rcases hcr with ⟨_, l2⟩ | hcr
    · dsimp only at l2
      omega
    · generalize rdRec ((encB r).take n) r.kind (0 + (vform r.kind.toNat).length, 0) = x at *
      have e : endE ((encB r).take n) x.2 = 20 := by
        unfold endE
        rw [if_neg (by omega)]
        exact hcr
      rw [e, if_pos (by omega)]
  · rw [if_pos (by omega), hu]

theorem vlen_of {n k : Nat} (h : n < 128 ^ (k + 1)) : (vform n).length ≤ k + 1 := vform_len n k h
theorem flat_len_pos {α : Type} {f : α → List UInt8} (h : ∀ x, 0 < (f x).length) : ∀ (L : List α), L.length ≤ (L.flatMap f).length
  | [] => by simp
  | x :: r => by
    have := flat_len_pos h r
    have h1 := h x
    rw [List.flatMap_cons, List.length_append, List.length_cons]
    omega
/-- How long a record's bytes are. -/
theorem enc_len {r : RV} (hc : chkN r = 0) (h64 : r.w64) : 2 ≤ (encB r).length ∧ (encB r).length ≤ 502 := by
  obtain ⟨h1, h8, hok⟩ := chk_kind hc
  have hints := ok_ints hc
  have hsg := sgn_64 h64
  have hk := vlen_of (n := r.kind.toNat) (k := 0) (by omega)
  have hkp := vform_pos r.kind.toNat
  have hi := flat_len (f := intB r) (n := 5) (L := iof r.kind) fun o ho => vlen_of (k := 4) (by have := hints o ho; omega)
  have hip := flat_len_pos (f := intB r) (fun o => vform_pos _) (iof r.kind)
  have hs := flat_len (f := sgnB r) (n := 10) (L := sof r.kind) fun o ho => vform_len64 (zig_lt (hsg o ho).1 (hsg o ho).2)
  have hil : 1 ≤ (iof r.kind).length := by
    unfold iof
    repeat' (split <;> try decide)
  have hi7 := iof_len r.kind
  have hs3 := sof_len r.kind
  have ht : (tailB r).length ≤ 350 + 100 := by
    unfold tailB
    split
    · rename_i e8
      obtain ⟨hl, hd, hL, hD⟩ := ok_lists hc e8
      have a1 := vlen_of (n := r.live.length) (k := 0) (by omega)
      have a2 := vlen_of (n := r.dirty.length) (k := 0) (by omega)
      have a3 := flat_len (f := lvB) (n := 11) (L := r.live) fun x hx => by
        have hh := hL x hx
        have b1 := vlen_of (n := x.tx.toNat) (k := 4) (by omega)
        have b2 := vlen_of (n := x.last.toNat) (k := 4) (by omega)
        have b3 := vlen_of (n := stN x) (k := 0) (by unfold stN; split <;> (try split) <;> omega)
        unfold lvB
        simp only [List.length_append]
        omega
      have a4 := flat_len (f := dvB) (n := 6) (L := r.dirty) fun x hx => by
        have hh := hD x hx
        have b1 := vlen_of (n := x.page.toNat) (k := 0) (by omega)
        have b2 := vlen_of (n := x.since.toNat) (k := 4) (by omega)
        unfold dvB
        simp only [List.length_append]
        omega
      simp only [List.length_append]
      omega
    · simp
  have hI : (iof r.kind).length ≤ 1 ∨ tailB r = [] := by
    by_cases e8 : r.kind = 8
    · left
      unfold iof
      rw [if_neg (by omega), if_pos e8]
      simp
    · right
      unfold tailB
      rw [if_neg e8]
  have hS : sof r.kind = [] ∨ tailB r = [] := by
    by_cases e8 : r.kind = 8
    · left
      unfold sof
      rw [if_neg (by omega), if_neg (by omega)]
    · right
      unfold tailB
      rw [if_neg e8]
  unfold encB
  simp only [List.length_append]
  have hS' : (sof r.kind).length = 0 ∨ (tailB r).length = 0 := hS.imp (fun h => by rw [h]; rfl) (fun h => by rw [h]; rfl)
  have hI' : (iof r.kind).length ≤ 1 ∨ (tailB r).length = 0 := hI.imp id (fun h => by rw [h]; rfl)
  omega
end Go.Proofs.Ytkfdkcclojepnaa
