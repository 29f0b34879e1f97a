/- Contracts of the package field: Clone, the writer. Each says, of any memory in which the objects stand as told, what the call answers and what it leaves. Conditions: lengths below 2^46. -/
import Derived.Test.YtplfoedgekdjgaaDoorNum
import Derived.Test.YtplfoedgekdjgaaDoorG
namespace Go.Proofs.YtplfoedgekdjgaaDoor
open Go Go.RowKit

theorem elemRow {P : Program} {t e : TypeId} {z : Value} {s b : Nat} (ht : P.underlying t = some (.slice e)) (h : (P.info? e).map (fun i => (i.zero, i.size, i.bytes)) = some (some z, s, b)) (hz : z.cells.size = s) : ElemRow P t e z s b := by
  obtain ⟨i, hi, h1, h2, h3⟩ := info_parts h
  exact ⟨ht, i, hi, h1, h2, h3, hz⟩

theorem er_u8 : ElemRow Tryd.prog T_s_uint8 T_uint8 (.int .u8 0) 1 1 := elemRow (by kernel_rfl) (by kernel_rfl) rfl

theorem bvs_len (l : List UInt8) : (bvs l).length = l.length := by simp [bvs]
theorem bvs_app (l r : List UInt8) : bvs (l ++ r) = bvs l ++ bvs r := by simp [bvs]

/-- slices.Clone of bytes. -/
theorem clone_c {a : Option Addr} {l c : Nat} {bs : List UInt8} {w : World} {R : Ending → World → Prop} (hr : Rd w a (bvs bs)) (hl : bs.length = l) (h0 : a = none → l = 0) (hb : l ≤ 70368744177664)
    (h : ∀ a' c' w', Sl w' T_uint8 1 a' l c' (bvs bs) → Kp no w w' → Fresh w a' → R (.returned (.slice a' l c')) w') : GoC Tryd.prog F_slices_Clone_s_byte_byte #[.slice a l c] w R := by
  refine S_slices_Clone_s_byte_byte ?_
  unfold W_slices_Clone_s_byte_byte
  refine cond_b (fun ha => ?_) (fun ha => ?_)
  · have ha' : a = none := by simpa using ha
    have hl0 := h0 ha'
    subst hl0
    have : bs = [] := List.eq_nil_of_length_eq_zero hl
    subst this
    exact h none 0 w (Sl.nil _ _ _) (Kp.refl _ _) (by rintro k ⟨ad, had, _⟩; cases had)
  · refine AlF.intro fun b w1 hbe hblk k1 _ => ?_
    have hs0 : Sl w1 T_uint8 1 (some ⟨b, 0, none⟩) 0 0 [] := ⟨by simp, Nat.le_refl _, .inr ⟨b, _, rfl, hblk, by simp, by simp⟩⟩
    refine append_own er_u8 hs0 (hr.kp0 k1) (by rw [bvs_len]; omega) (fun hn => by rw [hn] at ha; cases ha) bvs_one (by omega) (by omega) fun a' c' w' hs hk hi hroom hgrow => ?_
    simp only [Nat.zero_add, List.nil_append] at hs hroom hgrow ⊢
    refine ⟨a', l, c', rfl, h a' c' w' hs ?_ ?_⟩
    · refine k1.trans hk (fun k _ h => h) fun k hk1 hk2 => ?_
      obtain ⟨ad, had, hk2⟩ := hk2
      cases had
      simp only at hk2
      omega
    · intro k hk2
      rcases hi k hk2 with ⟨ad, had, hk3⟩ | hk3
      · cases had; simp only at hk3; omega
      · have := k1.size; omega

/-! ### The writer -/
/-- The form of a number from 0 on: groups of seven bits, the lowest first. -/
def vform (n : Nat) : List UInt8 := if n < 128 then [UInt8.ofNat n] else UInt8.ofNat (n % 128 + 128) :: vform (n / 128)
termination_by n
decreasing_by omega

theorem vform_len (n : Nat) : ∀ k, n < 128 ^ (k + 1) → (vform n).length ≤ k + 1 := by
  intro k
  induction k generalizing n with
  | zero => intro h; unfold vform; rw [if_pos (by omega)]; simp
  | succ k ih =>
    intro h
    unfold vform
    split
    · simp
    · simp only [List.length_cons]
      have := ih (n / 128) (by rw [Nat.pow_succ] at h; omega)
      omega
theorem vform_len64 {n : Nat} (h : n < 18446744073709551616) : (vform n).length ≤ 10 := vform_len n 9 (by omega)
theorem vform_pos (n : Nat) : 0 < (vform n).length := by unfold vform; split <;> simp

/-- A writer at block B, whose bytes lie at g: bs. -/
structure Wr (w : World) (B : Nat) (g : Option Addr) (bs : List UInt8) : Prop where
  ex : ∃ l c, Blk w B #[.slice g l c] T_field_Writer ∧ Sl w T_uint8 1 g l c (bvs bs)
  ap : ¬ Is g B

def fpW (B : Nat) (g : Option Addr) : Nat → Prop := fun k => k = B ∨ Is g k

theorem Wr.kp {S : Nat → Prop} {w w' : World} {B : Nat} {g : Option Addr} {bs : List UInt8} (h : Wr w B g bs) (k : Kp S w w') (hn : ∀ b, fpW B g b → ¬ S b) : Wr w' B g bs := by
  obtain ⟨⟨l, c, h1, h2⟩, h3⟩ := h
  exact ⟨⟨l, c, k.blk h1 (hn _ (.inl rfl)), h2.kp k fun b hb => hn b (.inr hb)⟩, h3⟩
theorem Wr.kp0 {w w' : World} {B : Nat} {g : Option Addr} {bs : List UInt8} (h : Wr w B g bs) (k : Kp no w w') : Wr w' B g bs := h.kp k fun _ _ h => h.elim
theorem Wr.lt {w : World} {B : Nat} {g : Option Addr} {bs : List UInt8} (h : Wr w B g bs) : ∀ k, fpW B g k → k < w.heap.size := by
  obtain ⟨⟨l, c, h1, h2⟩, h3⟩ := h
  rintro k (rfl | hk)
  · exact h1.lt
  · exact h2.lt k hk

theorem newWriter_c {w : World} {R : Ending → World → Prop} (h : ∀ B w', Wr w' B none [] → Kp no w w' → w.heap.size ≤ B → R (.returned (.pointer (some ⟨B, 0, none⟩))) w') : GoC Tryd.prog F_field_NewWriter #[] w R := by
  refine S_field_NewWriter ?_
  unfold W_field_NewWriter
  refine AlF.intro fun b w1 hbe hblk k1 _ => h b w1 ⟨⟨0, 0, hblk, Sl.nil _ _ _⟩, by rintro ⟨ad, had, _⟩; cases had⟩ k1 (by omega)

/-- One byte more. -/
theorem wr_push {w : World} {B : Nat} {g : Option Addr} {bs : List UInt8} (hw : Wr w B g bs) (x : UInt8) (v : Int) (hv : v = (x.toNat : Int)) (hb : bs.length < 70368744177664) {K : World → Prop}
    (h : ∀ g' w', Wr w' B g' (bs ++ [x]) → Kp (fpW B g) w w' → (∀ k, Is g' k → Is g k ∨ w.heap.size ≤ k) → K w') :
    NilF (some ⟨B, 0, none⟩) fun d1 => ∃ (a1 : Option Addr) (l1 c1 : Nat), w.cell? d1 = some (.slice a1 l1 c1) ∧ AlF w (.cells #[.int .u8 v] T_uint8) fun b1 w2 =>
      RunF Tryd.prog (Builtin.append_ #[T_s_uint8, T_s_uint8] T_s_uint8 #[.slice a1 l1 c1, .slice (some ⟨b1, 0, none⟩) 1 1]) w2 fun r1 w3 => ∃ (a2 : Option Addr) (l2 c2 : Nat), r1 = .slice a2 l2 c2 ∧ NilF (some ⟨B, 0, none⟩) fun d2 => StF w3 d2 (.slice a2 l2 c2) K := by
  obtain ⟨⟨l, c, h1, h2⟩, h3⟩ := hw
  refine ⟨g, l, c, by rw [h1.cell]; rfl, AlF.intro fun b w1 hbe hblk k1 hsz => ?_⟩
  have hn : Rd w1 (some ⟨b, 0, none⟩) (bvs [x]) := Rd.of_blk hblk fun i u hu => by
    subst hv
    rw [Nat.zero_add]
    match i, hu with
    | 0, hu => exact hu
  have hll : bs.length = l := by rw [← bvs_len]; exact h2.len
  refine append_own er_u8 (h2.kp0 k1) hn (by simp [bvs]) (fun hh => by cases hh) bvs_one (by omega) (by omega) fun a' c' w' hs hk hi _ _ => ?_
  have hB : B < w.heap.size := h1.lt
  have hB1 : Blk w1 B #[.slice g l c] T_field_Writer := k1.blk h1 id
  have hB2 : Blk w' B #[.slice g l c] T_field_Writer := hk.blk hB1 h3
  have hne : ¬ Is a' B := fun hh => by
    rcases hi B hh with hh | hh
    · exact h3 hh
    · omega
  refine ⟨a', l + 1, c', rfl, StF.intro hB2 (by simp) fun w2 hb2 k2 _ => ?_⟩
  have hs2 : Sl w2 T_uint8 1 a' (l + 1) c' (bvs (bs ++ [x])) := by
    rw [bvs_app]
    refine hs.kp k2 fun k hk hkB => ?_
    subst hkB
    exact hne hk
  refine h a' w2 ⟨⟨l + 1, c', by simpa using hb2, hs2⟩, hne⟩ ?_ ?_
  · refine (k1.trans hk (fun k _ h => h.elim) (fun k _ h => h)).trans k2 (fun k _ h => .inr h) (fun k _ h => .inl h)
  · intro k hk2
    rcases hi k hk2 with hh | hh
    · exact .inl hh
    · exact .inr (by omega)

theorem writer_U {w : World} {B : Nat} {g : Option Addr} {bs : List UInt8} {n : Nat} {R : Ending → World → Prop} (hw : Wr w B g bs) (hn : n < 18446744073709551616) (hb : bs.length + 20 < 70368744177664)
    (h : ∀ g' w', Wr w' B g' (bs ++ vform n) → Kp (fpW B g) w w' → (∀ k, Is g' k → Is g k ∨ w.heap.size ≤ k) → R (.returned (.tuple #[])) w') :
    GoC Tryd.prog F_field_Writer_U #[.pointer (some ⟨B, 0, none⟩), .int .u64 (n : Int)] w R := by
  refine S_field_Writer_U ?_
  unfold W_field_Writer_U
  have h10 := vform_len64 hn
  refine loopN (fun s w1 => ∃ (m : Nat) (g1 : Option Addr) (bs1 : List UInt8), s.1 = (m : Int) ∧ m < 18446744073709551616 ∧ Wr w1 B g1 bs1 ∧ bs1 ++ vform m = bs ++ vform n ∧ Kp (fpW B g) w w1 ∧ (∀ k, Is g1 k → Is g k ∨ w.heap.size ≤ k)) (fun s _ => s.1.toNat)
    ⟨n, g, bs, rfl, hn, hw, rfl, Kp.refl _ _, fun k hk => .inl hk⟩ ?_
  rintro ⟨s, u⟩ w1 ⟨m, g1, bs1, hs, hm, hw1, he, k1, hi1⟩ _
  dsimp only at hs ⊢
  subst hs
  have hlen : bs1.length < 70368744177664 := by
    have := congrArg List.length he
    simp only [List.length_append] at this
    omega
  have fp : ∀ k, k < w.heap.size → fpW B g1 k → fpW B g k := by
    rintro k hk (hh | hh)
    · exact .inl hh
    · rcases hi1 k hh with h2 | h2
      · exact .inr h2
      · omega
  refine cond_d (fun hge => ?_) (fun hlt => ?_)
  · have hm128 : 128 ≤ m := by omega
    have hv : orV .u8 (IntKind.wrap .u8 (m : Int)) 128 = ((UInt8.ofNat (m % 128 + 128)).toNat : Int) := by
      rw [u8_mod, show (128 : Int) = ((128 : Nat) : Int) from rfl, orV_nat rfl (by simp [IntKind.bits]; omega) (by simp [IntKind.bits]), or_128 _ (by omega)]
      simp only [UInt8.toNat_ofNat']
      omega
    refine wr_push hw1 _ _ hv hlen fun g2 w2 hw2 k2 hi2 => ?_
    refine ⟨by decide, ?_⟩
    have hsh : shrV .u64 (m : Int) 7 = ((m / 128 : Nat) : Int) := by
      rw [show (7 : Int) = ((7 : Nat) : Int) from rfl, shrV_nat (by simp [IntKind.bits])]
    rw [hsh]
    refine ⟨⟨m / 128, g2, _, rfl, by omega, hw2, ?_, k1.trans k2 (fun k _ h => h) fp, fun k hk => ?_⟩, ?_⟩
    · rw [← he]
      conv => rhs; rw [vform]
      rw [if_neg (by omega)]
      simp
    · rcases hi2 k hk with hh | hh
      · exact hi1 k hh
      · have := k1.size; exact .inr (by omega)
    · simp only [Int.toNat_natCast]; omega
  · have hm128 : m < 128 := by omega
    have hv : IntKind.wrap .u8 (m : Int) = ((UInt8.ofNat m).toNat : Int) := by
      rw [u8_mod]
      simp only [UInt8.toNat_ofNat']
    refine wr_push hw1 _ _ hv hlen fun g2 w2 hw2 k2 hi2 => ?_
    refine h g2 w2 ?_ (k1.trans k2 (fun k _ h => h) fp) fun k hk => ?_
    · rw [← he]
      conv in vform m => rw [vform]
      rw [if_pos hm128]
      exact hw2
    · rcases hi2 k hk with hh | hh
      · exact hi1 k hh
      · have := k1.size; exact .inr (by omega)

/-- The number as which one with a sign is written. -/
def zig (i : Int) : Nat := if 0 ≤ i then (2 * i).toNat else (-2 * i - 1).toNat
end Go.Proofs.YtplfoedgekdjgaaDoor
