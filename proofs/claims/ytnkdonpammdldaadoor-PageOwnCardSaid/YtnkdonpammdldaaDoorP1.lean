/- Several texts as one. Conditions: none. -/
import Derived.Test.YtnkdonpammdldaaDoorGn
import Derived.Test.YtnkdonpammdldaaDoorSum
import Derived.Test.YtnkdonpammdldaaDoorAs
import Derived.SizedLaws
import Derived.Lib.LaidTab
import Derived.Test.YtnkdonpammdldaaDoorGj
/- Contracts of the document's package: put, get, sum, zeros. Conditions: lengths below 2^46. -/
set_option linter.unusedVariables false
set_option linter.unusedSimpArgs false
namespace Go.Proofs.YtnkdonpammdldaaDoor
open Go Go.RowKit

/-- A number's lowest bytes over those that stood there. -/
@[irreducible] def ovr (B : List UInt8) (a s n : Nat) : List UInt8 := over B a (leB8 s n)
theorem ovr_len {B : List UInt8} {a s n : Nat} (h : a + s ≤ B.length) : (ovr B a s n).length = B.length := by unfold ovr; exact over_len (by rw [leB8_len]; exact h)

theorem put7_c {w : World} {a : Option Addr} {l c : Nat} {B : List UInt8} {at_ size : Int} {i s n : Nat} {nn : Int} {R : Ending → World → Prop} (hs : Sl w T_uint8 1 a l c (bvs B)) (hb : l < 70368744177664) (hi : at_ = (i : Int)) (hsz : size = (s : Int)) (hs8 : s ≤ 8) (hl : i + s ≤ l) (hn : n < 18446744073709551616) (hnn : nn = (n : Int))
    (h : ∀ w', Sl w' T_uint8 1 a l c (bvs (ovr B i s n)) → Kp (Is a) w w' → R (.returned (.tuple #[])) w') :
    GoC Tryd.prog F_ref07_put #[.slice a l c, .int .i64 at_, .int .i64 size, .int .u64 nn] w R := by
  subst hi hsz hnn
  have hBl : B.length = l := by have := hs.len; rwa [bvs_len] at this
  refine S_ref07_put ?_
  unfold W_ref07_put
  have hl8 := leB8_len s n
  refine loopN (fun st w1 => ∃ k : Nat, k ≤ s ∧ st.1 = (k : Int) ∧ Sl w1 T_uint8 1 a l c (bvs (over B i ((leB8 s n).take k))) ∧ Kp (Is a) w w1) (fun st _ => s - st.1.toNat)
    ⟨0, Nat.zero_le _, rfl, by simpa [over] using hs, Kp.refl _ _⟩ ?_
  rintro ⟨kk, u⟩ w1 ⟨k, hk, hkk, hs1, k1⟩ _
  dsimp only at hkk ⊢
  subst hkk
  have hw2 : IntKind.wrap .i64 (8 * (k : Int)) = ((8 * k : Nat) : Int) := by rw [wrap_i64 (by omega) (by omega)]; omega
  have hw4 : IntKind.wrap .u64 ((8 * k : Nat) : Int) = ((8 * k : Nat) : Int) := wrap_u64 (by omega) (by omega)
  rw [hw2, hw4]
  refine cond_d (fun hlt => ?_) (fun hge => ?_)
  · have hw1 : IntKind.wrap .i64 ((i : Int) + (k : Int)) = ((i + k : Nat) : Int) := by rw [wrap_i64 (by omega) (by omega)]; omega
    have hw3 : IntKind.wrap .i64 ((k : Int) + 1) = ((k + 1 : Nat) : Int) := by rw [wrap_i64 (by omega) (by omega)]; omega
    rw [hw1, hw3]
    have htl : ((leB8 s n).take k).length = k := by rw [List.length_take]; omega
    have hol : (over B i ((leB8 s n).take k)).length = B.length := over_len (by omega)
    obtain ⟨b, cur, ha, hblk, _⟩ := hs1.addr (by omega)
    refine ⟨by omega, by omega, by omega, _, ha, ?_⟩
    dsimp only
    rw [Int.toNat_natCast, add_at]
    have hval : (Value.int .u8 (IntKind.wrap .u8 (shrV .u64 (n : Int) ((8 * k : Nat) : Int)))) = bv (UInt8.ofNat (n / 256 ^ k % 256)) := by
      rw [shrV_nat (by simp only [IntKind.bits]; omega), u8_mod, pow256]
      exact bv_of (by omega)
    rw [hval]
    refine hs1.put (i := i + k) (by omega) ha fun w2 hs2 k2 _ => ⟨⟨k + 1, by omega, rfl, ?_, k1.trans0 k2⟩, by simp only [Int.toNat_natCast]; omega⟩
    have hk8 : (leB8 s n)[k]? = some (UInt8.ofNat (n / 256 ^ k % 256)) := leB8_get s n k (by omega)
    have htk : (leB8 s n).take (k + 1) = (leB8 s n).take k ++ [UInt8.ofNat (n / 256 ^ k % 256)] := by
      rw [List.take_add_one, hk8]; rfl
    rw [htk, ← over_set (by omega), htl, bvs, List.map_set]
    exact hs2
  · have hks : k = s := by omega
    subst hks
    rw [List.take_of_length_le (by omega)] at hs1
    exact h w1 (by unfold ovr; exact hs1) k1

theorem get7_c {w : World} {a : Option Addr} {l c : Nat} {B : List UInt8} {at_ size : Int} {i s : Nat} {R : Ending → World → Prop} (hr : Rd w a (bvs B)) (hB : B.length = l) (hb : l < 70368744177664) (hi : at_ = (i : Int)) (hsz : size = (s : Int)) (hs8 : s ≤ 8) (hl : i + s ≤ l)
    (h : R (.returned (.int .u64 (rdN B i s : Int))) w) : GoC Tryd.prog F_ref07_get #[.slice a l c, .int .i64 at_, .int .i64 size] w R := by
  subst hi hsz
  refine S_ref07_get ?_
  unfold W_ref07_get
  have e0 : IntKind.wrap .i64 ((s : Int) - 1) = (s : Int) - 1 := wrap_i64 (by omega) (by omega)
  rw [e0]
  refine loopN (fun st w1 => w1 = w ∧ ∃ k : Nat, k ≤ s ∧ st.2.1 = (k : Int) - 1 ∧ st.1 = (rdN B (i + k) (s - k) : Int)) (fun st _ => (st.2.1 + 1).toNat) ⟨rfl, s, Nat.le_refl _, rfl, by simp [rdN, leN]⟩ ?_
  rintro ⟨n, kk, u⟩ w1 ⟨hw, k, hk, hkk, hn⟩ _
  dsimp only at hkk hn ⊢
  subst hkk hn
  rw [hw]
  refine cond_d (fun hlt => ⟨by decide, ?_⟩) (fun hge => ?_)
  · obtain ⟨j, rfl⟩ : ∃ j, k = j + 1 := ⟨k - 1, by omega⟩
    have e1 : IntKind.wrap .i64 ((i : Int) + (((j + 1 : Nat) : Int) - 1)) = ((i + j : Nat) : Int) := by rw [wrap_i64 (by omega) (by omega)]; omega
    have e2 : IntKind.wrap .i64 ((((j + 1 : Nat) : Int) - 1) - 1) = (j : Int) - 1 := by rw [wrap_i64 (by omega) (by omega)]; omega
    rw [e1, e2]
    refine idxB hr hB (i := i + j) (by omega) rfl ⟨⟨rfl, j, by omega, rfl, ?_⟩, by omega⟩
    have hlt8 := rdN_lt B (i + (j + 1)) (s - (j + 1))
    have hx := byteN_lt B (i + j)
    have h256 : 256 ^ (s - (j + 1)) ≤ 256 ^ 7 := Nat.pow_le_pow_right (by omega) (by omega)
    have hrd : rdN B (i + j) (s - j) = byteN B (i + j) + 256 * rdN B (i + (j + 1)) (s - (j + 1)) := by
      have hij : i + j < B.length := by omega
      have e : s - j = (s - (j + 1)) + 1 := by omega
      unfold rdN
      rw [List.drop_eq_getElem_cons hij, e, List.take_succ_cons, leN, byteN_get hij]
      rfl
    have h64 : rdN B (i + (j + 1)) (s - (j + 1)) * 2 ^ 8 < 18446744073709551616 := by omega
    rw [show (8 : Int) = ((8 : Nat) : Int) from rfl, wrap_nat rfl (by simp only [IntKind.bits]; omega), shlV_nat rfl (by simp only [IntKind.bits]; omega)]
    simp only [IntKind.bits]
    have hm : rdN B (i + (j + 1)) (s - (j + 1)) * 2 ^ 8 % 2 ^ 64 = rdN B (i + (j + 1)) (s - (j + 1)) * 2 ^ 8 := Nat.mod_eq_of_lt (by omega)
    rw [hm, orV_nat rfl (by simp only [IntKind.bits]; omega) (by simp only [IntKind.bits]; omega), Nat.or_comm, or_shift (by omega), hrd]
    congr 1
    omega
  · have hk0 : k = 0 := by omega
    subst hk0
    exact h

theorem zeros7_c {w : World} {a : Option Addr} {l c : Nat} {B : List UInt8} {n : Int} {i : Nat} {R : Ending → World → Prop} (hr : Rd w a (bvs B)) (hB : B.length = l) (hb : l < 70368744177664) (hi : n = (i : Int)) (hil : i ≤ l)
    (h : R (.returned (.bool (allZ (B.drop i)))) w) : GoC Tryd.prog F_ref07_zeros #[.slice a l c, .int .i64 n] w R := by
  subst hi
  refine S_ref07_zeros ?_
  unfold W_ref07_zeros
  refine loopN (fun s w1 => w1 = w ∧ ∃ k : Nat, i ≤ k ∧ k ≤ l ∧ s.1 = (k : Int) ∧ allZ (B.drop i) = allZ (B.drop k)) (fun s _ => l - s.1.toNat) ⟨rfl, i, Nat.le_refl _, hil, rfl, rfl⟩ ?_
  rintro ⟨k0, u⟩ w1 ⟨hw1, k, hik, hk, hk0, hz⟩ _
  dsimp only at hk0 ⊢
  subst hk0
  rw [hw1]
  refine cond_d (fun hlt => ?_) (fun hge => ?_)
  · have hkl : k < B.length := by omega
    have hd : allZ (B.drop k) = (decide (byteN B k = 0) && allZ (B.drop (k + 1))) := by
      unfold allZ
      rw [List.drop_eq_getElem_cons hkl, List.any_cons, byteN_get hkl]
      by_cases h0 : (B[k]).toNat = 0 <;> simp [h0]
    refine idxB hr hB (i := k) (by omega) rfl (K := fun n8 => cond (n8 != 0) _ _) (cond_ne (fun h0 => ?_) (fun h0 => ?_))
    · have hf : decide (byteN B k = 0) = false := decide_eq_false (by omega)
      rw [hz, hd, hf] at h
      exact h
    · have hf : decide (byteN B k = 0) = true := decide_eq_true (by omega)
      have hwk : IntKind.wrap .i64 ((k : Int) + 1) = ((k + 1 : Nat) : Int) := by rw [wrap_i64 (by omega) (by omega)]; omega
      rw [hwk]
      exact ⟨⟨rfl, k + 1, by omega, by omega, rfl, by rw [hz, hd, hf, Bool.true_and]⟩, by simp only [Int.toNat_natCast]; omega⟩
  · have hke : k = B.length := by omega
    rw [hz, hke, List.drop_length] at h
    exact h

theorem stp_code {r : Nat} (h : r < 4294967296) {K : Int → Prop} (hK : K (stp r : Int)) : cond (andV .u32 (r : Int) 1 == 1) (K (xorV .u32 (shrV .u32 (r : Int) 1) 3988292384)) (K (shrV .u32 (r : Int) 1)) := by
  have e1 : andV .u32 (r : Int) 1 = ((r % 2 : Nat) : Int) := by
    rw [show (1 : Int) = ((1 : Nat) : Int) from rfl, andV_nat rfl (by simpa [IntKind.bits] using h) (by simp [IntKind.bits]), and_1]
  have e2 : shrV .u32 (r : Int) 1 = ((r / 2 : Nat) : Int) := by
    rw [show (1 : Int) = ((1 : Nat) : Int) from rfl, shrV_nat (by simp [IntKind.bits])]
  rw [e1, e2]
  unfold stp at hK
  refine cond_eq (fun ho => ?_) (fun ho => ?_)
  · rw [if_neg (by omega)] at hK
    rw [show (3988292384 : Int) = ((3988292384 : Nat) : Int) from rfl, xorV_nat rfl (by simp only [IntKind.bits]; omega) (by simp [IntKind.bits])]
    exact hK
  · rw [if_pos (by omega)] at hK
    exact hK
theorem rep_lt : ∀ (j r : Nat), r < 4294967296 → Nat.repeat stp j r < 4294967296
  | 0, r, h => h
  | j + 1, r, h => stp_lt (rep_lt j r h)

def mskB (B : List UInt8) : List UInt8 := B.take 12 ++ (List.replicate 4 0 ++ B.drop 16)
theorem mskB_len {B : List UInt8} (h : 16 ≤ B.length) : (mskB B).length = B.length := by simp [mskB]; omega
theorem mskB_get {B : List UInt8} (h : 16 ≤ B.length) {k : Nat} (hk : k < B.length) (hk' : k < (mskB B).length) : ((mskB B)[k]).toNat = if 12 ≤ k ∧ k < 16 then 0 else byteN B k := by
  have h1 : (mskB B)[k]? = some (mskB B)[k] := List.getElem?_eq_getElem hk'
  have h2 : (mskB B)[k]? = some (if 12 ≤ k ∧ k < 16 then 0 else B[k]) := by
    unfold mskB
    by_cases h12 : k < 12
    · rw [List.getElem?_append_left (by simp; omega), List.getElem?_take, if_pos h12, if_neg (by omega), List.getElem?_eq_getElem hk]
    · rw [List.getElem?_append_right (by simp; omega)]
      have e1 : (B.take 12).length = 12 := by simp; omega
      rw [e1]
      by_cases h16 : k < 16
      · rw [List.getElem?_append_left (by simp; omega), if_pos (by omega), List.getElem?_replicate, if_pos (by omega)]
      · rw [List.getElem?_append_right (by simp; omega), if_neg (by omega), List.getElem?_drop, List.length_replicate]
        have : 16 + (k - 12 - 4) = k := by omega
        rw [this, List.getElem?_eq_getElem hk]
  rw [h1] at h2
  have h3 := Option.some.inj h2
  rw [h3, byteN_get hk]
  split <;> rfl

theorem sum7_c {w : World} {a : Option Addr} {l c : Nat} {B : List UInt8} {R : Ending → World → Prop} (hr : Rd w a (bvs B)) (hB : B.length = l) (h16 : 16 ≤ l) (hb : l < 70368744177664)
    (h : R (.returned (.int .u32 (psumN B : Int))) w) : GoC Tryd.prog F_ref07_sum #[.slice a l c] w R := by
  refine S_ref07_sum ?_
  unfold W_ref07_sum
  have hM : (mskB B).length = l := by rw [mskB_len (by omega), hB]
  refine loopN (fun s w1 => w1 = w ∧ ∃ k r : Nat, k ≤ l ∧ s.2.1 = (k : Int) ∧ s.1 = (r : Int) ∧ r < 4294967296 ∧ ((mskB B).drop k).foldl bst r = (mskB B).foldl bst 4294967295) (fun s _ => l - s.2.1.toNat)
    ⟨rfl, 0, 4294967295, Nat.zero_le _, rfl, rfl, by omega, by simp⟩ ?_
  rintro ⟨rr, kk, u⟩ w1 ⟨hw1, k, r, hk, hkk, hrr, hr32, hf⟩ _
  dsimp only at hkk hrr ⊢
  subst hkk hrr
  rw [hw1]
  refine cond_d (fun hlt => ?_) (fun hge => ?_)
  · have hkl : k < B.length := by omega
    have hkM : k < (mskB B).length := by omega
    have hwk : IntKind.wrap .i64 ((k : Int) + 1) = ((k + 1 : Nat) : Int) := by rw [wrap_i64 (by omega) (by omega)]; omega
    rw [hwk]
    have hg := mskB_get (by omega) hkl hkM
    have hdj : (mskB B).drop k = (mskB B)[k] :: (mskB B).drop (k + 1) := List.drop_eq_getElem_cons hkM
    rw [hdj, List.foldl_cons] at hf
    have hbq : bst r (mskB B)[k] = Nat.repeat stp 8 (r ^^^ ((mskB B)[k]).toNat) := by
      unfold bst
      rw [nst_rep, nst_rep, rep_add]
    rw [hbq] at hf
    have hx := byteN_lt B k
    refine idxB hr hB (i := k) (by omega) rfl ?_
    have hb0 : IntKind.wrap .u32 (byteN B k : Int) = ((byteN B k : Nat) : Int) := by rw [wrap_nat rfl (by simp only [IntKind.bits]; omega)]
    have hb1 : IntKind.wrap .u32 (0 : Int) = ((0 : Nat) : Int) := by decide
    rw [hb0, hb1, xorV_nat rfl (by simpa [IntKind.bits] using hr32) (by simp only [IntKind.bits]; omega), xorV_nat rfl (by simpa [IntKind.bits] using hr32) (by simp only [IntKind.bits]; omega)]
    refine cond_d (fun h12 => cond_d (fun h15 => ?_) (fun h15 => ?_)) (fun h12 => ?_)
    · rw [if_pos (by omega)] at hg
      rw [hg] at hf
      have hz32 : r ^^^ 0 < 4294967296 := by rw [Nat.xor_zero]; exact hr32
      generalize r ^^^ 0 = z at *
      refine loopN (fun s w3 => w3 = w ∧ ∃ n : Nat, n ≤ 8 ∧ s.2.1 = (n : Int) ∧ s.1 = ((Nat.repeat stp n z : Nat) : Int)) (fun s _ => 8 - s.2.1.toNat) ⟨rfl, 0, by omega, rfl, rfl⟩ ?_
      rintro ⟨zz, nn, u⟩ w3 ⟨hw3, n, hn8, hnn, hzz⟩ _
      dsimp only at hnn hzz ⊢
      subst hnn hzz
      rw [hw3]
      have hlt32 := rep_lt n z hz32
      refine cond_d (fun hn => ⟨by decide, ?_⟩) (fun hn => ?_)
      · have hwn : IntKind.wrap .i64 ((n : Int) + 1) = ((n + 1 : Nat) : Int) := by rw [wrap_i64 (by omega) (by omega)]; omega
        rw [hwn]
        exact stp_code hlt32 (K := fun x => (w = w ∧ ∃ m : Nat, m ≤ 8 ∧ ((n + 1 : Nat) : Int) = (m : Int) ∧ x = ((Nat.repeat stp m z : Nat) : Int)) ∧ 8 - ((n + 1 : Nat) : Int).toNat < 8 - (n : Int).toNat) ⟨⟨rfl, n + 1, by omega, rfl, rfl⟩, by simp only [Int.toNat_natCast]; omega⟩
      · have hn8' : n = 8 := by omega
        subst hn8'
        exact ⟨⟨rfl, k + 1, _, by omega, rfl, rfl, hlt32, hf⟩, by simp only [Int.toNat_natCast]; omega⟩
    all_goals
      rw [if_neg (by omega)] at hg
      rw [hg] at hf
      have hz32 : r ^^^ byteN B k < 4294967296 := Nat.xor_lt_two_pow (n := 32) hr32 (by omega)
      generalize r ^^^ byteN B k = z at *
      refine loopN (fun s w3 => w3 = w ∧ ∃ n : Nat, n ≤ 8 ∧ s.2.1 = (n : Int) ∧ s.1 = ((Nat.repeat stp n z : Nat) : Int)) (fun s _ => 8 - s.2.1.toNat) ⟨rfl, 0, by omega, rfl, rfl⟩ ?_
      rintro ⟨zz, nn, u⟩ w3 ⟨hw3, n, hn8, hnn, hzz⟩ _
      dsimp only at hnn hzz ⊢
      subst hnn hzz
      rw [hw3]
      have hlt32 := rep_lt n z hz32
      refine cond_d (fun hn => ⟨by decide, ?_⟩) (fun hn => ?_)
      · have hwn : IntKind.wrap .i64 ((n : Int) + 1) = ((n + 1 : Nat) : Int) := by rw [wrap_i64 (by omega) (by omega)]; omega
        rw [hwn]
        exact stp_code hlt32 (K := fun x => (w = w ∧ ∃ m : Nat, m ≤ 8 ∧ ((n + 1 : Nat) : Int) = (m : Int) ∧ x = ((Nat.repeat stp m z : Nat) : Int)) ∧ 8 - ((n + 1 : Nat) : Int).toNat < 8 - (n : Int).toNat) ⟨⟨rfl, n + 1, by omega, rfl, rfl⟩, by simp only [Int.toNat_natCast]; omega⟩
      · have hn8' : n = 8 := by omega
        subst hn8'
        exact ⟨⟨rfl, k + 1, _, by omega, rfl, rfl, hlt32, hf⟩, by simp only [Int.toNat_natCast]; omega⟩
  · have hke : k = l := by omega
    subst hke
    have hr0 : r = (mskB B).foldl bst 4294967295 := by
      rw [← hf, List.drop_of_length_le (by omega)]
      rfl
    have hm : IntKind.max .u32 = ((4294967295 : Nat) : Int) := by decide
    rw [hm, xorV_nat rfl (by simp [IntKind.bits]) (by simpa [IntKind.bits] using hr32), Nat.xor_comm, hr0]
    exact h
end Go.Proofs.YtnkdonpammdldaaDoor

/- The contract of the document's Decode. Conditions: none. -/
set_option linter.unusedVariables false
set_option linter.unusedSimpArgs false
namespace Go.Proofs.YtnkdonpammdldaaDoor
open Go Go.RowKit

theorem rdN_two {B : List UInt8} {i : Nat} (h : i + 1 < B.length) : rdN B i 2 = byteN B i + 256 * byteN B (i + 1) := by
  unfold rdN
  rw [List.drop_eq_getElem_cons (by omega : i < B.length), List.take_succ_cons, leN, List.drop_eq_getElem_cons h, List.take_succ_cons, leN, byteN_get (by omega), byteN_get h]
  rfl

theorem decode7_c {w : World} {a : Option Addr} {l c : Nat} {B : List UInt8} {num : Int} {R : Ending → World → Prop} (hr : Rd w a (bvs B)) (hl : B.length = l)
    (h0 : decF B num ≠ 0 → ∀ w', Kp no w w' → R (.returned (.tuple #[.agg pg0.cs, .int .i64 (decF B num : Int)])) w')
    (h1 : decF B num = 0 → ∀ (p : PgV) w', p.num = num → p.lsn = (dLsn B : Int) → p.Own w' (decCs B) (decGs B) → Kp no w w' → Fresh w p.ca → Fresh w p.ga → (p.ca = none ∨ p.ga = none) → R (.returned (.tuple #[.agg p.cs, .int .i64 0])) w') :
    GoC Tryd.prog F_ref07_Decode #[.slice a l c, .int .i64 num] w R := by
  refine S_ref07_Decode ?_
  unfold W_ref07_Decode
  refine AlF.intro fun b1 w1 hb1e hb1 k1 s1 => ?_
  have bad : ∀ (e : Nat) (ws : World), Kp no w1 ws → decF B num = e → e ≠ 0 → StF ws ⟨b1, 0, none⟩ (.int .i64 0) fun w1 => StF w1 (Addr.add ⟨b1, 0, none⟩ 1) (.int .i64 0) fun w2 => StF w2 (Addr.add ⟨b1, 0, none⟩ 2) (.slice none 0 0) fun w3 => StF w3 (Addr.add ⟨b1, 0, none⟩ 3) (.slice none 0 0) fun w4 =>
      ∃ (n2 : Int) (n3 : Int) (a2 : Option Addr) (l2 c2 : Nat) (a3 : Option Addr) (l3 c3 : Nat), (w4.cell? ⟨b1, 0, none⟩ = some (.int .i64 n2) ∧ w4.cell? (Addr.add ⟨b1, 0, none⟩ 1) = some (.int .i64 n3) ∧ w4.cell? (Addr.add ⟨b1, 0, none⟩ 2) = some (.slice a2 l2 c2) ∧ w4.cell? (Addr.add ⟨b1, 0, none⟩ 3) = some (.slice a3 l3 c3) ∧ True) ∧
        R (.returned (.tuple #[.agg #[.int .i64 n2, .int .i64 n3, .slice a2 l2 c2, .slice a3 l3 c3], .int .i64 (e : Int)])) w4 := by
    intro e ws ks he hne
    refine ret4 (K := fun q w' => R (.returned (.tuple #[.agg q, .int .i64 (e : Int)])) w') (ks.blk hb1 id) rfl fun w' _ k' _ => ?_
    have := h0 (by rw [he]; exact hne) w' (kp_blk (k1.trans0 ks) (by omega) k')
    rw [he] at this
    exact this
  have hk11 : Kp no w1 w1 := Kp.refl _ _
  refine ⟨fun _ w' => w' = w1 ∧ (0 ≤ num ∧ num ≤ 63), ?_, ?_⟩
  · refine cond_d (fun g1 => bad 4 w1 hk11 (by unfold decF; rw [if_pos (by omega)]) (by omega)) fun g1 => cond_d (fun g2 => bad 4 w1 hk11 (by unfold decF; rw [if_pos (by omega)]) (by omega)) fun g2 => ⟨rfl, by omega⟩
  rintro u3 w10 ⟨hw10, g1⟩ _
  rw [hw10]
  refine ⟨fun _ w' => w' = w1 ∧ B.length = 1024, ?_, ?_⟩
  · exact cond_ne (fun g2 => bad 42 w1 hk11 (by unfold decF; rw [if_neg (by omega), if_pos (by omega)]) (by omega)) fun g2 => ⟨rfl, by omega⟩
  rintro u5 w15 ⟨hw15, hB⟩ _
  rw [hw15]
  have hb : l < 70368744177664 := by omega
  have hr1 := hr.kp0 k1
  refine ⟨fun _ w' => w' = w1 ∧ allZ B = false, ?_, ?_⟩
  · refine zeros7_c hr1 hl hb (i := 0) rfl (by omega) ⟨_, rfl, ?_⟩
    rw [List.drop_zero]
    refine cond_b (fun g3 => ?_) (fun g3 => ⟨rfl, g3⟩)
    refine ret4 (K := fun q w' => R (.returned (.tuple #[.agg q, .int .i64 0])) w') hb1 rfl fun w' _ k' _ => ?_
    have e0 : decF B num = 0 := by unfold decF; rw [if_neg (by omega), if_neg (by omega), if_pos g3]
    have en : dN B = 0 := allZ_rd g3 4 2
    refine h1 e0 (PgV.zero num) w' rfl (by unfold dLsn; rw [allZ_rd g3]; rfl) ?_ (kp_blk k1 (by omega) k') (fresh_none _) (fresh_none _) (.inl rfl)
    unfold decCs decGs
    rw [en, csK_zero, gsK_zero]
    exact own_zero _ _
  rintro u7 w21 ⟨hw21, g3⟩ _
  rw [hw21]
  have dn := rdN_lt B 4 2
  have dl := rdN_lt B 8 4
  have dm := rdN_lt B 2 2
  have ds := rdN_lt B 12 4
  have hps : psumN B < 4294967296 := Nat.xor_lt_two_pow (n := 32) (fold_lt _ _ (by omega)) (by omega)
  change dN B < _ at dn
  change dLsn B < _ at dl
  change dNum B < _ at dm
  change dSum B < _ at ds
  have w1n : IntKind.wrap .i64 (dN B : Int) = (dN B : Int) := wrap_i64 (by omega) (by omega)
  have w2n : IntKind.wrap .i64 (dLsn B : Int) = (dLsn B : Int) := wrap_i64 (by omega) (by omega)
  refine get7_c hr1 hl hb (i := 4) (s := 2) rfl rfl (by omega) (by omega) ⟨_, rfl, ?_⟩
  refine get7_c hr1 hl hb (i := 8) (s := 4) rfl rfl (by omega) (by omega) ⟨_, rfl, ?_⟩
  change JoinF (S := Int × Unit) _ _
  have e1 : (rdN B 4 2) = dN B := rfl
  have e2 : (rdN B 8 4) = dLsn B := rfl
  rw [e1, e2, w1n, w2n]
  refine ⟨fun s w' => w' = w1 ∧ s.1 = 31, ⟨rfl, rfl⟩, ?_⟩
  rintro ⟨m10, u10⟩ w24 ⟨hw24, hm10⟩ _
  dsimp only at hm10
  subst hm10
  rw [hw24]
  refine ⟨fun s w' => w' = w1 ∧ s.1 = (dMost B : Int), ?_, ?_⟩
  · refine idxB hr1 hl (i := 1) (by omega) rfl (K := fun n8 => cond (n8 == 2) _ _) (cond_eq (fun g6 => ⟨rfl, ?_⟩) (fun g6 => ⟨rfl, ?_⟩))
    · unfold dMost; rw [if_pos (by omega)]; rfl
    · unfold dMost; rw [if_neg (by omega)]; rfl
  rintro ⟨m12, u12⟩ w25 ⟨hw25, hm12⟩ _
  dsimp only at hm12
  subst hm12
  rw [hw25]
  have hd : byteN B 0 = 113 → (byteN B 1 = 1 ∨ byteN B 1 = 2) → decF B num = if dSum B ≠ psumN B then 81 else if (dNum B : Int) ≠ num then 82 else if ¬ (1 ≤ dN B ∧ dN B ≤ dMost B) ∨ ¬ (1 ≤ dLsn B ∧ dLsn B ≤ 2147483647) then 23 else if contP (decCs B) (decGs B) ≠ 0 then contP (decCs B) (decGs B) else if dSp B ≠ 0 ∨ allZ (B.drop (16 + dN B * dWide B)) = false then 23 else 0 := by
    intro g4 g5
    unfold decF
    rw [if_neg (by omega), if_neg (by omega), if_neg (by rw [g3]; decide), if_neg (by omega), if_neg (by omega)]
  refine ⟨fun _ w' => w' = w1 ∧ byteN B 0 = 113 ∧ (byteN B 1 = 1 ∨ byteN B 1 = 2) ∧ dSum B = psumN B ∧ (dNum B : Int) = num ∧ (1 ≤ dN B ∧ dN B ≤ dMost B) ∧ (1 ≤ dLsn B ∧ dLsn B ≤ 2147483647), ?_, ?_⟩
  · refine idxB hr1 hl (i := 0) (by omega) rfl (K := fun n8 => cond (n8 != 113) _ _) (cond_ne (fun g4 => bad 80 w1 hk11 (by unfold decF; rw [if_neg (by omega), if_neg (by omega), if_neg (by rw [g3]; decide), if_pos (by omega)]) (by omega)) (fun g4 => ?_))
    refine idxB hr1 hl (i := 1) (by omega) rfl (K := fun n8 => cond (n8 != 1) _ _) (cond_ne (fun g5 => ?_) (fun g5 => ?_))
    · refine idxB hr1 hl (i := 1) (by omega) rfl (K := fun n8 => cond (n8 != 2) _ _) (cond_ne (fun g6 => bad 70 w1 hk11 (by unfold decF; rw [if_neg (by omega), if_neg (by omega), if_neg (by rw [g3]; decide), if_neg (by omega), if_pos (by omega)]) (by omega)) (fun g6 => ?_))
      have hkk : byteN B 1 = 1 ∨ byteN B 1 = 2 := by omega
      have hd := hd (by omega) hkk
      refine get7_c hr1 hl hb (i := 12) (s := 4) rfl rfl (by omega) (by omega) ⟨_, rfl, sum7_c hr1 hl (by omega) hb ⟨_, rfl, ?_⟩⟩
      rw [wrap_u64 (by omega) (by omega)]
      refine cond_ne (fun g7 => bad 81 w1 hk11 (by rw [hd, if_pos (fun hh => g7 (by unfold dSum at hh; omega))]) (by omega)) (fun g7 => ?_)
      have g7' : dSum B = psumN B := by unfold dSum; omega
      refine get7_c hr1 hl hb (i := 2) (s := 2) rfl rfl (by omega) (by omega) ⟨_, rfl, ?_⟩
      rw [wrap_u64 (by omega) (by omega)]
      refine cond_ne (fun g8 => bad 82 w1 hk11 (by rw [hd, if_neg (by omega), if_pos (show ((dNum B : Nat) : Int) ≠ num from g8)]) (by omega)) (fun g8 => ?_)
      have g8' : (dNum B : Int) = num := g8
      refine cond_d (fun g9 => bad 23 w1 hk11 (by rw [hd, if_neg (by omega), if_neg (by omega), if_pos (by omega)]) (by omega)) (fun g9 => ?_)
      refine cond_d (fun g10 => bad 23 w1 hk11 (by rw [hd, if_neg (by omega), if_neg (by omega), if_pos (by omega)]) (by omega)) (fun g10 => ?_)
      refine cond_d (fun g11 => bad 23 w1 hk11 (by rw [hd, if_neg (by omega), if_neg (by omega), if_pos (by omega)]) (by omega)) (fun g11 => ?_)
      refine cond_d (fun g12 => bad 23 w1 hk11 (by rw [hd, if_neg (by omega), if_neg (by omega), if_pos (by omega)]) (by omega)) (fun g12 => ?_)
      exact ⟨rfl, by omega, hkk, g7', g8', by omega, by omega⟩
    · have hkk : byteN B 1 = 1 ∨ byteN B 1 = 2 := by omega
      have hd := hd (by omega) hkk
      refine get7_c hr1 hl hb (i := 12) (s := 4) rfl rfl (by omega) (by omega) ⟨_, rfl, sum7_c hr1 hl (by omega) hb ⟨_, rfl, ?_⟩⟩
      rw [wrap_u64 (by omega) (by omega)]
      refine cond_ne (fun g7 => bad 81 w1 hk11 (by rw [hd, if_pos (fun hh => g7 (by unfold dSum at hh; omega))]) (by omega)) (fun g7 => ?_)
      have g7' : dSum B = psumN B := by unfold dSum; omega
      refine get7_c hr1 hl hb (i := 2) (s := 2) rfl rfl (by omega) (by omega) ⟨_, rfl, ?_⟩
      rw [wrap_u64 (by omega) (by omega)]
      refine cond_ne (fun g8 => bad 82 w1 hk11 (by rw [hd, if_neg (by omega), if_pos (show ((dNum B : Nat) : Int) ≠ num from g8)]) (by omega)) (fun g8 => ?_)
      have g8' : (dNum B : Int) = num := g8
      refine cond_d (fun g9 => bad 23 w1 hk11 (by rw [hd, if_neg (by omega), if_neg (by omega), if_pos (by omega)]) (by omega)) (fun g9 => ?_)
      refine cond_d (fun g10 => bad 23 w1 hk11 (by rw [hd, if_neg (by omega), if_neg (by omega), if_pos (by omega)]) (by omega)) (fun g10 => ?_)
      refine cond_d (fun g11 => bad 23 w1 hk11 (by rw [hd, if_neg (by omega), if_neg (by omega), if_pos (by omega)]) (by omega)) (fun g11 => ?_)
      refine cond_d (fun g12 => bad 23 w1 hk11 (by rw [hd, if_neg (by omega), if_neg (by omega), if_pos (by omega)]) (by omega)) (fun g12 => ?_)
      exact ⟨rfl, by omega, hkk, g7', g8', by omega, by omega⟩
  rintro u22 w88 ⟨hw88, g4, g5, g7, g8, g9, g10⟩ _
  rw [hw88]
  have hd := hd g4 g5
  rw [if_neg (by omega), if_neg (by omega), if_neg (by omega)] at hd
  have hdm : dN B ≤ 84 ∧ (byteN B 1 = 2 → dN B ≤ 84 ∧ dWide B = 12) ∧ (byteN B 1 ≠ 2 → dN B ≤ 31 ∧ dWide B = 32) := by
    have := g9.2
    unfold dMost at this
    unfold dWide
    split at this <;> rename_i hh
    · exact ⟨by omega, fun _ => ⟨by omega, if_pos hh⟩, fun h => absurd hh h⟩
    · exact ⟨by omega, fun h => absurd h hh, fun _ => ⟨by omega, if_neg hh⟩⟩
  refine AlF.intro fun b2 w48 hb2e hb2 k48 s48 => ?_
  refine st4 hb2 rfl fun w52 hb52 k52 s52 => ?_
  have hb1lt := hb1.lt
  have kk52 : Kp no w1 w52 := kp_blk k48 (by omega) k52
  have kw52 : Kp no w w52 := k1.trans0 kk52
  have hs52 : w52.heap.size = b2 + 1 := by omega
  refine ⟨fun s w' => s.1 = ((16 + dN B * dWide B : Nat) : Int) ∧ ∃ pg : PgV, Kp (fun j => j = b2) w52 w' ∧ Blk w' b2 pg.cs T_quotaref07_Page ∧ pg.num = num ∧ pg.lsn = (dLsn B : Int) ∧ pg.Own w' (decCs B) (decGs B) ∧ Fresh w52 pg.ca ∧ Fresh w52 pg.ga ∧ (pg.ca = none ∨ pg.ga = none), ?_, ?_⟩
  · refine ⟨fun s w' => w' = w52 ∧ s.1 = 0, ⟨rfl, rfl⟩, ?_⟩
    rintro ⟨s25, u25⟩ w94 ⟨hw94, hs25⟩ _
    dsimp only at hs25
    subst hs25
    rw [hw94]
    refine loopN (fun s w' => ∃ (k : Nat) (pg : PgV), k ≤ dN B ∧ s.2.1 = (k : Int) ∧ s.1 = ((16 + k * dWide B : Nat) : Int) ∧ Kp (fun j => j = b2) w52 w' ∧ Blk w' b2 pg.cs T_quotaref07_Page ∧ pg.num = num ∧ pg.lsn = (dLsn B : Int) ∧ pg.Own w' (csK B k) (gsK B k) ∧ Fresh w52 pg.ca ∧ Fresh w52 pg.ga ∧ (byteN B 1 = 2 → pg.ca = none) ∧ (byteN B 1 ≠ 2 → pg.ga = none)) (fun s _ => dN B - s.2.1.toNat)
      ⟨0, ⟨num, dLsn B, none, 0, 0, none, 0, 0⟩, Nat.zero_le _, rfl, by rw [Nat.zero_mul]; rfl, Kp.refl _ _, hb52, rfl, rfl, by rw [csK_zero, gsK_zero]; exact ⟨Sl.nil _ _ _, Nat.zero_lt_succ _, Sl.nil _ _ _, Nat.zero_lt_succ _⟩, fresh_none _, fresh_none _, fun _ => rfl, fun _ => rfl⟩ ?_
    rintro ⟨end0, k0, u⟩ w53 ⟨k, pg, hk, hk0, hend, k53, hb53, hnum, hlsn, hown, fca, fga, q2, qn2⟩ _
    dsimp only at hk0 hend ⊢
    subst hk0 hend
    refine ⟨fun _ w' => w' = w53 ∧ k < dN B, ?_, ?_⟩
    · refine cond_d (fun hlt => ⟨rfl, by omega⟩) (fun hge => ?_)
      have hke : k = dN B := by omega
      subst hke
      refine ⟨rfl, pg, k53, hb53, hnum, hlsn, hown, fca, fga, ?_⟩
      by_cases h2 : byteN B 1 = 2
      · exact .inl (q2 h2)
      · exact .inr (qn2 h2)
    rintro u27 w96 ⟨hw96, hkd⟩ _
    rw [hw96]
    have k2553 : Kp no w1 w53 := kk52.trans k53 (fun _ _ h => h) fun j hj hh => by omega
    have kw53 : Kp no w w53 := k1.trans0 k2553
    have e3 : IntKind.wrap .i64 ((k : Int) + 1) = ((k + 1 : Nat) : Int) := by rw [wrap_i64 (by omega) (by omega)]; omega
    rw [e3]
    have hown' := hown.cl
    have hown'' := hown.gl
    rw [csK_len] at hown'
    rw [gsK_len] at hown''
    have hr53 := hr.kp0 kw53
    refine idxB hr53 hl (i := 1) (by omega) rfl (K := fun n8 => cond (n8 == 1) _ _) (cond_eq (fun t2 => ?_) (fun t2 => ?_))
    · have t2' : byteN B 1 ≠ 2 := by omega
      obtain ⟨hd84, hw12⟩ := hdm.2.2 t2'
      rw [if_neg t2'] at hown' hown''
      rw [hw12]
      have f0 : ((16 + k * 32 : Nat) : Int) = ((16 + 32 * k : Nat) : Int) := by omega
      have f1 : IntKind.wrap .i64 (((16 + 32 * k : Nat) : Int) + 8) = ((16 + 32 * k + 8 : Nat) : Int) := by rw [wrap_i64 (by omega) (by omega)]; omega
      have f2 : IntKind.wrap .i64 (((16 + 32 * k : Nat) : Int) + 16) = ((16 + 32 * k + 16 : Nat) : Int) := by rw [wrap_i64 (by omega) (by omega)]; omega
      have f3 : IntKind.wrap .i64 (((16 + 32 * k : Nat) : Int) + 4) = ((16 + 32 * k + 4 : Nat) : Int) := by rw [wrap_i64 (by omega) (by omega)]; omega
      have f4 : IntKind.wrap .i64 (((16 + 32 * k : Nat) : Int) + 24) = ((16 + 32 * k + 24 : Nat) : Int) := by rw [wrap_i64 (by omega) (by omega)]; omega
      have f5 : IntKind.wrap .i64 (((16 + 32 * k : Nat) : Int) + 32) = ((16 + (k + 1) * 32 : Nat) : Int) := by rw [wrap_i64 (by omega) (by omega)]; omega
      rw [f0, f1, f2, f3, f4, f5]
      refine get7_c hr53 hl hb (i := 16 + 32 * k + 8) (s := 8) rfl rfl (by omega) (by omega) ⟨_, rfl, ?_⟩
      refine get7_c hr53 hl hb (i := 16 + 32 * k + 16) (s := 8) rfl rfl (by omega) (by omega) ⟨_, rfl, ?_⟩
      refine AlF.intro fun b3 w54 hb3e hb3 k54 s54 => ?_
      refine StF.intro hb3 (by simp) fun w55 hb55 k55 s55 => ?_
      rw [add_at b3 0 1]
      refine StF.intro hb55 (by simp) fun w56 hb56 k56 s56 => ?_
      have nin : ∀ j, Is pg.ca j → w52.heap.size ≤ j := fca
      have hgalt := hown.c.lt
      have k5356 : Kp no w53 w56 := kp_blk k54 (by omega) (k55.trans0 k56)
      have hb256 := k5356.blk hb53 id
      have kd : Kp no w56 w56.drew := Kp.drew w56 1
      refine ⟨fun w' => Kp (Is pg.ca) w56 w', kd.of_no, pg.ca, pg.cl, pg.cc, fun w' kz => pc2 (kz.blk hb256 fun hh => by have := nin _ hh; omega), ?_⟩
      refine ⟨i64 (rdN B (16 + 32 * k + 8) 8), i64 (rdN B (16 + 32 * k + 16) 8), fun w' kz => ?_, ?_⟩
      · have hz3 := kz.blk hb56 fun hh => by have := hgalt _ hh; omega
        exact ⟨hz3.cell 0, hz3.cell 1, trivial⟩
      have hr56 := hr53.kp0 (k5356.trans0 kd)
      refine get7_c hr56 hl hb (i := 16 + 32 * k) (s := 4) rfl rfl (by omega) (by omega) ⟨_, rfl, kd.of_no, ?_⟩
      refine get7_c hr56 hl hb (i := 16 + 32 * k + 4) (s := 4) rfl rfl (by omega) (by omega) ⟨_, rfl, kd.of_no, ?_⟩
      refine get7_c hr56 hl hb (i := 16 + 32 * k + 24) (s := 8) rfl rfl (by omega) (by omega) ⟨_, rfl, kd.of_no, ?_⟩
      refine AlF.intro fun b4 w57 hb4e hb4 k57 s57 => ⟨(kd.trans0 k57).of_no, ?_⟩
      have k5357 := (k5356.trans0 kd).trans0 k57
      have hn1 : Rd w57 (some ⟨b4, 0, none⟩) (ctrAt B k).cs := rd_cells hb4 rfl
      refine append_own er_ctr (hown.c.kp0 k5357) hn1 rfl (fun h => by cases h) (fun u hu => by simp only [CL.cs, List.mem_cons, List.not_mem_nil, or_false] at hu; rcases hu with rfl | rfl | rfl | rfl | rfl <;> rfl) (by omega) (by omega) fun a' c' w58 hs58 k58 hi58 _ _ => ⟨_, _, _, rfl, (kd.trans0 k57).of_no.trans0 k58, ?_⟩
      have hb58 : Blk w58 b2 pg.cs T_quotaref07_Page := k58.blk (k5357.blk hb53 id) fun hh => by have := nin _ hh; omega
      rw [add_at]
      refine StF.intro hb58 (by simp [PgV.cs]) fun w59 hb59 k59 s59 => ⟨⟨k + 1, { pg with ca := a', cl := pg.cl + 1, cc := c' }, by omega, rfl, rfl, ?_, hb59, hnum, hlsn, ?_, ?_, fga, fun h => absurd h t2', fun _ => qn2 t2'⟩, by simp only [Int.toNat_natCast]; omega⟩
      · exact (((k53.trans0 k5357.of_no).trans k58 (fun _ _ h => h) fun j hj hh => by have := nin j hh; omega).trans0 k59)
      · rw [csK_succ t2']
        have hcn := qn2 t2'
        have e0 : gsK B (k + 1) = gsK B k := by rw [gsK_succ2 t2', gsK_succ2 t2']
        rw [e0]
        refine Own_push_c (hs58.kp k59 fun j hj hh => ?_) (by omega) (((hown.g.kp0 k5357).kp k58 fun j hj => by rw [hcn] at hj; exact (is_none hj).elim).kp k59 fun j hj => by rw [hcn] at hj; exact (is_none hj).elim) hown.gb
        rcases hi58 j hj with h | h
        · have := nin j h; omega
        · have := k5357.size; have := k53.size; omega
      · intro j hj
        rcases hi58 j hj with h | h
        · exact nin j h
        · have := k5357.size; have := k53.size; omega
    · have t2' : byteN B 1 = 2 := by omega
      obtain ⟨hd84, hw12⟩ := hdm.2.1 t2'
      rw [if_pos t2'] at hown' hown''
      rw [hw12]
      have f0 : ((16 + k * 12 : Nat) : Int) = ((16 + 12 * k : Nat) : Int) := by omega
      have f3 : IntKind.wrap .i64 (((16 + 12 * k : Nat) : Int) + 4) = ((16 + 12 * k + 4 : Nat) : Int) := by rw [wrap_i64 (by omega) (by omega)]; omega
      have f5 : IntKind.wrap .i64 (((16 + 12 * k : Nat) : Int) + 12) = ((16 + (k + 1) * 12 : Nat) : Int) := by rw [wrap_i64 (by omega) (by omega)]; omega
      rw [f0, f3, f5]
      have nin : ∀ j, Is pg.ga j → w52.heap.size ≤ j := fga
      have hgalt := hown.g.lt
      have kd : Kp no w53 w53.drew := Kp.drew w53 1
      refine ⟨fun w' => Kp (Is pg.ga) w53 w', kd.of_no, pg.ga, pg.gl, pg.gc, fun w' kz => pc3 (kz.blk hb53 fun hh => by have := nin _ hh; omega), ?_⟩
      have hr56 := hr53.kp0 kd
      refine get7_c hr56 hl hb (i := 16 + 12 * k) (s := 4) rfl rfl (by omega) (by omega) ⟨_, rfl, kd.of_no, ?_⟩
      refine get7_c hr56 hl hb (i := 16 + 12 * k + 4) (s := 8) rfl rfl (by omega) (by omega) ⟨_, rfl, kd.of_no, ?_⟩
      refine AlF.intro fun b4 w57 hb4e hb4 k57 s57 => ⟨(kd.trans0 k57).of_no, ?_⟩
      have k5357 := kd.trans0 k57
      have hn1 : Rd w57 (some ⟨b4, 0, none⟩) (grpAt B k).cs := rd_cells hb4 rfl
      refine append_own er_grp (hown.g.kp0 k5357) hn1 rfl (fun h => by cases h) (fun u hu => by simp only [GL.cs, List.mem_cons, List.not_mem_nil, or_false] at hu; rcases hu with rfl | rfl <;> rfl) (by omega) (by omega) fun a' c' w58 hs58 k58 hi58 _ _ => ⟨_, _, _, rfl, (kd.trans0 k57).of_no.trans0 k58, ?_⟩
      have hb58 : Blk w58 b2 pg.cs T_quotaref07_Page := k58.blk (k5357.blk hb53 id) fun hh => by have := nin _ hh; omega
      rw [add_at]
      refine StF.intro hb58 (by simp [PgV.cs]) fun w59 hb59 k59 s59 => ⟨⟨k + 1, { pg with ga := a', gl := pg.gl + 1, gc := c' }, by omega, rfl, rfl, ?_, hb59, hnum, hlsn, ?_, fca, ?_, fun _ => q2 t2', fun h => absurd t2' h⟩, by simp only [Int.toNat_natCast]; omega⟩
      · exact (((k53.trans0 k5357.of_no).trans k58 (fun _ _ h => h) fun j hj hh => by have := nin j hh; omega).trans0 k59)
      · rw [gsK_succ t2']
        have hcn := q2 t2'
        have e0 : csK B (k + 1) = csK B k := by rw [csK_succ2 t2', csK_succ2 t2']
        rw [e0]
        refine Own_push_g (hs58.kp k59 fun j hj hh => ?_) (by omega) (((hown.c.kp0 k5357).kp k58 fun j hj => by rw [hcn] at hj; exact (is_none hj).elim).kp k59 fun j hj => by rw [hcn] at hj; exact (is_none hj).elim) hown.cb
        rcases hi58 j hj with h | h
        · have := nin j h; omega
        · have := k5357.size; have := k53.size; omega
      · intro j hj
        rcases hi58 j hj with h | h
        · exact nin j h
        · have := k5357.size; have := k53.size; omega
  rintro ⟨end0, u33⟩ w62 ⟨hend, pg, k62, hb62, hnum, hlsn, hown, fca, fga, hcg⟩ _
  dsimp only at hend
  subst hend
  refine rd4 (K := fun q => CallF Tryd.prog F_ref07_content #[.agg q] w62 _ _) hb62 ?_
  have k2562 : Kp no w1 w62 := kk52.trans k62 (fun _ _ h => h) fun j hj hh => by omega
  have kw62 : Kp no w w62 := k1.trans0 k2562
  refine content_c (p := pg) hown.to_in fun w63 k63 => ⟨_, rfl, ?_⟩
  have k163 := k2562.trans0 k63
  have kw63 := kw62.trans0 k63
  refine ⟨fun _ w' => w' = w63 ∧ contP (decCs B) (decGs B) = 0, ?_, ?_⟩
  · exact cond_ne (fun g11 => bad (contP (decCs B) (decGs B)) w63 k163 (by rw [hd, if_pos (by omega)]) (by omega)) (fun g11 => ⟨rfl, by omega⟩)
  rintro u36 w119 ⟨hw119, g11⟩ _
  rw [hw119]
  rw [if_neg (by omega)] at hd
  have hr63 := hr.kp0 kw63
  have hsp : dSp B = byteN B 6 + 256 * byteN B 7 := rdN_two (by omega)
  refine idxB hr63 hl (i := 6) (by omega) rfl (K := fun n8 => cond (n8 != 0) _ _) (cond_ne (fun g12 => bad 23 w63 k163 (by rw [hd, if_pos (.inl (by omega))]) (by omega)) (fun g12 => ?_))
  refine idxB hr63 hl (i := 7) (by omega) rfl (K := fun n8 => cond (n8 != 0) _ _) (cond_ne (fun g13 => bad 23 w63 k163 (by rw [hd, if_pos (.inl (by omega))]) (by omega)) (fun g13 => ?_))
  have hdw : dN B * dWide B ≤ 1008 := by
    by_cases h2 : byteN B 1 = 2
    · obtain ⟨x, y⟩ := hdm.2.1 h2; rw [y]; omega
    · obtain ⟨x, y⟩ := hdm.2.2 h2; rw [y]; omega
  refine zeros7_c hr63 hl hb (i := 16 + dN B * dWide B) rfl (by omega) ⟨_, rfl, ?_⟩
  refine cond_not (cond_b (fun g14 => ?_) (fun g14 => bad 23 w63 k163 (by rw [hd, if_pos (.inr g14)]) (by omega)))
  have hd0 : decF B num = 0 := by
    rw [hd, if_neg]
    rintro (h | h)
    · omega
    · rw [g14] at h; cases h
  have hb63 := k63.blk hb62 id
  refine ⟨pg.num, pg.lsn, pg.ca, pg.cl, pg.cc, pg.ga, pg.gl, pg.gc, ⟨pc0 hb63, pc1 hb63, pc2 hb63, pc3 hb63, trivial⟩, ?_⟩
  refine ret4 (K := fun q w' => R (.returned (.tuple #[.agg q, .int .i64 0])) w') (k163.blk hb1 id) rfl fun w' _ k' _ => ?_
  refine h1 hd0 pg w' hnum hlsn ((hown.kp0 k63).kp k' (fun j hj hh => ?_) (fun j hj hh => ?_)) (kp_blk kw63 (by omega) k') (fun j hj => ?_) (fun j hj => ?_) hcg
  · have := fca j hj; omega
  · have := fga j hj; omega
  · have := fca j hj; have := kw52.size; omega
  · have := fga j hj; have := kw52.size; omega
end Go.Proofs.YtnkdonpammdldaaDoor

/- Plain: a page's bytes by the document's puts; they are the program's. Conditions: none. -/
set_option linter.unusedVariables false
set_option linter.unusedSimpArgs false
namespace Go.Proofs.YtnkdonpammdldaaDoor
open Go Go.RowKit

theorem ovr_get {B : List UInt8} {a s n : Nat} (h : a + s ≤ B.length) (i : Nat) : (ovr B a s n)[i]? = if a ≤ i ∧ i < a + s then (leB8 s n)[i - a]? else B[i]? := by
  unfold ovr over
  have hl := leB8_len s n
  rw [hl]
  by_cases h1 : i < a
  · rw [if_neg (by omega), List.append_assoc, List.getElem?_append_left (by simp; omega), List.getElem?_take, if_pos h1]
  · by_cases h2 : i < a + s
    · rw [if_pos (by omega), List.append_assoc, List.getElem?_append_right (by simp; omega), List.getElem?_append_left (by simp; omega)]
      congr 1
      simp
      omega
    · rw [if_neg (by omega), List.getElem?_append_right (by simp; omega), List.getElem?_drop]
      congr 1
      simp
      omega
theorem ovr_idem {B : List UInt8} {a s m n : Nat} (h : a + s ≤ B.length) : ovr (ovr B a s m) a s n = ovr B a s n := by
  apply List.ext_getElem?
  intro i
  rw [ovr_get (n := n) (by rw [ovr_len h]; exact h), ovr_get (n := n) h]
  split
  · rfl
  · rw [ovr_get h, if_neg (by assumption)]
theorem ovr_same {B : List UInt8} {a s n : Nat} (h : a + s ≤ B.length) (hz : ∀ i, i < s → B[a + i]? = (leB8 s n)[i]?) : ovr B a s n = B := by
  apply List.ext_getElem?
  intro i
  rw [ovr_get h]
  split
  · rename_i hi
    rw [← hz (i - a) (by omega)]
    congr 1
    omega
  · rfl
theorem ovr_one {B : List UInt8} {i : Nat} {x : UInt8} (h : i < B.length) : ovr B i 1 x.toNat = B.set i x := by
  apply List.ext_getElem?
  intro j
  rw [ovr_get (by omega), List.getElem?_set]
  by_cases hj : i = j
  · subst hj
    rw [if_pos (by omega), if_pos rfl, if_pos h]
    have hx := u8_lt x
    simp only [leB8, Nat.sub_self, List.getElem?_cons_zero]
    rw [Nat.mod_eq_of_lt hx]
    simp
  · rw [if_neg (by omega), if_neg hj]

theorem putR_ovr {B : List UInt8} {a s n : Nat} (h1 : 1 ≤ s) (h8 : s ≤ 8) (hl : a + s ≤ B.length) (hn : n < 256 ^ s) : putR B (a : Int) (s : Int) n = (ovr B a s n, 0) := by
  unfold putR
  rw [if_pos ⟨by omega, by omega, by omega, by omega⟩, Int.toNat_natCast, Int.toNat_natCast, if_pos hn]
  unfold ovr
  rfl

def headO (num n lsn k : Nat) : List UInt8 := ovr (ovr (ovr (ovr (ovr page0 0 1 113) 1 1 k) 2 2 num) 4 2 n) 8 4 lsn
def ctrO (B : List UInt8) (i : Nat) (c : CL) : List UInt8 := ovr (ovr (ovr (ovr (ovr B (16 + 32 * i) 4 (u64n c.id)) (16 + 32 * i + 4) 4 (u64n c.grp)) (16 + 32 * i + 8) 8 (u64n c.lo)) (16 + 32 * i + 16) 8 (u64n c.hi)) (16 + 32 * i + 24) 8 (u64n c.val)
def grpO (B : List UInt8) (i : Nat) (g : GL) : List UInt8 := ovr (ovr B (16 + 12 * i) 4 (u64n g.id)) (16 + 12 * i + 4) 8 (u64n g.sum)
def ctrsO : List UInt8 → Nat → List CL → List UInt8
  | B, _, [] => B
  | B, i, c :: r => ctrsO (ctrO B i c) (i + 1) r
def grpsO : List UInt8 → Nat → List GL → List UInt8
  | B, _, [] => B
  | B, i, g :: r => grpsO (grpO B i g) (i + 1) r
def sealO (B : List UInt8) : List UInt8 := ovr B 12 4 (psumN B)
def bodyO (num lsn : Int) (cs : List CL) (gs : List GL) : List UInt8 := grpsO (ctrsO (headO (u64n num) (cs.length + gs.length) (u64n lsn) (kindN gs)) 0 cs) 0 gs
def encO (num lsn : Int) (cs : List CL) (gs : List GL) : List UInt8 := if cs.length + gs.length = 0 then page0 else sealO (bodyO num lsn cs gs)

theorem headO_len (a b c d : Nat) : (headO a b c d).length = 1024 := by
  have h0 := page0_len
  unfold headO
  have h1 : (ovr page0 0 1 113).length = 1024 := by rw [ovr_len (by omega)]; exact h0
  have h2 : (ovr (ovr page0 0 1 113) 1 1 d).length = 1024 := by rw [ovr_len (by omega)]; exact h1
  have h3 : (ovr (ovr (ovr page0 0 1 113) 1 1 d) 2 2 a).length = 1024 := by rw [ovr_len (by omega)]; exact h2
  have h4 : (ovr (ovr (ovr (ovr page0 0 1 113) 1 1 d) 2 2 a) 4 2 b).length = 1024 := by rw [ovr_len (by omega)]; exact h3
  rw [ovr_len (by omega)]; exact h4
theorem ctrO_len {B : List UInt8} {i : Nat} {c : CL} (h : 16 + 32 * i + 32 ≤ B.length) : (ctrO B i c).length = B.length := by
  unfold ctrO
  have l1 : (ovr B (16 + 32 * i) 4 (u64n c.id)).length = B.length := ovr_len (by omega)
  generalize ovr B (16 + 32 * i) 4 (u64n c.id) = B1 at *
  have l2 : (ovr B1 (16 + 32 * i + 4) 4 (u64n c.grp)).length = B.length := by rw [ovr_len (by omega), l1]
  generalize ovr B1 (16 + 32 * i + 4) 4 (u64n c.grp) = B2 at *
  have l3 : (ovr B2 (16 + 32 * i + 8) 8 (u64n c.lo)).length = B.length := by rw [ovr_len (by omega), l2]
  generalize ovr B2 (16 + 32 * i + 8) 8 (u64n c.lo) = B3 at *
  have l4 : (ovr B3 (16 + 32 * i + 16) 8 (u64n c.hi)).length = B.length := by rw [ovr_len (by omega), l3]
  rw [ovr_len (by omega), l4]
theorem grpO_len {B : List UInt8} {i : Nat} {c : GL} (h : 16 + 12 * i + 12 ≤ B.length) : (grpO B i c).length = B.length := by
  unfold grpO
  have l1 : (ovr B (16 + 12 * i) 4 (u64n c.id)).length = B.length := ovr_len (by omega)
  rw [ovr_len (by omega), l1]
theorem ctrsO_len : ∀ (cs : List CL) (B : List UInt8) (i : Nat), 16 + 32 * (i + cs.length) ≤ B.length → (ctrsO B i cs).length = B.length
  | [], _, _, _ => rfl
  | c :: r, B, i, h => by
    rw [List.length_cons] at h
    rw [ctrsO, ctrsO_len r _ _ (by rw [ctrO_len (by omega)]; omega), ctrO_len (by omega)]
theorem grpsO_len : ∀ (cs : List GL) (B : List UInt8) (i : Nat), 16 + 12 * (i + cs.length) ≤ B.length → (grpsO B i cs).length = B.length
  | [], _, _, _ => rfl
  | c :: r, B, i, h => by
    rw [List.length_cons] at h
    rw [grpsO, grpsO_len r _ _ (by rw [grpO_len (by omega)]; omega), grpO_len (by omega)]
theorem bodyO_len {num lsn : Int} {cs : List CL} {gs : List GL} (h1 : cs.length ≤ 31) (h2 : gs.length ≤ 84) : (bodyO num lsn cs gs).length = 1024 := by
  have h := headO_len (u64n num) (cs.length + gs.length) (u64n lsn) (kindN gs)
  have hc := ctrsO_len cs (headO (u64n num) (cs.length + gs.length) (u64n lsn) (kindN gs)) 0 (by omega)
  unfold bodyO
  rw [grpsO_len _ _ _ (by omega)]
  omega
theorem sealO_len {B : List UInt8} (h : 16 ≤ B.length) : (sealO B).length = B.length := ovr_len (by omega)

theorem fits_u64 {n : Int} (h : fits1 n) : u64n n < 256 ^ 4 ∧ (u64n n : Int) = n := by
  obtain ⟨h1, h2⟩ := h
  unfold u64n
  rw [Int.emod_eq_of_lt (by omega) (by omega)]
  constructor <;> omega
theorem small_u64 {n : Int} (h : 0 ≤ n ∧ n ≤ 2147483647) : (u64n n : Int) = n := by
  unfold u64n
  rw [Int.emod_eq_of_lt (by omega) (by omega)]
  omega

theorem ctr1_eq {B : List UInt8} {i : Nat} {c : CL} (h : 16 + 32 * i + 32 ≤ B.length) (hf : faultC c = 0) : ctr1 B i c = ctrO B i c := by
  have hfit : fits1 c.id ∧ fits1 c.grp := by
    unfold faultC at hf
    split at hf
    · assumption
    · cases hf
  have n1 := (fits_u64 hfit.1).1
  have n2 := (fits_u64 hfit.2).1
  have n3 : u64n c.lo < 256 ^ 8 := u64n_lt _
  have n4 : u64n c.hi < 256 ^ 8 := u64n_lt _
  have n5 : u64n c.val < 256 ^ 8 := u64n_lt _
  unfold ctr1 ctrO
  generalize hz : 16 + 32 * i = z at *
  unfold ctrS ctrN
  simp only [List.zip_cons_cons, List.zip_nil_right, laidP]
  have c1 : ((z : Nat) : Int) + 4 = ((z + 4 : Nat) : Int) := by omega
  have c2 : ((z + 4 : Nat) : Int) + 4 = ((z + 8 : Nat) : Int) := by omega
  have c3 : ((z + 8 : Nat) : Int) + 8 = ((z + 16 : Nat) : Int) := by omega
  have c4 : ((z + 16 : Nat) : Int) + 8 = ((z + 24 : Nat) : Int) := by omega
  rw [c1, c2, c3, c4]
  have f1 : (4 : Int) = ((4 : Nat) : Int) := rfl
  have f2 : (8 : Int) = ((8 : Nat) : Int) := rfl
  rw [f1, f2]
  have l1 : (ovr B z 4 (u64n c.id)).length = B.length := ovr_len (by omega)
  have l2 : (ovr (ovr B z 4 (u64n c.id)) (z + 4) 4 (u64n c.grp)).length = B.length := by rw [ovr_len (by omega), l1]
  have l3 : (ovr (ovr (ovr B z 4 (u64n c.id)) (z + 4) 4 (u64n c.grp)) (z + 8) 8 (u64n c.lo)).length = B.length := by rw [ovr_len (by omega), l2]
  have l4 : (ovr (ovr (ovr (ovr B z 4 (u64n c.id)) (z + 4) 4 (u64n c.grp)) (z + 8) 8 (u64n c.lo)) (z + 16) 8 (u64n c.hi)).length = B.length := by rw [ovr_len (by omega), l3]
  rw [putR_ovr (B := B) (by omega) (by omega) (by omega) n1]
  dsimp only
  generalize ovr B z 4 (u64n c.id) = B1 at *
  rw [putR_ovr (B := B1) (by omega) (by omega) (by omega) n2]
  dsimp only
  generalize ovr B1 (z + 4) 4 (u64n c.grp) = B2 at *
  rw [putR_ovr (B := B2) (by omega) (by omega) (by omega) n3]
  dsimp only
  generalize ovr B2 (z + 8) 8 (u64n c.lo) = B3 at *
  rw [putR_ovr (B := B3) (by omega) (by omega) (by omega) n4]
  dsimp only
  generalize ovr B3 (z + 16) 8 (u64n c.hi) = B4 at *
  rw [putR_ovr (B := B4) (by omega) (by omega) (by omega) n5]
theorem grp1_eq {B : List UInt8} {i : Nat} {g : GL} (h : 16 + 12 * i + 12 ≤ B.length) (hf : faultG g = 0) : grp1 B i g = grpO B i g := by
  have hfit : fits1 g.id := by
    unfold faultG at hf
    split at hf
    · assumption
    · cases hf
  have n1 := (fits_u64 hfit).1
  have n2 : u64n g.sum < 256 ^ 8 := u64n_lt _
  unfold grp1 grpO
  generalize hz : 16 + 12 * i = z at *
  unfold grpS grpN
  simp only [List.zip_cons_cons, List.zip_nil_right, laidP]
  have c1 : ((z : Nat) : Int) + 4 = ((z + 4 : Nat) : Int) := by omega
  rw [c1]
  have f1 : (4 : Int) = ((4 : Nat) : Int) := rfl
  have f2 : (8 : Int) = ((8 : Nat) : Int) := rfl
  rw [f1, f2]
  have l1 : (ovr B z 4 (u64n g.id)).length = B.length := ovr_len (by omega)
  rw [putR_ovr (B := B) (by omega) (by omega) (by omega) n1]
  dsimp only
  generalize ovr B z 4 (u64n g.id) = B1 at *
  rw [putR_ovr (B := B1) (by omega) (by omega) (by omega) n2]
theorem ctrsP_eq : ∀ (cs : List CL) (B : List UInt8) (i : Nat), 16 + 32 * (i + cs.length) ≤ B.length → (∀ c ∈ cs, faultC c = 0) → ctrsP B i cs = ctrsO B i cs
  | [], _, _, _, _ => rfl
  | c :: r, B, i, h, hf => by
    rw [List.length_cons] at h
    rw [ctrsP, ctrsO, ctr1_eq (by omega) (hf c (List.mem_cons_self ..)), ctrsP_eq r _ _ (by rw [ctrO_len (by omega)]; omega) fun x hx => hf x (List.mem_cons_of_mem _ hx)]
theorem grpsP_eq : ∀ (cs : List GL) (B : List UInt8) (i : Nat), 16 + 12 * (i + cs.length) ≤ B.length → (∀ c ∈ cs, faultG c = 0) → grpsP B i cs = grpsO B i cs
  | [], _, _, _, _ => rfl
  | c :: r, B, i, h, hf => by
    rw [List.length_cons] at h
    rw [grpsP, grpsO, grp1_eq (by omega) (hf c (List.mem_cons_self ..)), grpsP_eq r _ _ (by rw [grpO_len (by omega)]; omega) fun x hx => hf x (List.mem_cons_of_mem _ hx)]

theorem firstF_zero : ∀ {l : List Nat}, firstF l = 0 → ∀ e ∈ l, e = 0
  | [], _, e, he => by cases he
  | x :: r, h, e, he => by
    unfold firstF at h
    split at h
    · rcases List.mem_cons.1 he with rfl | he
      · assumption
      · exact firstF_zero h e he
    · exact absurd h (by assumption)
theorem contP_zero {cs : List CL} {gs : List GL} (h : contP cs gs = 0) : (∀ c ∈ cs, faultC c = 0) ∧ (∀ g ∈ gs, faultG g = 0) := by
  have := firstF_zero h
  exact ⟨fun c hc => this _ (List.mem_append_left _ (List.mem_map_of_mem hc)), fun g hg => this _ (List.mem_append_right _ (List.mem_map_of_mem hg))⟩
/-- A page that isn't refused. -/
structure Right (num lsn : Int) (cs : List CL) (gs : List GL) : Prop where
  hnum : 0 ≤ num ∧ num ≤ 63
  one : cs.length = 0 ∨ gs.length = 0
  c : cs.length ≤ 31
  g : gs.length ≤ 84
  hlsn : 0 ≤ lsn ∧ lsn ≤ 2147483647
  lz : lsn = 0 ↔ cs.length + gs.length = 0
  fc : ∀ c ∈ cs, faultC c = 0
  fg : ∀ g ∈ gs, faultG g = 0
theorem right_of {num lsn : Int} {cs : List CL} {gs : List GL} (h : refP num lsn cs gs = 0) : Right num lsn cs gs := by
  unfold refP at h
  split at h
  · cases h
  · split at h
    · cases h
    · split at h
      · cases h
      · split at h
        · cases h
        · obtain ⟨h1, h2⟩ := contP_zero h
          exact ⟨by omega, by omega, by omega, by omega, by omega, by omega, h1, h2⟩

theorem page0_get (i : Nat) (h : i < 1024) : page0[i]? = some 0 := by unfold page0; rw [List.getElem?_replicate, if_pos h]
theorem laid_head {num lsn n k : Nat} (h1 : k < 256) (h2 : num < 65536) (h3 : n < 65536) (h4 : lsn < 4294967296) : laidP page0 0 (headS.zip [113, k, num, n, 0, lsn]) = headO num n lsn k := by
  unfold headS headO
  generalize hp : page0 = P0
  have h0 : P0.length = 1024 := by rw [← hp]; exact page0_len
  simp only [List.zip_cons_cons, List.zip_nil_right, laidP]
  have a1 : (0 : Int) + 1 = ((1 : Nat) : Int) := rfl
  have a2 : ((1 : Nat) : Int) + 1 = ((2 : Nat) : Int) := rfl
  have a3 : ((2 : Nat) : Int) + 2 = ((4 : Nat) : Int) := rfl
  have a4 : ((4 : Nat) : Int) + 2 = ((6 : Nat) : Int) := rfl
  have a5 : ((6 : Nat) : Int) + 2 = ((8 : Nat) : Int) := rfl
  rw [a1, a2, a3, a4, a5]
  have f0 : (0 : Int) = ((0 : Nat) : Int) := rfl
  have f1 : (1 : Int) = ((1 : Nat) : Int) := rfl
  have f2 : (2 : Int) = ((2 : Nat) : Int) := rfl
  have f4 : (4 : Int) = ((4 : Nat) : Int) := rfl
  rw [f0, f1, f2, f4]
  have l1 : (ovr P0 0 1 113).length = 1024 := by rw [ovr_len (by omega)]; exact h0
  have l2 : (ovr (ovr P0 0 1 113) 1 1 k).length = 1024 := by rw [ovr_len (by omega)]; exact l1
  have l3 : (ovr (ovr (ovr P0 0 1 113) 1 1 k) 2 2 num).length = 1024 := by rw [ovr_len (by omega)]; exact l2
  have l4 : (ovr (ovr (ovr (ovr P0 0 1 113) 1 1 k) 2 2 num) 4 2 n).length = 1024 := by rw [ovr_len (by omega)]; exact l3
  have hz : ovr (ovr (ovr (ovr (ovr P0 0 1 113) 1 1 k) 2 2 num) 4 2 n) 6 2 0 = ovr (ovr (ovr (ovr P0 0 1 113) 1 1 k) 2 2 num) 4 2 n := by
    refine ovr_same (by omega) fun i hi => ?_
    rw [ovr_get (by omega), if_neg (by omega), ovr_get (by omega), if_neg (by omega), ovr_get (by omega), if_neg (by omega), ovr_get (by omega), if_neg (by omega), ← hp, page0_get _ (by omega)]
    have : i = 0 ∨ i = 1 := by omega
    rcases this with rfl | rfl <;> rfl
  rw [putR_ovr (B := P0) (by omega) (by omega) (by omega) (by omega)]
  dsimp only
  generalize ovr P0 0 1 113 = B1 at *
  rw [putR_ovr (B := B1) (by omega) (by omega) (by omega) (by omega)]
  dsimp only
  generalize ovr B1 1 1 k = B2 at *
  rw [putR_ovr (B := B2) (by omega) (by omega) (by omega) (by omega)]
  dsimp only
  generalize ovr B2 2 2 num = B3 at *
  rw [putR_ovr (B := B3) (by omega) (by omega) (by omega) (by omega)]
  dsimp only
  generalize ovr B3 4 2 n = B4 at *
  rw [putR_ovr (B := B4) (by omega) (by omega) (by omega) (by omega)]
  dsimp only
  rw [hz, putR_ovr (by omega) (by omega) (by omega) (by omega)]

theorem encB_eq {num lsn : Int} {cs : List CL} {gs : List GL} (h : refP num lsn cs gs = 0) : encB num lsn cs gs = encO num lsn cs gs := by
  have hR := right_of h
  obtain ⟨h1, h2, h3, h4, h5, h6, h7, h8⟩ := hR
  unfold encB encO
  split
  · rfl
  · have e1 := small_u64 (n := num) (by omega)
    have e2 := small_u64 (n := lsn) (by omega)
    have hk : (if 0 < gs.length then 2 else 1) = kindN gs := rfl
    have hk3 : kindN gs < 256 := by unfold kindN; split <;> omega
    have hb : bodyP num lsn cs gs = bodyO num lsn cs gs := by
      unfold bodyP bodyO
      rw [hk, laid_head hk3 (by omega) (by omega) (by omega)]
      have hl := headO_len (u64n num) (cs.length + gs.length) (u64n lsn) (kindN gs)
      generalize headO (u64n num) (cs.length + gs.length) (u64n lsn) (kindN gs) = H at *
      have hc := ctrsO_len cs H 0 (by omega)
      rw [ctrsP_eq cs _ _ (by omega) h7, grpsP_eq gs _ _ (by omega) h8]
    rw [hb]
    have hbl := bodyO_len (num := num) (lsn := lsn) h3 h4
    generalize bodyO num lsn cs gs = X at *
    have hps : psumN X < 4294967296 := Nat.xor_lt_two_pow (n := 32) (fold_lt _ _ (by omega)) (by omega)
    unfold sealO sumS
    generalize psumN X = z at *
    simp only [List.zip_cons_cons, List.zip_nil_right, laidP]
    have f1 : (12 : Int) = ((12 : Nat) : Int) := rfl
    have f4 : (4 : Int) = ((4 : Nat) : Int) := rfl
    rw [f1, f4, putR_ovr (by omega) (by omega) (by omega) (by omega)]
end Go.Proofs.YtnkdonpammdldaaDoor

/- The contract of the document's Encode. Conditions: lengths below 2^46. -/
set_option linter.unusedVariables false
set_option linter.unusedSimpArgs false
namespace Go.Proofs.YtnkdonpammdldaaDoor
open Go Go.RowKit

/-- Where a writer stands: bytes of its own, a copy of what came in, nothing old turned. -/
structure EncT (T : TypeId) (cs : Array Value) (w w1 : World) (b1 : Nat) (a : Option Addr) (B : List UInt8) : Prop where
  kp : Kp no w w1
  cp : Blk w1 b1 cs T
  sl : Sl w1 T_uint8 1 a 1024 1024 (bvs B)
  fr : Fresh w a
  ap : ¬ Is a b1
section
variable {T : TypeId} {cs : Array Value} {w w1 w2 : World} {b1 : Nat} {a : Option Addr} {B B' : List UInt8}
theorem EncT.kp0 (h : EncT T cs w w1 b1 a B) (k : Kp no w1 w2) : EncT T cs w w2 b1 a B :=
  ⟨h.kp.trans0 k, k.blk h.cp id, h.sl.kp0 k, h.fr, h.ap⟩
theorem EncT.turn (h : EncT T cs w w1 b1 a B) (k : Kp (Is a) w1 w2) (hs : Sl w2 T_uint8 1 a 1024 1024 (bvs B')) : EncT T cs w w2 b1 a B' :=
  ⟨h.kp.trans k (fun _ _ h => h) fun j hj hh => by have := h.fr j hh; omega, k.blk h.cp h.ap, hs, h.fr, h.ap⟩
theorem EncT.len (h : EncT T cs w w1 b1 a B) : B.length = 1024 := by have := h.sl.len; rwa [bvs_len] at this

theorem encT_put {at_ size nn : Int} {i s n : Nat} {R : Ending → World → Prop} (hE : EncT T cs w w1 b1 a B) (hi : at_ = (i : Int)) (hs : size = (s : Int)) (hs8 : s ≤ 8) (hl : i + s ≤ 1024) (hn : n < 18446744073709551616) (hnn : nn = (n : Int))
    (h : ∀ w', EncT T cs w w' b1 a (ovr B i s n) → Kp (Is a) w1 w' → R (.returned (.tuple #[])) w') :
    GoC Tryd.prog F_ref07_put #[.slice a 1024 1024, .int .i64 at_, .int .i64 size, .int .u64 nn] w1 R :=
  put7_c hE.sl (by omega) hi hs hs8 hl hn hnn fun w' hs' k' => h w' (hE.turn k' hs') k'

/-- One byte set. -/
theorem encT_set {i : Nat} {n : Int} {x : UInt8} {K : World → Prop} (hE : EncT T cs w w1 b1 a B) (hi : i < 1024) (hn : n = (i : Int)) {m : Int} (hm : m = (x.toNat : Int))
    (h : ∀ w', EncT T cs w w' b1 a (ovr B i 1 x.toNat) → Kp (Is a) w1 w' → K w') : IdxF a n 1024 fun d => StF w1 (d.add (Int.toNat n)) (.int .u8 m) K := by
  subst hn hm
  have hBl := hE.len
  obtain ⟨b, cur, ha, hblk, _⟩ := hE.sl.addr (by omega)
  refine ⟨by omega, by omega, _, ha, ?_⟩
  dsimp only
  rw [Int.toNat_natCast, add_at]
  refine hE.sl.put (i := i) hi ha fun w' hs' k' _ => h w' (hE.turn k' ?_) k'
  rw [ovr_one (by omega), bvs, List.map_set]
  exact hs'
end

/-- One counter's five numbers, put one behind the other. -/
theorem encT_ctr {T : TypeId} {cs : Array Value} {w w1 : World} {b1 : Nat} {a : Option Addr} {B : List UInt8} {i : Nat} {c : CL} {b2 : Nat} {P1 P2 P3 P4 P5 : Int} {C : List PanicEntry → World → Prop} {K : World → Prop} (hE : EncT T cs w w1 b1 a B) (hi : 16 + 32 * i + 32 ≤ 1024)
    (hb2 : Blk w1 b2 #[.int .i64 c.id, .int .i64 c.grp, .int .i64 c.lo, .int .i64 c.hi, .int .i64 c.val] T_api_Counter) (hna : ¬ Is a b2)
    (h1 : P1 = ((16 + 32 * i : Nat) : Int)) (h2 : P2 = ((16 + 32 * i + 4 : Nat) : Int)) (h3 : P3 = ((16 + 32 * i + 8 : Nat) : Int)) (h4 : P4 = ((16 + 32 * i + 16 : Nat) : Int)) (h5 : P5 = ((16 + 32 * i + 24 : Nat) : Int))
    (h : ∀ w', EncT T cs w w' b1 a (ctrO B i c) → Kp (Is a) w1 w' → K w') :
    ∃ n1 : Int, w1.cell? ⟨b2, 0, none⟩ = some (.int .i64 n1) ∧ CallF Tryd.prog F_ref07_put #[.slice a 1024 1024, .int .i64 P1, .int .i64 4, .int .u64 (IntKind.wrap .u64 n1)] w1 (fun r w2 => r = .tuple #[] ∧
    ∃ n2 : Int, w2.cell? (Addr.add ⟨b2, 0, none⟩ 1) = some (.int .i64 n2) ∧ CallF Tryd.prog F_ref07_put #[.slice a 1024 1024, .int .i64 P2, .int .i64 4, .int .u64 (IntKind.wrap .u64 n2)] w2 (fun r w3 => r = .tuple #[] ∧
    ∃ n3 : Int, w3.cell? (Addr.add ⟨b2, 0, none⟩ 2) = some (.int .i64 n3) ∧ CallF Tryd.prog F_ref07_put #[.slice a 1024 1024, .int .i64 P3, .int .i64 8, .int .u64 (IntKind.wrap .u64 n3)] w3 (fun r w4 => r = .tuple #[] ∧
    ∃ n4 : Int, w4.cell? (Addr.add (Addr.add ⟨b2, 0, none⟩ 2) 1) = some (.int .i64 n4) ∧ CallF Tryd.prog F_ref07_put #[.slice a 1024 1024, .int .i64 P4, .int .i64 8, .int .u64 (IntKind.wrap .u64 n4)] w4 (fun r w5 => r = .tuple #[] ∧
    ∃ n5 : Int, w5.cell? (Addr.add ⟨b2, 0, none⟩ 4) = some (.int .i64 n5) ∧ CallF Tryd.prog F_ref07_put #[.slice a 1024 1024, .int .i64 P5, .int .i64 8, .int .u64 (IntKind.wrap .u64 n5)] w5 (fun r w6 => r = .tuple #[] ∧ K w6) C) C) C) C) C := by
  subst h1 h2 h3 h4 h5
  refine ⟨_, hb2.cell 0, encT_put hE rfl (s := 4) rfl (by omega) (by omega) (u64n_lt c.id) (u64_code _) fun w2 E2 k2 => ⟨rfl, ?_⟩⟩
  have c2 := k2.blk hb2 hna
  refine ⟨_, by rw [add_at]; exact c2.cell 1, encT_put E2 rfl (s := 4) rfl (by omega) (by omega) (u64n_lt c.grp) (u64_code _) fun w3 E3 k3 => ⟨rfl, ?_⟩⟩
  have c3 := k3.blk c2 hna
  refine ⟨_, by rw [add_at]; exact c3.cell 2, encT_put E3 rfl (s := 8) rfl (by omega) (by omega) (u64n_lt c.lo) (u64_code _) fun w4 E4 k4 => ⟨rfl, ?_⟩⟩
  have c4 := k4.blk c3 hna
  refine ⟨_, by rw [add_at, add_at]; exact c4.cell 3, encT_put E4 rfl (s := 8) rfl (by omega) (by omega) (u64n_lt c.hi) (u64_code _) fun w5 E5 k5 => ⟨rfl, ?_⟩⟩
  have c5 := k5.blk c4 hna
  refine ⟨_, by rw [add_at]; exact c5.cell 4, encT_put E5 rfl (s := 8) rfl (by omega) (by omega) (u64n_lt c.val) (u64_code _) fun w6 E6 k6 => ⟨rfl, ?_⟩⟩
  exact h w6 E6 ((((k2.trans0 k3).trans0 k4).trans0 k5).trans0 k6)

theorem st5 {w : World} {b : Nat} {cur : Array Value} {T : TypeId} (hb : Blk w b cur T) (hs : cur.size = 5) {v0 v1 v2 v3 v4 : Value} {K : World → Prop}
    (h : ∀ w', Blk w' b #[v0, v1, v2, v3, v4] T → Kp (fun k => k = b) w w' → w'.heap.size = w.heap.size → K w') :
    StF w ⟨b, 0, none⟩ v0 fun w1 => StF w1 (Addr.add ⟨b, 0, none⟩ 1) v1 fun w2 => StF w2 (Addr.add ⟨b, 0, none⟩ 2) v2 fun w3 => StF w3 (Addr.add ⟨b, 0, none⟩ 3) v3 fun w4 => StF w4 (Addr.add ⟨b, 0, none⟩ 4) v4 K := by
  refine StF.intro hb (by omega) fun w1 hb1 k1 e1 => ?_
  rw [add_at, add_at, add_at, add_at]
  refine StF.intro hb1 (by simp; omega) fun w2 hb2 k2 e2 => StF.intro hb2 (by simp; omega) fun w3 hb3 k3 e3 => StF.intro hb3 (by simp; omega) fun w4 hb4 k4 e4 => StF.intro hb4 (by simp; omega) fun w5 hb5 k5 e5 => h w5 ?_ ((((k1.trans0 k2).trans0 k3).trans0 k4).trans0 k5) (by omega)
  have : ((((cur.setIfInBounds 0 v0).setIfInBounds (0 + 1) v1).setIfInBounds (0 + 2) v2).setIfInBounds (0 + 3) v3).setIfInBounds (0 + 4) v4 = #[v0, v1, v2, v3, v4] := by
    apply Array.ext_getElem?
    intro i
    simp only [Array.getElem?_setIfInBounds]
    match i with
    | 0 => simp [hs]
    | 1 => simp [hs]
    | 2 => simp [hs]
    | 3 => simp [hs]
    | 4 => simp [hs]
    | i + 5 => simp [hs]
  rw [this] at hb5
  exact hb5
theorem grpI1 {w : World} {a : Option Addr} {L : List GL} (h : GsIn w a L) {i : Nat} (hi : i < L.length) {l : Nat} (hl : L.length = l) {n : Int} (hn : n = (i : Int)) {K : Int → Prop} (hk : K (L[i]).sum) :
    IdxF a n l fun d => ∃ n1 : Int, w.cell? (Addr.add (d.add (Int.toNat n * 2)) 1) = some (.int .i64 n1) ∧ K n1 := by
  subst hn
  obtain ⟨b, o, ha, hc⟩ := h i hi
  refine ⟨by omega, by omega, _, ha, _, ?_, hk⟩
  rw [Int.toNat_natCast, add_at, add_at]
  exact hc 1 _ rfl

theorem encode7_c {w : World} {p : PgV} {cs : List CL} {gs : List GL} {R : Ending → World → Prop} (hp : p.In w cs gs)
    (h0 : refP p.num p.lsn cs gs ≠ 0 → ∀ w', Kp no w w' → R (.returned (.tuple #[.slice none 0 0, .int .i64 (refP p.num p.lsn cs gs : Int)])) w')
    (h1 : refP p.num p.lsn cs gs = 0 → ∀ a w', Sl w' T_uint8 1 a 1024 1024 (bvs (encO p.num p.lsn cs gs)) → Kp no w w' → Fresh w a → R (.returned (.tuple #[.slice a 1024 1024, .int .i64 0])) w') :
    GoC Tryd.prog F_ref07_Encode #[.agg p.cs] w R := by
  refine S_ref07_Encode ?_
  unfold W_ref07_Encode
  have hcl := hp.cl
  have hgl := hp.gl
  refine AlF.intro fun b1 w1 hb1e hb1 k1 _ => ?_
  have hb1' : Blk w1 b1 p.cs T_quotaref07_Page := hb1
  refine ⟨_, _, _, _, _, _, _, _, ⟨pc0 hb1', pc1 hb1', pc2 hb1', pc3 hb1', trivial⟩, ?_⟩
  refine fault_c (p := p) (hp.kp0 k1) fun w2 k2 => ⟨_, rfl, cond_ne (fun hne => h0 (by omega) w2 (k1.trans0 k2)) (fun he => ?_)⟩
  have he0 : refP p.num p.lsn cs gs = 0 := by omega
  have h1' := h1 he0
  have hR := right_of he0
  refine make_u8 (n := 1024) (by omega) fun bb w3 cur hbb hcur k3 hbe => ⟨_, _, _, rfl, ?_⟩
  have k13 : Kp no w1 w3 := k2.trans0 k3
  have hb13 := k13.blk hb1' id
  have hsl3 := sl_new hbb hcur
  have s1 := k1.size
  have s2 := k2.size
  have hb1lt := hb1.lt
  refine ⟨_, _, _, pc2 hb13, _, _, _, pc3 hb13, ?_⟩
  have hfr : Fresh w (some ⟨bb, 0, none⟩) := by rintro k ⟨ad, had, rfl⟩; cases had; dsimp only; omega
  have E3 : EncT T_quotaref07_Page p.cs w w3 b1 (some ⟨bb, 0, none⟩) page0 := ⟨k1.trans0 k13, hb13, hsl3, hfr, by rintro ⟨ad, had, hh⟩; cases had; dsimp only at hh; omega⟩
  generalize (some ⟨bb, 0, none⟩ : Option Addr) = a at *
  have hc31 := hR.c
  have hg84 := hR.g
  have ew : IntKind.wrap .i64 ((p.cl : Int) + (p.gl : Int)) = ((cs.length + gs.length : Nat) : Int) := by rw [wrap_i64 (by omega) (by omega)]; omega
  rw [ew]
  refine cond_eq (fun hz0 => ?_) (fun hnz => ?_)
  · refine h1' a w3 ?_ E3.kp E3.fr
    unfold encO
    rw [if_pos (by omega)]
    exact E3.sl
  refine encT_set (x := 113) E3 (i := 0) (by omega) rfl rfl fun w4 E4 k4 => ?_
  refine encT_set (x := 1) E4 (i := 1) (by omega) rfl rfl fun w5 E5 k5 => ?_
  have hp0 := page0_len
  refine ⟨fun _ w' => EncT T_quotaref07_Page p.cs w w' b1 a (ovr (ovr page0 0 1 113) 1 1 (kindN gs)), ?_, ?_⟩
  · refine ⟨_, _, _, pc3 E5.cp, cond_d (fun hg => ?_) (fun hg => ?_)⟩
    · refine encT_set (x := 2) E5 (i := 1) (by omega) rfl rfl fun w6 E6 k6 => ?_
      have e : kindN gs = (2 : UInt8).toNat := by unfold kindN; rw [if_pos (by omega)]; rfl
      rw [e]
      have e2 := ovr_idem (B := ovr page0 0 1 (113 : UInt8).toNat) (a := 1) (s := 1) (m := (1 : UInt8).toNat) (n := (2 : UInt8).toNat) (by rw [ovr_len (by omega)]; omega)
      rw [e2] at E6
      exact E6
    · have e : kindN gs = (1 : UInt8).toNat := by unfold kindN; rw [if_neg (by omega)]; rfl
      rw [e]
      exact E5
  rintro u11 w6 E6 _
  refine ⟨_, pc0 E6.cp, encT_put E6 (i := 2) rfl (s := 2) rfl (by omega) (by omega) (u64n_lt p.num) (u64_code _) fun w7 E7 k7 => ⟨rfl, ?_⟩⟩
  refine ⟨_, _, _, pc2 E7.cp, _, _, _, pc3 E7.cp, ?_⟩
  rw [ew]
  refine encT_put E7 (i := 4) rfl (s := 2) rfl (by omega) (by omega) (n := cs.length + gs.length) (by omega) (wrap_u64 (by omega) (by omega)) fun w8 E8 k8 => ⟨rfl, ?_⟩
  refine ⟨_, pc1 E8.cp, encT_put E8 (i := 8) rfl (s := 4) rfl (by omega) (by omega) (u64n_lt p.lsn) (u64_code _) fun w9 E9 k9 => ⟨rfl, ?_⟩⟩
  have E9' : EncT T_quotaref07_Page p.cs w w9 b1 a (headO (u64n p.num) (cs.length + gs.length) (u64n p.lsn) (kindN gs)) := E9
  clear E9
  generalize hH : headO (u64n p.num) (cs.length + gs.length) (u64n p.lsn) (kindN gs) = H at E9'
  refine loopN (fun s w' => ∃ (k : Nat) (B : List UInt8), k ≤ cs.length ∧ s.1 = (k : Int) ∧ EncT T_quotaref07_Page p.cs w w' b1 a B ∧ ctrsO B k (cs.drop k) = ctrsO H 0 cs) (fun s _ => cs.length - s.1.toNat) ⟨0, H, Nat.zero_le _, rfl, E9', rfl⟩ ?_
  rintro ⟨k0, u⟩ w10 ⟨k, B, hk, hk0, E10, hP⟩ _
  dsimp only at hk0 ⊢
  subst hk0
  refine ⟨_, _, _, pc2 E10.cp, cond_d (fun hlt => ?_) (fun hge => ?_)⟩
  · have hkl : k < cs.length := by omega
    rw [List.drop_eq_getElem_cons hkl, ctrsO] at hP
    refine ⟨_, _, _, pc2 E10.cp, ctrI (hp.kp0 E10.kp).c hkl hcl rfl ?_⟩
    refine AlF.intro fun b2 w11 hb2e hb2 k11 s11 => st5 hb2 rfl fun w16 hb16 k16 s16 => ?_
    have E16 := E10.kp0 (kp_blk k11 (by omega) k16)
    have e1 : IntKind.wrap .i64 (32 * (k : Int)) = ((32 * k : Nat) : Int) := by rw [wrap_i64 (by omega) (by omega)]; omega
    have e2 : IntKind.wrap .i64 (16 + ((32 * k : Nat) : Int)) = ((16 + 32 * k : Nat) : Int) := by rw [wrap_i64 (by omega) (by omega)]; omega
    have e3 : IntKind.wrap .i64 ((k : Int) + 1) = ((k + 1 : Nat) : Int) := by rw [wrap_i64 (by omega) (by omega)]; omega
    rw [e1, e2, e3]
    have halt := E10.sl.lt
    refine encT_ctr (i := k) (c := cs[k]) E16 (by omega) hb16 (fun hh => by have := halt _ hh; omega) rfl (by rw [wrap_i64 (by omega) (by omega)]; omega) (by rw [wrap_i64 (by omega) (by omega)]; omega) (by rw [wrap_i64 (by omega) (by omega)]; omega) (by rw [wrap_i64 (by omega) (by omega)]; omega) fun w' E' k' => ?_
    exact ⟨⟨k + 1, _, by omega, rfl, E', hP⟩, by simp only [Int.toNat_natCast]; omega⟩
  · have hke : k = cs.length := by omega
    subst hke
    rw [List.drop_length, ctrsO] at hP
    subst hP
    refine loopN (fun s w' => ∃ (k : Nat) (B : List UInt8), k ≤ gs.length ∧ s.1 = (k : Int) ∧ EncT T_quotaref07_Page p.cs w w' b1 a B ∧ grpsO B k (gs.drop k) = grpsO (ctrsO H 0 cs) 0 gs) (fun s _ => gs.length - s.1.toNat) ⟨0, _, Nat.zero_le _, rfl, E10, rfl⟩ ?_
    rintro ⟨k0, u⟩ w22 ⟨k, B, hk, hk0, E22, hP⟩ _
    dsimp only at hk0 ⊢
    subst hk0
    refine ⟨_, _, _, pc3 E22.cp, cond_d (fun hlt => ?_) (fun hge => ?_)⟩
    · have hkl : k < gs.length := by omega
      rw [List.drop_eq_getElem_cons hkl, grpsO] at hP
      have e1 : IntKind.wrap .i64 (12 * (k : Int)) = ((12 * k : Nat) : Int) := by rw [wrap_i64 (by omega) (by omega)]; omega
      have e2 : IntKind.wrap .i64 (16 + ((12 * k : Nat) : Int)) = ((16 + 12 * k : Nat) : Int) := by rw [wrap_i64 (by omega) (by omega)]; omega
      have e4 : IntKind.wrap .i64 (((16 + 12 * k : Nat) : Int) + 4) = ((16 + 12 * k + 4 : Nat) : Int) := by rw [wrap_i64 (by omega) (by omega)]; omega
      have e3 : IntKind.wrap .i64 ((k : Int) + 1) = ((k + 1 : Nat) : Int) := by rw [wrap_i64 (by omega) (by omega)]; omega
      rw [e1, e2, e3, e4]
      refine ⟨_, _, _, pc3 E22.cp, grpI0 (hp.kp0 E22.kp).g hkl hgl rfl ?_⟩
      refine encT_put E22 (i := 16 + 12 * k) rfl (s := 4) rfl (by omega) (by omega) (u64n_lt (gs[k]).id) (u64_code _) fun w23 E23 k23 => ⟨rfl, ?_⟩
      refine ⟨_, _, _, pc3 E23.cp, grpI1 (hp.kp0 E23.kp).g hkl hgl rfl ?_⟩
      refine encT_put E23 (i := 16 + 12 * k + 4) rfl (s := 8) rfl (by omega) (by omega) (u64n_lt (gs[k]).sum) (u64_code _) fun w24 E24 k24 => ⟨rfl, ?_⟩
      exact ⟨⟨k + 1, _, by omega, rfl, E24, hP⟩, by simp only [Int.toNat_natCast]; omega⟩
    · have hke : k = gs.length := by omega
      subst hke
      rw [List.drop_length, grpsO] at hP
      have hlen := E22.len
      have hps : psumN B < 4294967296 := Nat.xor_lt_two_pow (n := 32) (fold_lt _ _ (by omega)) (by omega)
      refine sum7_c E22.sl.rd hlen (by omega) (by omega) ⟨_, rfl, ?_⟩
      refine encT_put E22 (i := 12) rfl (s := 4) rfl (by omega) (by omega) (n := psumN B) (by omega) (wrap_u64 (by omega) (by omega)) fun w26 E26 k26 => ⟨rfl, ?_⟩
      refine h1' a w26 ?_ E26.kp E26.fr
      unfold encO
      rw [if_neg (by omega)]
      have hb : bodyO p.num p.lsn cs gs = B := by unfold bodyO; rw [hH, hP]
      rw [hb]
      exact E26.sl
end Go.Proofs.YtnkdonpammdldaaDoor

/- Closed facts of the example page. Conditions: none. -/
set_option linter.unusedVariables false
set_option linter.unusedSimpArgs false
namespace Go.Proofs.YtnkdonpammdldaaDoor
open Go Go.RowKit

@[irreducible] def exB : List UInt8 := encB 2 258 [] [⟨7, -1⟩]
theorem ex_ref : refP 2 258 [] [⟨7, -1⟩] = 0 := by decide +kernel
set_option maxRecDepth 100000 in
theorem ex_all : (exB.take 12 == [113, 2, 2, 0, 1, 0, 0, 0, 2, 1, 0, 0]) = true ∧ ((exB.drop 16).take 12 == [7, 0, 0, 0, 255, 255, 255, 255, 255, 255, 255, 255]) = true ∧ decF exB 2 = 0 ∧ dLsn exB = 258 ∧ (decGs exB).length = 1 := by decide +kernel
end Go.Proofs.YtnkdonpammdldaaDoor

/- Contracts of the statements' own small functions: ref, back, lend, still; both Decodes in one form; reads. Conditions: the tables stand. -/
set_option linter.unusedVariables false
set_option linter.unusedSimpArgs false
namespace Go.Proofs.YtnkdonpammdldaaDoor
open Go Go.RowKit

theorem Szs.kp0 {w w' : World} (h : Szs w) (k : Kp no w w') : Szs w' := by
  obtain ⟨a1, c1, h1, r1⟩ := h.h
  obtain ⟨a2, c2, h2, r2⟩ := h.c
  obtain ⟨a3, c3, h3, r3⟩ := h.g
  exact ⟨⟨a1, c1, k.cell h1 id, r1.kp0 k⟩, ⟨a2, c2, k.cell h2 id, r2.kp0 k⟩, ⟨a3, c3, k.cell h3 id, r3.kp0 k⟩⟩

theorem ref_c {w : World} {p : PgV} {R : Ending → World → Prop} (h : ∀ w', Kp no w w' → R (.returned (.agg p.cs)) w') : GoC Tryd.prog F_law07_ref #[.agg p.cs] w R := by
  refine S_law07_ref ?_
  unfold W_law07_ref
  refine AlF.intro fun b1 w1 hb1e hb1 k1 s1 => AlF.intro fun b2 w2 hb2e hb2 k2 s2 => ?_
  have hb : Blk w2 b1 p.cs T_quotalaw07_P := k2.blk (show Blk w1 b1 p.cs T_quotalaw07_P from hb1) id
  refine ⟨_, pc0 hb, _, pc1 hb, _, _, _, pc2 hb, _, _, _, pc3 hb, ?_⟩
  exact ret4 (K := fun q w' => R (.returned (.agg q)) w') hb2 rfl fun w' _ k' _ => h w' (kp_blk (k1.trans0 k2) (by omega) k')
theorem back_c {w : World} {p : PgV} {R : Ending → World → Prop} (h : ∀ w', Kp no w w' → R (.returned (.agg p.cs)) w') : GoC Tryd.prog F_law07_back #[.agg p.cs] w R := by
  refine S_law07_back ?_
  unfold W_law07_back
  refine AlF.intro fun b1 w1 hb1e hb1 k1 s1 => AlF.intro fun b2 w2 hb2e hb2 k2 s2 => ?_
  have hb : Blk w2 b1 p.cs T_page_Page := k2.blk (show Blk w1 b1 p.cs T_page_Page from hb1) id
  refine ⟨_, pc0 hb, _, pc1 hb, _, _, _, pc2 hb, _, _, _, pc3 hb, ?_⟩
  exact ret4 (K := fun q w' => R (.returned (.agg q)) w') hb2 rfl fun w' _ k' _ => h w' (kp_blk (k1.trans0 k2) (by omega) k')

def marks7 : List UInt8 := [201, 202, 203]
theorem lend_c {w : World} {a : Option Addr} {l c : Nat} {bs : List UInt8} {R : Ending → World → Prop} (hr : Rd w a (bvs bs)) (hl : bs.length = l) (h0 : a = none → l = 0) (hb : l + 3 ≤ 140737488355328)
    (h : ∀ a' c' w', Rd w' a' (bvs (bs ++ marks7)) → a' ≠ none → l + 3 ≤ c' → Kp no w w' → Fresh w a' → R (.returned (.slice a' l c')) w') :
    GoC Tryd.prog F_law07_lend #[.slice a l c] w R := by
  refine S_law07_lend ?_
  unfold W_law07_lend
  refine append_new er_u8 hr (by rw [bvs_len]; omega) h0 bvs_one (by omega) (by omega) fun a1 c1 w1 hs1 k1 hf1 _ => ⟨a1, l, c1, rfl, ?_⟩
  refine AlF.intro fun b w2 hbe hblk k2 _ => ?_
  refine append_own er_u8 (hs1.kp0 k2) (rd_cells (xs := bvs marks7) hblk rfl) rfl (fun h => by cases h) bvs_one (by omega) (by omega) fun a3 c3 w3 hs3 k3 hi3 _ _ => ⟨a3, l + 3, c3, rfl, ?_⟩
  have hls := hs3.2.1
  refine ⟨⟨by omega, by omega⟩, trivial, ?_⟩
  rw [subA_zero, Int.toNat_natCast]
  rw [← bvs_app] at hs3
  refine h a3 c3 w3 hs3.rd (fun h0 => ?_) hls ((k1.trans0 k2).trans k3 (fun k _ h => h) fun k hk hk2 => by have := hf1 k hk2; omega) fun j hj => ?_
  · have := (hs3.addr (by omega)); obtain ⟨b', cur, ha, _⟩ := this; rw [h0] at ha; cases ha
  · rcases hi3 j hj with hh | hh
    · exact hf1 j hh
    · have := k1.size; have := k2.size; omega

theorem still_c {w : World} {a1 a2 : Option Addr} {l c1 c2 : Nat} {bs : List UInt8} {R : Ending → World → Prop} (h1 : Rd w a1 (bvs (bs ++ marks7))) (hn1 : a1 ≠ none) (hc : l + 3 ≤ c1) (h2 : Rd w a2 (bvs bs)) (hl : bs.length = l) (h0 : a2 = none → l = 0) (hb : l + 3 ≤ 140737488355328)
    (h : R (.returned (.bool true)) w) : GoC Tryd.prog F_law07_still #[.slice a1 l c1, .slice a2 l c2] w R := by
  refine S_law07_still ?_
  unfold W_law07_still
  have e3 : IntKind.wrap .i64 ((l : Int) + 3) = ((l + 3 : Nat) : Int) := by rw [wrap_i64 (by omega) (by omega)]; omega
  have e1 : IntKind.wrap .i64 ((l : Int) + 1) = ((l + 1 : Nat) : Int) := by rw [wrap_i64 (by omega) (by omega)]; omega
  have e2 : IntKind.wrap .i64 ((l : Int) + 2) = ((l + 2 : Nat) : Int) := by rw [wrap_i64 (by omega) (by omega)]; omega
  rw [e3, e1, e2]
  refine ⟨⟨by omega, by omega⟩, trivial, ?_⟩
  have h1' : Rd w a1 (bvs bs) := by
    have := h1.take l
    have e : (bvs (bs ++ marks7)).take l = bvs bs := by rw [bvs_app, List.take_append, bvs_len, hl, Nat.sub_self, List.take_zero, List.append_nil, List.take_of_length_le (by rw [bvs_len]; omega)]
    rwa [e] at this
  refine convert_bytes (e := T_uint8) (by kernel_rfl) (by kernel_rfl) (by kernel_rfl) h1' hl (fun hh => absurd hh hn1) fun z hz => ⟨z, rfl, ?_⟩
  refine convert_bytes (e := T_uint8) (by kernel_rfl) (by kernel_rfl) (by kernel_rfl) h2 hl h0 fun z' hz' => ⟨z', rfl, ?_⟩
  rw [hz, hz']
  refine cond_t (by simp) ?_
  rw [subA_zero, Int.toNat_natCast]
  have hlen : (bs ++ marks7).length = l + 3 := by simp [marks7, hl]
  have m0 : byteN (bs ++ marks7) l = 201 := by rw [byteN_get (by omega), List.getElem_append_right (by omega)]; simp [marks7, hl]
  have m1 : byteN (bs ++ marks7) (l + 1) = 202 := by rw [byteN_get (by omega), List.getElem_append_right (by omega)]; simp [marks7, hl]
  have m2 : byteN (bs ++ marks7) (l + 2) = 203 := by rw [byteN_get (by omega), List.getElem_append_right (by omega)]; simp [marks7, hl]
  refine idxB h1 hlen (i := l) (by omega) rfl (K := fun n => cond (n == 201) _ _) (cond_t (by rw [m0]; rfl) ?_)
  refine idxB h1 hlen (i := l + 1) (by omega) rfl (K := fun n => cond (n == 202) _ _) (cond_t (by rw [m1]; rfl) ?_)
  refine idxB h1 hlen (i := l + 2) (by omega) rfl (K := fun n => R (.returned (.bool (n == 203))) w) ?_
  rw [m2]
  exact h

/-- What a Decode answers, whether it takes the bytes or not. -/
def csR (B : List UInt8) (num : Int) : List CL := if decF B num = 0 then decCs B else []
def gsR (B : List UInt8) (num : Int) : List GL := if decF B num = 0 then decGs B else []
def numR (B : List UInt8) (num : Int) : Int := if decF B num = 0 then num else 0
def lsnR (B : List UInt8) (num : Int) : Int := if decF B num = 0 then dLsn B else 0
structure DecR (B : List UInt8) (num : Int) (w : World) (p : PgV) (w' : World) : Prop where
  hnum : p.num = numR B num
  hlsn : p.lsn = lsnR B num
  own : p.Own w' (csR B num) (gsR B num)
  kp : Kp no w w'
  fc : Fresh w p.ca
  fg : Fresh w p.ga
  one : p.ca = none ∨ p.ga = none
theorem dec_bad {B : List UInt8} {num : Int} {w w' : World} (h : decF B num ≠ 0) (k : Kp no w w') : DecR B num w pg0 w' :=
  ⟨by unfold numR; rw [if_neg h]; rfl, by unfold lsnR; rw [if_neg h]; rfl, by unfold csR gsR; rw [if_neg h, if_neg h]; exact own_zero w' 0, k, fresh_none _, fresh_none _, .inl rfl⟩
theorem dec_ok {B : List UInt8} {num : Int} {w w' : World} {p : PgV} (h : decF B num = 0) (h1 : p.num = num) (h2 : p.lsn = (dLsn B : Int)) (h3 : p.Own w' (decCs B) (decGs B)) (k : Kp no w w') (f1 : Fresh w p.ca) (f2 : Fresh w p.ga) (h4 : p.ca = none ∨ p.ga = none) : DecR B num w p w' :=
  ⟨by unfold numR; rw [if_pos h]; exact h1, by unfold lsnR; rw [if_pos h]; exact h2, by unfold csR gsR; rw [if_pos h, if_pos h]; exact h3, k, f1, f2, h4⟩
theorem decode_u {w : World} {a : Option Addr} {l c : Nat} {B : List UInt8} {num : Int} {R : Ending → World → Prop} (hnib : Nib w) (hz : Szs w) (hr : Rd w a (bvs B)) (hl : B.length = l) (hlc : l ≤ c)
    (h : ∀ (p : PgV) w', DecR B num w p w' → R (.returned (.tuple #[.agg p.cs, .int .i64 (decF B num : Int)])) w') : GoC Tryd.prog F_page_Decode #[.slice a l c, .int .i64 num] w R := by
  refine decode_c hnib hz hr hl hlc (fun hne w' k => h pg0 w' (dec_bad hne k)) fun h0 p w' h1 h2 h3 k f1 f2 h4 => ?_
  have := h p w' (dec_ok h0 h1 h2 h3 k f1 f2 h4)
  rw [h0] at this
  exact this
theorem decode7_u {w : World} {a : Option Addr} {l c : Nat} {B : List UInt8} {num : Int} {R : Ending → World → Prop} (hr : Rd w a (bvs B)) (hl : B.length = l)
    (h : ∀ (p : PgV) w', DecR B num w p w' → R (.returned (.tuple #[.agg p.cs, .int .i64 (decF B num : Int)])) w') : GoC Tryd.prog F_ref07_Decode #[.slice a l c, .int .i64 num] w R := by
  refine decode7_c hr hl (fun hne w' k => h pg0 w' (dec_bad hne k)) fun h0 p w' h1 h2 h3 k f1 f2 h4 => ?_
  have := h p w' (dec_ok h0 h1 h2 h3 k f1 f2 h4)
  rw [h0] at this
  exact this

theorem reads_c {w : World} {a : Option Addr} {l c : Nat} {B : List UInt8} {num : Int} {R : Ending → World → Prop} (hnib : Nib w) (hz : Szs w) (hr : Rd w a (bvs B)) (hl : B.length = l) (h0 : a = none → l = 0) (hb : l + 3 ≤ 140737488355328)
    (h : ∀ w', Kp no w w' → R (.returned (.bool true)) w') : GoC Tryd.prog F_law07_reads #[.slice a l c, .int .i64 num] w R := by
  refine S_law07_reads ?_
  unfold W_law07_reads
  refine lend_c hr hl h0 hb fun a' c' w1 hr1 hn1 hc1 k1 f1 => ⟨_, _, _, rfl, ?_⟩
  have hrB : Rd w1 a' (bvs B) := by
    have := hr1.take l
    have e : (bvs (B ++ marks7)).take l = bvs B := by rw [bvs_app, List.take_append, bvs_len, hl, Nat.sub_self, List.take_zero, List.append_nil, List.take_of_length_le (by rw [bvs_len]; omega)]
    rwa [e] at this
  refine decode_u (hnib.kp0 k1) (hz.kp0 k1) hrB hl (by omega) fun p w2 D => ⟨_, _, _, _, _, _, _, _, _, rfl, ?_⟩
  refine AlF.intro fun b1 w3 hb1e hb1 k3 s3 => st4 hb1 rfl fun w7 hb7 k7 s7 => ?_
  have k27 : Kp no w2 w7 := kp_blk k3 (by omega) k7
  have k07 := (k1.trans0 D.kp).trans0 k27
  refine decode7_u (hr.kp0 k07) hl fun q w8 D' => ⟨_, _, _, _, _, _, _, _, _, rfl, ?_⟩
  refine AlF.intro fun b2 w9 hb2e hb2 k9 s9 => st4 hb2 rfl fun w13 hb13 k13 s13 => ?_
  have k813 : Kp no w8 w13 := kp_blk k9 (by omega) k13
  have k713 := D'.kp.trans0 k813
  have hbp : Blk w13 b1 p.cs T_page_Page := k713.blk hb7 id
  have hbq : Blk w13 b2 q.cs T_quotaref07_Page := hb13
  have kd : Kp no w13 w13.drew := Kp.drew w13 1
  refine ⟨fun w' => Kp no w13 w', kd, cond_t (by simp) ?_⟩
  refine ⟨_, _, _, _, _, _, _, _, fun w' kz => ⟨pc0 (kz.blk hbp id), pc1 (kz.blk hbp id), pc2 (kz.blk hbp id), pc3 (kz.blk hbp id), trivial⟩, ?_⟩
  refine ⟨_, _, _, _, _, _, _, _, fun w' kz => ⟨pc0 (kz.blk hbq id), pc1 (kz.blk hbq id), pc2 (kz.blk hbq id), pc3 (kz.blk hbq id), trivial⟩, ?_⟩
  refine back_c (p := p) fun w14 k14 => ⟨_, _, _, _, _, _, _, _, rfl, kd.trans0 k14, ?_⟩
  have k1314 := kd.trans0 k14
  have hpI := (D.own.kp0 ((k27.trans0 k713).trans0 k1314)).to_in
  have hqI := (D'.own.kp0 (k813.trans0 k1314)).to_in
  refine same_c (p := p) (q := q) hpI hqI fun w15 k15 => ⟨_, rfl, k1314.trans0 k15, cond_t ?_ ?_⟩
  · unfold sameP
    rw [D.hnum, D.hlsn, D'.hnum, D'.hlsn]
    exact decide_eq_true ⟨rfl, rfl, rfl, rfl⟩
  · have k015 := (k07.trans0 k713).trans0 (k1314.trans0 k15)
    have k115 := ((D.kp.trans0 k27).trans0 k713).trans0 (k1314.trans0 k15)
    refine still_c (hr1.kp0 k115) hn1 hc1 (hr.kp0 k015) hl h0 hb ⟨_, rfl, k1314.trans0 k15, ?_⟩
    exact h w15 k015
end Go.Proofs.YtnkdonpammdldaaDoor

/- The contract of the statements' own 'first'. Conditions: the tables stand. -/
set_option linter.unusedVariables false
set_option linter.unusedSimpArgs false
namespace Go.Proofs.YtnkdonpammdldaaDoor
open Go Go.RowKit

theorem first_c {w : World} {R : Ending → World → Prop} (hnib : Nib w) (hz : Szs w) (h : ∀ w', Kp no w w' → R (.returned (.bool true)) w') : GoC Tryd.prog F_law07_first #[] w R := by
  refine S_law07_first ?_
  unfold W_law07_first
  refine AlF.intro fun b1 w1 hb1e hb1 k1 s1 => ?_
  have hp : PgV.In ⟨2, 258, none, 0, 0, some ⟨b1, 0, none⟩, 1, 1⟩ w1 [] [⟨7, -1⟩] := ⟨fun i hi => by simp at hi, rfl, Nat.zero_lt_succ _, .of_rd (rd_cells hb1 rfl), rfl, by dsimp only; omega⟩
  refine encode_c (p := ⟨2, 258, none, 0, 0, some ⟨b1, 0, none⟩, 1, 1⟩) (hnib.kp0 k1) (hz.kp0 k1) hp (fun hne => absurd ex_ref hne) fun _ a w2 hs2 k2 f2 => ⟨_, _, _, _, rfl, ?_⟩
  have hx : encB 2 258 [] [⟨7, -1⟩] = exB := by unfold exB; rfl
  have hs2' : Sl w2 T_uint8 1 a 1024 1024 (bvs exB) := by rw [← hx]; exact hs2
  clear hs2
  obtain ⟨x1, x2, x3, x4, x5⟩ := ex_all
  have hxl : exB.length = 1024 := by have := hs2'.len; rwa [bvs_len] at this
  have hna : a ≠ none := fun h0 => by obtain ⟨b, cur, ha, _⟩ := hs2'.addr (by omega); rw [h0] at ha; cases ha
  refine cond_f rfl (cond_f rfl ⟨⟨by omega, by omega⟩, trivial, ?_⟩)
  rw [subA_zero]
  refine convert_bytes (bs := exB.take 12) (e := T_uint8) (by kernel_rfl) (by kernel_rfl) (by kernel_rfl) ?_ (by rw [List.length_take, hxl]; rfl) (fun hh => absurd hh hna) fun z hz1 => ⟨z, rfl, ?_⟩
  · rw [bvs, List.map_take]
    exact hs2'.rd.take 12
  refine cond_f ?_ ⟨⟨by omega, by omega⟩, ⟨by omega, by simp [hiOf]⟩, ?_⟩
  · rw [hz1, toList_eq]
    simpa using x1
  have e16 : Int.toNat 16 = 16 := rfl
  have e28 : Int.toNat 28 = 28 := rfl
  rw [e16, e28]
  refine convert_bytes (bs := (exB.drop 16).take 12) (e := T_uint8) (by kernel_rfl) (by kernel_rfl) (by kernel_rfl) ?_ (by rw [List.length_take, List.length_drop, hxl]; rfl) (fun hh => ?_) fun z2 hz2 => ⟨z2, rfl, ?_⟩
  · rw [bvs, List.map_take]
    exact (rd_drop hs2'.rd (by omega)).take 12
  · unfold subA at hh
    rw [if_neg (by omega)] at hh
    cases a with
    | none => exact absurd rfl hna
    | some ad => cases hh
  refine cond_f ?_ ?_
  · rw [hz2, toList_eq]
    simpa using x2
  have k12 := k1.trans0 k2
  refine decode_c (hnib.kp0 k12) (hz.kp0 k12) hs2'.rd hxl (Nat.le_refl _) (fun hne => absurd x3 hne) fun _ p w5 hn hl ho k5 f5 f6 hc => ⟨_, _, _, _, _, _, _, _, _, rfl, ?_⟩
  refine AlF.intro fun b2 w6 hb2e hb2 k6 s6 => st4 hb2 rfl fun w10 hb10 k10 s10 => ?_
  have hbp : Blk w10 b2 p.cs T_page_Page := hb10
  have k510 : Kp no w5 w10 := kp_blk k6 (by omega) k10
  have ho10 := ho.kp0 k510
  refine ⟨_, _, _, _, _, _, _, _, ⟨pc0 hbp, pc1 hbp, pc2 hbp, pc3 hbp, trivial⟩, ?_⟩
  have hgl1 : p.gl = 1 := by rw [← ho.gl, x5]
  have hcl0 := ho.cl
  refine copy_c (p := p) ho10.to_in ?_ (by omega) fun q w11 hq1 hq2 hqo k11 g1 g2 g3 => ⟨_, _, _, _, _, _, _, _, rfl, ?_⟩
  · have hc0 : p.cl ≤ 84 := by
      rw [← hcl0]
      unfold decCs
      rw [csK_len]
      have : dN exB ≤ 84 ∨ 84 < dN exB := by omega
      rcases this with h | h
      · split <;> omega
      · have := ho.gl
        rw [hgl1] at this
        unfold decGs at this
        rw [gsK_len] at this
        split at this
        · omega
        · cases this
    omega
  refine AlF.intro fun b3 w12 hb3e hb3 k12' s12 => st4 hb3 rfl fun w16 hb16 k16 s16 => ?_
  have k1116 : Kp no w11 w16 := kp_blk k12' (by omega) k16
  have hbp16 := (k11.trans0 k1116).blk hbp id
  have hbq : Blk w16 b3 q.cs T_page_Page := hb16
  have kall : Kp no w w16 := ((k12.trans0 k5).trans0 k510).trans0 (k11.trans0 k1116)
  have hql1 : q.gl = 1 := by rw [← hqo.gl, x5]
  have hq16 := (hqo.kp0 k1116).to_in
  have hp16 := (ho10.kp0 (k11.trans0 k1116)).to_in
  refine cond_t rfl ⟨_, pc1 hbp16, cond_t (by rw [hl, x4]; rfl) ⟨_, _, _, pc3 hbp16, cond_t (by rw [hgl1]; rfl) ⟨_, _, _, pc3 hbq, cond_t (by rw [hql1]; rfl) ⟨_, _, _, pc3 hbq, ?_⟩⟩⟩⟩
  refine grpI hq16.g (i := 0) (by rw [x5]; omega) hq16.gl rfl ⟨_, _, _, pc3 hbp16, grpI hp16.g (i := 0) (by rw [x5]; omega) hp16.gl rfl (cond_t (by simp) ⟨_, pc0 hbq, fun k => ?_⟩)⟩
  have : (q.num == 2) = true := by rw [hq1, hn]; rfl
  rw [this]
  exact h _ (kall.trans0 (Kp.drew w16 k))
end Go.Proofs.YtnkdonpammdldaaDoor

/- General: what a row's listed variables hold; how long an argument's lists may be. Conditions: none. -/
set_option linter.unusedVariables false
set_option linter.unusedSimpArgs false
namespace Go.Proofs.YtnkdonpammdldaaDoor
open Go Go.RowKit Go.ChangeShapes Go.WideShapes

/-- An argument that can be read as data, each of its lists within the form's own reach. -/
def ArgW (P : Program) (W : World) (t : TypeId) (v : Value) : Prop :=
  ∃ (H : Type) (enc : TypeId × Value → H) (base : Nat) (d : DataW H) (ps : List MemPlace), Value.okWide P W .any base t v ∧ DataW.Trod enc P W 0 (fun _ => true) true t v d ps ∧ ∀ n ∈ d.weights P t, n ≤ reachBytes
def ClW (P : Program) (W : World) (t : TypeId) (cs : List Value) : Prop :=
  ∃ (H : Type) (enc : TypeId × Value → H) (n : Nat) (x : DataW H × List MemPlace), DataW.trod enc P W 0 (fun _ => true) true n t cs = some x ∧ ∀ m ∈ x.1.weights P t, m ≤ reachBytes
section
variable {P : Program} {W : World}
theorem ArgW.arg {t : TypeId} {v : Value} (h : ArgW P W t v) : Arg P W t v := by
  obtain ⟨H, enc, base, d, ps, h1, h2, _⟩ := h
  exact ⟨H, enc, base, d, ps, h1, h2⟩
theorem ArgW.clw {t : TypeId} {v : Value} (h : ArgW P W t v) : ClW P W t v.cells.toList := by
  obtain ⟨H, enc, base, d, ps, _, ⟨fuel, hf⟩, hw⟩ := h
  exact ⟨H, enc, fuel, _, hf, hw⟩
theorem ClW.cl {t : TypeId} {cs : List Value} (h : ClW P W t cs) : Cl P W t cs := by
  obtain ⟨H, enc, n, x, hx, _⟩ := h
  exact ⟨H, enc, n, x, hx⟩
theorem ClW.len {t e : TypeId} {a : Option Addr} {l c : Nat} (ht : P.underlying t = some (.slice e)) (h : ClW P W t [.slice a l c]) : l * P.bytesOf e ≤ reachBytes := by
  obtain ⟨H, enc, fuel, x, hf, hw⟩ := h
  rcases Deep.open_slice ht hf with ⟨h, _⟩ | ⟨ad, len, cap, m, n, D, Pl, h, _, hl, hm, hmm, hx, _⟩
  · cases h; rw [Nat.zero_mul]; exact Nat.zero_le _
  · cases h
    subst hx
    refine Nat.le_trans ?_ (hw ((((List.range l).map D).length + ((List.range (m - l)).map fun j => D (l + j)).length) * P.bytesOf e) ?_)
    · exact Nat.mul_le_mul_right _ (by simp)
    · simp [DataW.weights, ht]
theorem ClW.field {t : TypeId} {cs : List Value} (h : ClW P W t cs) (i : Nat) {e : TypeId} {o s : Nat} (hf : fieldAt P t i = some (e, o, s)) : ClW P W e ((cs.drop o).take s) := by
  unfold fieldAt at hf
  split at hf
  · rename_i fs ht
    obtain ⟨H, enc, fuel, x, hx, hw⟩ := h
    obtain ⟨xs, n, _, hxe, _, hlen, hall⟩ := DataW.trod_struct ht hx
    rw [Option.map_eq_some_iff] at hf
    obtain ⟨f, hfi, he⟩ := hf
    cases he
    have h1 := hall i f hfi
    have hi : i < xs.length := by rw [hlen]; exact (Array.getElem?_eq_some_iff.1 hfi).1
    rw [List.getElem?_eq_getElem hi] at h1
    refine ⟨H, enc, n, _, h1, fun m hm => hw m ?_⟩
    subst hxe
    simp only [DataW.weights, ht]
    refine DataW.weights_mem_each (j := i) (t := f.type) (d := (xs[i]).1) ?_ ?_ m hm
    · rw [List.getElem?_map, Array.getElem?_toList, hfi]; rfl
    · rw [List.getElem?_map, List.getElem?_eq_getElem hi]; rfl
  · cases hf
end

theorem laid_mem {P : Program} {W : World} : ∀ {laid : List (String × DataW Unit)} {ps : List MemPlace}, DataW.LaidVars P W laid ps → ∀ {n : String} {d : DataW Unit}, (n, d) ∈ laid →
    ∃ (g : Nat) (t : TypeId) (cs : Array Value) (fuel : Nat) (p : List MemPlace), P.globalNamed n = some g ∧ (P.globals[g]?).map (·.type) = some t ∧ W.var? P n = some cs ∧ DataW.trod (fun _ => ()) P W 0 (fun _ => true) false fuel t cs.toList = some (d, p)
  | [], _, _, _, _, hm => by cases hm
  | (n0, d0) :: r, ps, h, n, d, hm => by
    obtain ⟨g, t, cs, fuel, p, q, h1, h2, h3, h4, h5, _⟩ := h
    rcases List.mem_cons.1 hm with he | hm
    · cases he
      exact ⟨g, t, cs, fuel, p, h1, h2, h3, h4⟩
    · exact laid_mem h5 hm

/-- A listed variable, opened. -/
theorem laid_open {P : Program} {W : World} {laid : List (String × DataW Unit)} {n : String} {d : DataW Unit} {g : Nat} {t : TypeId} (h : laidMet P laid W) (hm : (n, d) ∈ laid) (hg : P.globalNamed n = some g) (ht : (P.globals[g]?).map (·.type) = some t) :
    ∃ (cs : Array Value) (fuel : Nat) (p : List MemPlace), (∀ off : Nat, W.cell? ⟨g, off, none⟩ = cs[off]?) ∧ DataW.trod (fun _ => ()) P W 0 (fun _ => true) false fuel t cs.toList = some (d, p) := by
  obtain ⟨ps, hl, _⟩ := h
  obtain ⟨g', t', cs, fuel, p, h1, h2, h3, h4⟩ := laid_mem hl hm
  obtain rfl := Option.some.inj (hg.symm.trans h1)
  obtain rfl := Option.some.inj (ht.symm.trans h2)
  exact ⟨cs, fuel, p, fun off => World.var?_cell hg h3 off, h4⟩

theorem laid_tab {P : Program} {W : World} {laid : List (String × DataW Unit)} {n : String} {g : Nat} {t e : TypeId} {k : IntKind} {zs : List Int} (h : laidMet P laid W) (hm : (n, Lib.tabData k zs) ∈ laid) (hg : P.globalNamed n = some g) (hty : (P.globals[g]?).map (·.type) = some t)
    (ht : P.underlying t = some (.array zs.length e)) (he : P.underlying e = some (.int k)) (hce : P.cellsOf e = 1) (hct : P.cellsOf t = zs.length) : ∀ i, i < zs.length → W.cell? ⟨g, i, none⟩ = some (.int k (zs.getD i 0)) := by
  obtain ⟨cs, fuel, p, hc, hd⟩ := laid_open h hm hg hty
  have hcs := Lib.cells_of_tab ht he hce hct hd
  intro i hi
  rw [hc i, ← Array.getElem?_toList, hcs, List.getElem?_map, List.getElem?_eq_getElem hi]
  simp [List.getD, hi]

/-- A listed slice of integers. -/
theorem laid_ints {P : Program} {W : World} {laid : List (String × DataW Unit)} {n : String} {g : Nat} {t e : TypeId} {zs : List Int} (h : laidMet P laid W) (hm : (n, DataW.slice (zs.map fun z => .lit (.int .i64 z)) []) ∈ laid) (hg : P.globalNamed n = some g) (hty : (P.globals[g]?).map (·.type) = some t)
    (ht : P.underlying t = some (.slice e)) (he : P.underlying e = some (.int .i64)) (hce : P.cellsOf e = 1) :
    ∃ a c, W.cell? ⟨g, 0, none⟩ = some (.slice a zs.length c) ∧ Rd W a (zs.map fun z => Value.int .i64 z) := by
  obtain ⟨cs, fuel, p, hc, hd⟩ := laid_open h hm hg hty
  rcases Deep.open_slice1 ht hce hd with ⟨_, hx⟩ | ⟨ad, len, cap, m, q, V, D, Pl, hcs, _, hl, hmax, hmm, hx, hall⟩
  · cases hx
  · have hx1 : (List.range len).map D = zs.map fun z => (DataW.lit (.int .i64 z) : DataW Unit) := by
      have := congrArg Prod.fst hx
      simp only [DataW.slice.injEq] at this
      exact this.1.symm
    have hlen : len = zs.length := by have := congrArg List.length hx1; simpa using this
    subst hlen
    have h0 := hc 0
    rw [← Array.getElem?_toList, hcs] at h0
    refine ⟨some ad, cap, h0, fun i v hv => ?_⟩
    have hi : i < zs.length := by have := (List.getElem?_eq_some_iff.1 hv).1; simpa using this
    obtain ⟨hcell, htr⟩ := hall i (by rw [hmm]; simp only [if_true]; omega)
    obtain ⟨z, hz1, hz2, _⟩ := DataW.trod_int he htr
    have hDi : D i = .lit (.int .i64 zs[i]) := by
      have := congrArg (fun l => l[i]?) hx1
      simpa [hi] using this
    have : z = zs[i] := by
      have := congrArg Prod.fst hz2
      rw [hDi] at this
      simpa using this.symm
    subst this
    have hVi : V i = .int .i64 zs[i] := by simpa using hz1
    have hvv : v = .int .i64 zs[i] := by
      rw [List.getElem?_map, List.getElem?_eq_getElem hi] at hv
      simpa using hv.symm
    rw [hvv]
    have hsp : ad.spot = none := by
      obtain ⟨hc0, _⟩ := hall 0 (by rw [hmm]; simp only [if_true]; omega)
      have ea : ad.add 0 = ad := by simp [Addr.add]
      rw [ea] at hc0
      unfold World.cell? at hc0
      split at hc0
      · cases hs : ad.spot with
        | none => rfl
        | some s => rw [hs] at hc0; cases hc0
      · cases hc0
    obtain ⟨b, o, sp⟩ := ad
    simp only at hsp
    subst hsp
    refine ⟨b, o, rfl, ?_⟩
    rw [add_at, hVi] at hcell
    exact hcell

/-- A field of a listed struct. -/
theorem laid_field {P : Program} {W : World} {t : TypeId} {cs : List Value} {fuel : Nat} {d : DataW Unit} {p : List MemPlace} (h : DataW.trod (fun _ => ()) P W 0 (fun _ => true) false fuel t cs = some (d, p)) (i : Nat) {e : TypeId} {o s : Nat} (hf : fieldAt P t i = some (e, o, s)) :
    ∃ parts fuel' d' p', d = .agg parts ∧ parts[i]? = some d' ∧ DataW.trod (fun _ => ()) P W 0 (fun _ => true) false fuel' e ((cs.drop o).take s) = some (d', p') := by
  unfold fieldAt at hf
  split at hf
  · rename_i fs ht
    obtain ⟨xs, n, _, hxe, _, hlen, hall⟩ := DataW.trod_struct ht h
    rw [Option.map_eq_some_iff] at hf
    obtain ⟨f, hfi, he⟩ := hf
    cases he
    have h1 := hall i f hfi
    have hi : i < xs.length := by rw [hlen]; exact (Array.getElem?_eq_some_iff.1 hfi).1
    rw [List.getElem?_eq_getElem hi] at h1
    have hd : d = .agg (xs.map (·.1)) := congrArg Prod.fst hxe
    exact ⟨_, n, (xs[i]).1, (xs[i]).2, hd, by rw [List.getElem?_map, List.getElem?_eq_getElem hi]; rfl, h1⟩
  · cases hf
/-- An integer field of a listed struct: the cell at its place. -/
theorem laid_int {P : Program} {W : World} {t : TypeId} {cs : List Value} {fuel : Nat} {d : DataW Unit} {p : List MemPlace} (h : DataW.trod (fun _ => ()) P W 0 (fun _ => true) false fuel t cs = some (d, p)) (i : Nat) {e : TypeId} {o : Nat} {k : IntKind} (hf : fieldAt P t i = some (e, o, 1)) (he : P.underlying e = some (.int k))
    {parts : List (DataW Unit)} (hd : d = .agg parts) {z : Int} (hz : parts[i]? = some (.lit (.int k z))) : cs[o]? = some (.int k z) := by
  obtain ⟨parts', fuel', d', p', h1, h2, h3⟩ := laid_field h i hf
  rw [hd] at h1
  cases h1
  rw [hz] at h2
  cases h2
  obtain ⟨z', hz1, hz2, _⟩ := DataW.trod_int he h3
  have : z' = z := by
    have := congrArg Prod.fst hz2
    simpa using this.symm
  subst this
  have := congrArg (fun l => l[0]?) hz1
  simpa [List.getElem?_take, List.getElem?_drop] using this
end Go.Proofs.YtnkdonpammdldaaDoor

/- Arguments of layer 7: a page as it is handed in. Conditions: none. -/
set_option linter.unusedVariables false
set_option linter.unusedSimpArgs false
namespace Go.Proofs.YtnkdonpammdldaaDoor
open Go Go.RowKit Go.ChangeShapes Go.WideShapes

def In64 (n : Int) : Prop := -9223372036854775808 ≤ n ∧ n ≤ 9223372036854775807
structure CL.Ok (c : CL) : Prop where
  id : In64 c.id
  grp : In64 c.grp
  lo : In64 c.lo
  hi : In64 c.hi
  val : In64 c.val
structure GL.Ok (g : GL) : Prop where
  id : In64 g.id
  sum : In64 g.sum
instance : Inhabited CL := ⟨⟨0, 0, 0, 0, 0⟩⟩
instance : Inhabited GL := ⟨⟨0, 0⟩⟩

theorem Cl.slc {P : Program} {W : World} {t e : TypeId} {cs : List Value} (ht : P.underlying t = some (.slice e)) (h : Cl P W t cs) : ∃ (a : Option Addr) (l c : Nat), cs = [.slice a l c] := by
  obtain ⟨H, enc, fuel, x, hf⟩ := h
  rcases Deep.open_slice ht hf with ⟨h, _⟩ | ⟨ad, len, cap, m, n, D, Pl, h, _⟩
  · exact ⟨_, _, _, h⟩
  · exact ⟨_, _, _, h⟩

theorem ctr_open {W : World} {cs : List Value} (h : Cl Tryd.prog W T_api_Counter cs) : ∃ c : CL, cs = c.cs ∧ c.Ok := by
  have hl := h.slen (s := 5) (by kernel_rfl)
  have f0 := h.field 0 (e := T_int) (o := 0) (s := 1) (by kernel_rfl)
  have f1 := h.field 1 (e := T_int) (o := 1) (s := 1) (by kernel_rfl)
  have f2 := h.field 2 (e := T_api_Range) (o := 2) (s := 2) (by kernel_rfl)
  have f3 := h.field 3 (e := T_int64) (o := 4) (s := 1) (by kernel_rfl)
  have f4 := f2.field 0 (e := T_int64) (o := 0) (s := 1) (by kernel_rfl)
  have f5 := f2.field 1 (e := T_int64) (o := 1) (s := 1) (by kernel_rfl)
  match cs, hl with
  | [x0, x1, x2, x3, x4], _ =>
    simp only [List.drop_zero, List.drop_succ_cons, List.take_succ_cons, List.take_zero] at f0 f1 f3 f4 f5
    obtain ⟨i, h0, w0⟩ := f0.int (k := .i64) (by kernel_rfl)
    obtain ⟨g, h1, w1⟩ := f1.int (k := .i64) (by kernel_rfl)
    obtain ⟨lo, h2, w2⟩ := f4.int (k := .i64) (by kernel_rfl)
    obtain ⟨hi, h3, w3⟩ := f5.int (k := .i64) (by kernel_rfl)
    obtain ⟨v, h4, w4⟩ := f3.int (k := .i64) (by kernel_rfl)
    cases h0; cases h1; cases h2; cases h3; cases h4
    exact ⟨⟨i, g, lo, hi, v⟩, rfl, i64_wf w0, i64_wf w1, i64_wf w2, i64_wf w3, i64_wf w4⟩
theorem grp_open {W : World} {cs : List Value} (h : Cl Tryd.prog W T_api_Group cs) : ∃ c : GL, cs = c.cs ∧ c.Ok := by
  have hl := h.slen (s := 2) (by kernel_rfl)
  have f0 := h.field 0 (e := T_int) (o := 0) (s := 1) (by kernel_rfl)
  have f1 := h.field 1 (e := T_int64) (o := 1) (s := 1) (by kernel_rfl)
  match cs, hl with
  | [x0, x1], _ =>
    simp only [List.drop_zero, List.drop_succ_cons, List.take_succ_cons, List.take_zero] at f0 f1
    obtain ⟨i, h0, w0⟩ := f0.int (k := .i64) (by kernel_rfl)
    obtain ⟨g, h1, w1⟩ := f1.int (k := .i64) (by kernel_rfl)
    cases h0; cases h1
    exact ⟨⟨i, g⟩, rfl, i64_wf w0, i64_wf w1⟩
theorem ctrs_open {W : World} {a : Option Addr} {l c : Nat} (h : Cl Tryd.prog W T_s_api_Counter [.slice a l c]) : ∃ L : List CL, L.length = l ∧ CsIn W a L ∧ ∀ x ∈ L, x.Ok := by
  obtain ⟨hl, hm, h0, css, h1, h2⟩ := h.cells (e := T_api_Counter) (s := 5) (by kernel_rfl) (by kernel_rfl) (by omega)
  have each : ∀ i, i < l → ∃ x : CL, css i = x.cs ∧ x.Ok := fun i hi => ctr_open (h1 i hi).2
  obtain ⟨f, hf⟩ := Deep.choose_lt (α := CL) (p := fun i x => css i = x.cs ∧ x.Ok) each
  refine ⟨(List.range l).map f, by simp, fun i hi => ?_, fun x hx => ?_⟩
  · have hil : i < l := by simpa using hi
    have e : ((List.range l).map f)[i] = f i := by simp
    rw [e]
    have hq := (hf i hil).1
    obtain ⟨b, o, ha, _⟩ := h2 i hil 0 (.int .i64 (f i).id) (by rw [hq]; rfl)
    refine ⟨b, o, ha, fun q v hv => ?_⟩
    obtain ⟨b', o', ha', hc'⟩ := h2 i hil q v (by rw [hq]; exact hv)
    rw [ha] at ha'
    cases ha'
    exact hc'
  · simp only [List.mem_map, List.mem_range] at hx
    obtain ⟨i, hi, rfl⟩ := hx
    exact (hf i hi).2
theorem grps_open {W : World} {a : Option Addr} {l c : Nat} (h : Cl Tryd.prog W T_s_api_Group [.slice a l c]) : ∃ L : List GL, L.length = l ∧ GsIn W a L ∧ ∀ x ∈ L, x.Ok := by
  obtain ⟨hl, hm, h0, css, h1, h2⟩ := h.cells (e := T_api_Group) (s := 2) (by kernel_rfl) (by kernel_rfl) (by omega)
  have each : ∀ i, i < l → ∃ x : GL, css i = x.cs ∧ x.Ok := fun i hi => grp_open (h1 i hi).2
  obtain ⟨f, hf⟩ := Deep.choose_lt (α := GL) (p := fun i x => css i = x.cs ∧ x.Ok) each
  refine ⟨(List.range l).map f, by simp, fun i hi => ?_, fun x hx => ?_⟩
  · have hil : i < l := by simpa using hi
    have e : ((List.range l).map f)[i] = f i := by simp
    rw [e]
    have hq := (hf i hil).1
    obtain ⟨b, o, ha, _⟩ := h2 i hil 0 (.int .i64 (f i).id) (by rw [hq]; rfl)
    refine ⟨b, o, ha, fun q v hv => ?_⟩
    obtain ⟨b', o', ha', hc'⟩ := h2 i hil q v (by rw [hq]; exact hv)
    rw [ha] at ha'
    cases ha'
    exact hc'
  · simp only [List.mem_map, List.mem_range] at hx
    obtain ⟨i, hi, rfl⟩ := hx
    exact (hf i hi).2

/-- A page as it is handed in, opened. -/
structure POk (W : World) (p : PgV) (cs : List CL) (gs : List GL) : Prop where
  i : p.In W cs gs
  hnum : In64 p.num
  hlsn : In64 p.lsn
  c : ∀ x ∈ cs, x.Ok
  g : ∀ x ∈ gs, x.Ok
  cw : p.cl * 40 ≤ 140737488351232
  gw : p.gl * 16 ≤ 140737488351232
theorem p_open' {W : World} {cells : List Value} (h : ClW Tryd.prog W T_quotalaw07_P cells) : ∃ (p : PgV) (cs : List CL) (gs : List GL), cells = p.cs.toList ∧ POk W p cs gs := by
  have hl := h.cl.slen (s := 4) (by kernel_rfl)
  have f0 := h.cl.field 0 (e := T_int) (o := 0) (s := 1) (by kernel_rfl)
  have f1 := h.cl.field 1 (e := T_int) (o := 1) (s := 1) (by kernel_rfl)
  have f2 := h.field 2 (e := T_s_api_Counter) (o := 2) (s := 1) (by kernel_rfl)
  have f3 := h.field 3 (e := T_s_api_Group) (o := 3) (s := 1) (by kernel_rfl)
  match cells, hl with
  | [x0, x1, x2, x3], _ =>
    simp only [List.drop_zero, List.drop_succ_cons, List.take_succ_cons, List.take_zero] at f0 f1 f2 f3
    obtain ⟨n, h0, w0⟩ := f0.int (k := .i64) (by kernel_rfl)
    obtain ⟨s, h1, w1⟩ := f1.int (k := .i64) (by kernel_rfl)
    obtain ⟨ca, cl, cc, h2⟩ := f2.cl.slc (e := T_api_Counter) (by kernel_rfl)
    obtain ⟨ga, gl, gc, h3⟩ := f3.cl.slc (e := T_api_Group) (by kernel_rfl)
    cases h0; cases h1; cases h2; cases h3
    obtain ⟨L, hL, hc, ok1⟩ := ctrs_open f2.cl
    obtain ⟨M, hM, hg, ok2⟩ := grps_open f3.cl
    have e1 := f2.len (e := T_api_Counter) (by kernel_rfl)
    have e2 := f3.len (e := T_api_Group) (by kernel_rfl)
    have b1 : Tryd.prog.bytesOf T_api_Counter = 40 := by kernel_rfl
    have b2 : Tryd.prog.bytesOf T_api_Group = 16 := by kernel_rfl
    have hreach : reachBytes = 140737488351232 := by decide
    rw [b1, hreach] at e1
    rw [b2, hreach] at e2
    exact ⟨⟨n, s, ca, cl, cc, ga, gl, gc⟩, L, M, rfl, ⟨hc, hL, by dsimp only; omega, hg, hM, by dsimp only; omega⟩, i64_wf w0, i64_wf w1, ok1, ok2, e1, e2⟩
theorem p_open {W : World} {v : Value} (h : ArgW Tryd.prog W T_quotalaw07_P v) : ∃ (p : PgV) (cs : List CL) (gs : List GL), v = .agg p.cs ∧ POk W p cs gs := by
  obtain ⟨cells, rfl, _⟩ := h.arg.struct (s := 4) (by kernel_rfl)
  have hw := h.clw
  obtain ⟨p, cs, gs, he, hp⟩ := p_open' (cells := cells.toList) hw
  refine ⟨p, cs, gs, ?_, hp⟩
  congr 1
  cases cells
  exact congrArg List.toArray he
end Go.Proofs.YtnkdonpammdldaaDoor

/- The contracts of the document's pick and Made, and of the statements' own right. Conditions: none. -/
set_option linter.unusedVariables false
set_option linter.unusedSimpArgs false
namespace Go.Proofs.YtnkdonpammdldaaDoor
open Go Go.RowKit

theorem pick_c {w : World} {n lo hi : Int} {R : Ending → World → Prop} (h0 : 0 ≤ lo) (h1 : lo ≤ hi) (h2 : hi ≤ 2147483647) (h : ∀ r : Int, lo ≤ r → r ≤ hi → R (.returned (.int .i64 r)) w) : GoC Tryd.prog F_ref07_pick #[.int .i64 n, .int .i64 lo, .int .i64 hi] w R := by
  refine S_ref07_pick ?_
  unfold W_ref07_pick
  have e1 : IntKind.wrap .i64 (hi - lo) = hi - lo := wrap_i64 (by omega) (by omega)
  have e2 : IntKind.wrap .i64 (hi - lo + 1) = hi - lo + 1 := wrap_i64 (by omega) (by omega)
  rw [e1, e2]
  have hm : 0 < hi - lo + 1 := by omega
  have b1 := Int.tmod_lt_of_pos n hm
  have b2 := Int.lt_tmod_of_pos n hm
  generalize Int.tmod n (hi - lo + 1) = k at *
  refine ⟨by omega, cond_d (fun hk => ?_) (fun hk => ?_)⟩
  · rw [wrap_i64 (x := k + hi) (by omega) (by omega), wrap_i64 (x := k + hi - lo) (by omega) (by omega), wrap_i64 (x := k + hi - lo + 1) (by omega) (by omega), wrap_i64 (by omega) (by omega)]
    exact h _ (by omega) (by omega)
  · rw [wrap_i64 (by omega) (by omega)]
    exact h _ (by omega) (by omega)

theorem StF.at {w : World} {b i : Nat} {ad : Addr} {cs : Array Value} {T : TypeId} {v : Value} {K : World → Prop} (had : ad = ⟨b, i, none⟩) (hb : Blk w b cs T) (hi : i < cs.size)
    (h : ∀ w', Blk w' b (cs.setIfInBounds i v) T → Kp (fun k => k = b) w w' → w'.heap.size = w.heap.size → K w') : StF w ad v K := by
  subst had
  exact StF.intro hb hi h
theorem add2_at (b n m : Nat) : Addr.add (Addr.add ⟨b, 0, none⟩ n) m = ⟨b, 0 + n + m, none⟩ := by rw [add_at, add_at]

def rtC (c : CL) : Prop := faultC c = 0 ∧ c.Ok
def rtG (g : GL) : Prop := faultG g = 0 ∧ g.Ok
def CL.ca (c : CL) : Array Value := #[.int .i64 c.id, .int .i64 c.grp, .int .i64 c.lo, .int .i64 c.hi, .int .i64 c.val]
def GL.ca (g : GL) : Array Value := #[.int .i64 g.id, .int .i64 g.sum]
theorem rtC_of {i g lo hi v : Int} (h1 : 1 ≤ i ∧ i ≤ 1048576) (h2 : 1 ≤ g ∧ g ≤ 1048576) (h3 : lo ≤ hi) (h4 : In64 lo) (h5 : In64 hi) (h6 : In64 v) : rtC ⟨i, g, lo, hi, v⟩ := by
  refine ⟨?_, ⟨by unfold In64; dsimp only; omega, by unfold In64; dsimp only; omega, h4, h5, h6⟩⟩
  unfold faultC
  rw [if_pos ⟨h1, h2⟩, if_neg (by dsimp only; omega)]
theorem rtG_of {i v : Int} (h1 : 1 ≤ i ∧ i ≤ 1048576) (h6 : In64 v) : rtG ⟨i, v⟩ := by
  refine ⟨?_, ⟨by unfold In64; dsimp only; omega, h6⟩⟩
  unfold faultG
  exact if_pos h1

/-- A right page with lists of its own. -/
structure MadeR (w : World) (q : PgV) (cs : List CL) (gs : List GL) (w' : World) : Prop where
  right : Right q.num q.lsn cs gs
  c : ∀ x ∈ cs, x.Ok
  g : ∀ x ∈ gs, x.Ok
  own : q.Own w' cs gs
  kp : Kp no w w'
  fc : Fresh w q.ca
  fg : Fresh w q.ga
  one : q.ca = none ∨ q.ga = none

theorem made_c {w : World} {p : PgV} {cs : List CL} {gs : List GL} {R : Ending → World → Prop} (hp : p.In w cs gs) (hcok : ∀ x ∈ cs, x.Ok) (hgok : ∀ x ∈ gs, x.Ok)
    (h : ∀ (q : PgV) (cs' : List CL) (gs' : List GL) w', MadeR w q cs' gs' w' → R (.returned (.agg q.cs)) w') : GoC Tryd.prog F_ref07_Made #[.agg p.cs] w R := by
  refine S_ref07_Made ?_
  unfold W_ref07_Made
  have hcl := hp.cl
  have hgl := hp.gl
  have hcb := hp.cb
  have hgb := hp.gb
  refine AlF.intro fun b1 w1 hb1e hb1 k1 s1 => AlF.intro fun b2 w2 hb2e hb2 k2 s2 => ?_
  have hbp : Blk w2 b1 p.cs T_quotaref07_Page := k2.blk (show Blk w1 b1 p.cs T_quotaref07_Page from hb1) id
  refine ⟨_, pc0 hbp, pick_c (by omega) (by omega) (by omega) fun r hr1 hr2 => ⟨_, rfl, ?_⟩⟩
  refine AlF.intro fun b3 w4 hb3e hb3 k4 s4 => st4 hb3 rfl fun w8 hb38 k8 s8 => ?_
  have k02 := k1.trans0 k2
  have k08 : Kp no w w8 := kp_blk (k02.trans0 k4) (by omega) k8
  have k28 : Kp no w2 w8 := kp_blk k4 (by omega) k8
  have hbp8 := k28.blk hbp id
  have hb28 := k28.blk hb2 id
  have hsz8 : w8.heap.size = b3 + 1 := by omega
  have hin : ∀ w', Kp (fun j => j = b3) w8 w' → Kp no w w' := fun w' kz => k08.trans kz (fun _ _ h => h) fun j hj hh => by omega
  refine ⟨fun _ w' => ∃ (pg : PgV) (cs' : List CL), Kp (fun j => j = b3) w8 w' ∧ Blk w' b3 pg.cs T_quotaref07_Page ∧ pg.num = r ∧ pg.lsn = 0 ∧ pg.Own w' cs' [] ∧ cs'.length ≤ 31 ∧ (∀ c ∈ cs', rtC c) ∧ Fresh w8 pg.ca ∧ pg.ga = none ∧ (cs'.length = 0 → pg.ca = none), ?_, ?_⟩
  · refine loopN (fun s w' => ∃ (k : Nat) (pg : PgV) (cs' : List CL), k ≤ cs.length ∧ s.1 = (k : Int) ∧ k ≤ 31 ∧ Kp (fun j => j = b3) w8 w' ∧ Blk w' b3 pg.cs T_quotaref07_Page ∧ pg.num = r ∧ pg.lsn = 0 ∧ pg.Own w' cs' [] ∧ cs'.length = k ∧ (∀ c ∈ cs', rtC c) ∧ Fresh w8 pg.ca ∧ pg.ga = none ∧ (cs'.length = 0 → pg.ca = none)) (fun s _ => cs.length - s.1.toNat)
      ⟨0, ⟨r, 0, none, 0, 0, none, 0, 0⟩, [], Nat.zero_le _, rfl, by omega, Kp.refl _ _, hb38, rfl, rfl, ⟨Sl.nil _ _ _, Nat.zero_lt_succ _, Sl.nil _ _ _, Nat.zero_lt_succ _⟩, rfl, (fun c hc => by cases hc), fresh_none _, rfl, fun _ => rfl⟩ ?_
    rintro ⟨k0, u⟩ w9 ⟨k, pg, cs', hk, hk0, hk31, k9, hb9, hnum, hlsn, hown, hlen, hok, fca, hga, hz⟩ _
    dsimp only at hk0 ⊢
    subst hk0
    have hbp9 := k9.blk hbp8 (by omega)
    have fin : ∃ (pg : PgV) (cs' : List CL), Kp (fun j => j = b3) w8 w9 ∧ Blk w9 b3 pg.cs T_quotaref07_Page ∧ pg.num = r ∧ pg.lsn = 0 ∧ pg.Own w9 cs' [] ∧ cs'.length ≤ 31 ∧ (∀ c ∈ cs', rtC c) ∧ Fresh w8 pg.ca ∧ pg.ga = none ∧ (cs'.length = 0 → pg.ca = none) := ⟨pg, cs', k9, hb9, hnum, hlsn, hown, by omega, hok, fca, hga, hz⟩
    refine ⟨_, _, _, pc2 hbp9, cond_d (fun hlt => cond_d (fun hlt31 => ?_) (fun _ => fin)) (fun _ => fin)⟩
    have hkl : k < cs.length := by omega
    have hkw : IntKind.wrap .i64 ((k : Int) + 1) = ((k + 1 : Nat) : Int) := by rw [wrap_i64 (by omega) (by omega)]; omega
    rw [hkw]
    have hco := hcok cs[k] (List.getElem_mem hkl)
    refine ⟨_, _, _, pc2 hbp9, ctrI (hp.kp0 (hin _ k9)).c hkl hcl rfl ?_⟩
    generalize cs[k] = c at hco
    refine AlF.intro fun b4 w10 hb4e hb4 k10 s10 => st5 hb4 rfl fun w15 hb15 k15 s15 => ?_
    refine ⟨_, hb15.cell 0, pick_c (by omega) (by omega) (by omega) fun i hi1 hi2 => ⟨_, rfl, ?_⟩⟩
    refine StF.at rfl hb15 (by simp) fun w17 hb17 k17 s17 => ?_
    have hb17' : Blk w17 b4 #[.int .i64 i, .int .i64 c.grp, .int .i64 c.lo, .int .i64 c.hi, .int .i64 c.val] T_api_Counter := hb17
    refine ⟨_, by rw [add_at]; exact hb17'.cell 1, pick_c (by omega) (by omega) (by omega) fun g hg1 hg2 => ⟨_, rfl, ?_⟩⟩
    refine StF.at (add_at _ _ _) hb17' (by simp) fun w19 hb19 k19 s19 => ?_
    have hb19' : Blk w19 b4 #[.int .i64 i, .int .i64 g, .int .i64 c.lo, .int .i64 c.hi, .int .i64 c.val] T_api_Counter := hb19
    have k1019 : Kp (fun j => j = b4) w10 w19 := (k15.trans0 k17).trans0 k19
    refine ⟨fun _ w' => ∃ c' : CL, rtC c' ∧ Blk w' b4 c'.ca T_api_Counter ∧ Kp (fun j => j = b4) w10 w' ∧ w'.heap.size = w10.heap.size, ?_, ?_⟩
    · refine ⟨c.lo, by rw [add_at]; exact hb19'.cell 2, c.hi, by rw [add2_at]; exact hb19'.cell 3, cond_d (fun hgt => ?_) (fun hle => ?_)⟩
      · refine ⟨c.hi, by rw [add2_at]; exact hb19'.cell 3, c.lo, by rw [add_at]; exact hb19'.cell 2, ?_⟩
        refine StF.at (add_at _ _ _) hb19' (by simp) fun w20 hb20 k20 s20 => ?_
        have hb20' : Blk w20 b4 #[.int .i64 i, .int .i64 g, .int .i64 c.hi, .int .i64 c.hi, .int .i64 c.val] T_api_Counter := hb20
        refine StF.at (add2_at _ _ _) hb20' (by simp) fun w21 hb21 k21 s21 => ?_
        have hb21' : Blk w21 b4 #[.int .i64 i, .int .i64 g, .int .i64 c.hi, .int .i64 c.lo, .int .i64 c.val] T_api_Counter := hb21
        exact ⟨⟨i, g, c.hi, c.lo, c.val⟩, rtC_of ⟨hi1, hi2⟩ ⟨hg1, hg2⟩ (by omega) hco.hi hco.lo hco.val, hb21', (k1019.trans0 k20).trans0 k21, by omega⟩
      · exact ⟨⟨i, g, c.lo, c.hi, c.val⟩, rtC_of ⟨hi1, hi2⟩ ⟨hg1, hg2⟩ (by omega) hco.lo hco.hi hco.val, hb19', k1019, by omega⟩
    rintro u10 w22 ⟨c', hc', hb22, k22, s22⟩ _
    have k922 : Kp no w9 w22 := kp_blk k10 (by omega) k22
    have hb322 := k922.blk hb9 id
    refine ⟨_, _, _, pc2 hb322, c'.id, c'.grp, c'.lo, c'.hi, c'.val, ⟨hb22.cell 0, by rw [add_at]; exact hb22.cell 1, by rw [add_at]; exact hb22.cell 2, by rw [add_at]; exact hb22.cell 3, by rw [add_at]; exact hb22.cell 4, trivial⟩, ?_⟩
    refine AlF.intro fun b5 w23 hb5e hb5 k23 s23 => ?_
    have k923 := k922.trans0 k23
    have nin : ∀ j, Is pg.ca j → w8.heap.size ≤ j := fca
    have hcl' := hown.cl
    refine append_own er_ctr (hown.c.kp0 k923) (rd_cells (xs := c'.cs) hb5 rfl) rfl (fun h => by cases h) (fun u hu => by simp only [CL.cs, List.mem_cons, List.not_mem_nil, or_false] at hu; rcases hu with rfl | rfl | rfl | rfl | rfl <;> rfl) (by omega) (by omega) fun a' c0 w24 hs24 k24 hi24 _ _ => ⟨_, _, _, rfl, ?_⟩
    have hb324 : Blk w24 b3 pg.cs T_quotaref07_Page := k24.blk (k923.blk hb9 id) fun hh => by have := nin _ hh; omega
    refine StF.at (add_at _ _ _) hb324 (by simp [PgV.cs]) fun w25 hb25 k25 s25 => ⟨⟨k + 1, { pg with ca := a', cl := pg.cl + 1, cc := c0 }, cs' ++ [c'], by omega, rfl, by omega, ?_, hb25, hnum, hlsn, ?_, by simp [hlen], ?_, ?_, hga, fun h => by simp at h⟩, by simp only [Int.toNat_natCast]; omega⟩
    · exact (((k9.trans0 k923.of_no).trans k24 (fun _ _ h => h) fun j hj hh => by have := nin j hh; omega).trans0 k25)
    · refine Own_push_c (hs24.kp k25 fun j hj hh => ?_) (by omega) (((hown.g.kp0 k923).kp k24 fun j hj => by rw [hga] at hj; exact (is_none hj).elim).kp k25 fun j hj => by rw [hga] at hj; exact (is_none hj).elim) hown.gb
      rcases hi24 j hj with h | h
      · have := nin j h; omega
      · have := k923.size; have := k9.size; omega
    · intro x hx
      rcases List.mem_append.1 hx with hx | hx
      · exact hok x hx
      · rw [List.mem_singleton] at hx; subst hx; exact hc'
    · intro j hj
      rcases hi24 j hj with h | h
      · exact nin j h
      · have := k923.size; have := k9.size; omega
  rintro u11 w26 ⟨pg, cs', k26, hb26, hnum, hlsn, hown, hlen, hok, fca, hga, hz⟩ _
  have hcl' := hown.cl
  have hgl0 := hown.gl
  refine ⟨fun _ w' => ∃ (pg : PgV) (gs' : List GL), Kp (fun j => j = b3) w8 w' ∧ Blk w' b3 pg.cs T_quotaref07_Page ∧ pg.num = r ∧ pg.lsn = 0 ∧ pg.Own w' cs' gs' ∧ gs'.length ≤ 84 ∧ (∀ c ∈ gs', rtG c) ∧ Fresh w8 pg.ca ∧ Fresh w8 pg.ga ∧ (cs'.length = 0 → pg.ca = none) ∧ (cs'.length ≠ 0 → pg.ga = none ∧ gs' = []), ?_, ?_⟩
  · refine loopN (fun s w' => ∃ (k : Nat) (pg : PgV) (gs' : List GL), k ≤ gs.length ∧ s.1 = (k : Int) ∧ k ≤ 84 ∧ Kp (fun j => j = b3) w8 w' ∧ Blk w' b3 pg.cs T_quotaref07_Page ∧ pg.num = r ∧ pg.lsn = 0 ∧ pg.Own w' cs' gs' ∧ gs'.length = k ∧ (∀ c ∈ gs', rtG c) ∧ Fresh w8 pg.ca ∧ Fresh w8 pg.ga ∧ (cs'.length = 0 → pg.ca = none) ∧ (cs'.length ≠ 0 → pg.ga = none ∧ gs' = [])) (fun s _ => gs.length - s.1.toNat)
      ⟨0, pg, [], Nat.zero_le _, rfl, by omega, k26, hb26, hnum, hlsn, hown, rfl, (fun c hc => by cases hc), fca, (by rw [hga]; exact fresh_none _), hz, fun _ => ⟨hga, rfl⟩⟩ ?_
    rintro ⟨k0, u⟩ w27 ⟨k, pg, gs', hk, hk0, hk84, k27, hb27, hnum, hlsn, hown, hglen, hokg, fca, fga, hz, hnz⟩ _
    dsimp only at hk0 ⊢
    subst hk0
    have hbp27 := k27.blk hbp8 (by omega)
    have hcl'' := hown.cl
    have fin : ∃ (pg : PgV) (gs' : List GL), Kp (fun j => j = b3) w8 w27 ∧ Blk w27 b3 pg.cs T_quotaref07_Page ∧ pg.num = r ∧ pg.lsn = 0 ∧ pg.Own w27 cs' gs' ∧ gs'.length ≤ 84 ∧ (∀ c ∈ gs', rtG c) ∧ Fresh w8 pg.ca ∧ Fresh w8 pg.ga ∧ (cs'.length = 0 → pg.ca = none) ∧ (cs'.length ≠ 0 → pg.ga = none ∧ gs' = []) := ⟨pg, gs', k27, hb27, hnum, hlsn, hown, by omega, hokg, fca, fga, hz, hnz⟩
    refine ⟨_, _, _, pc3 hbp27, cond_d (fun hlt => cond_d (fun hlt84 => ⟨_, _, _, pc2 hb27, cond_eq (fun hc0 => ?_) (fun _ => fin)⟩) (fun _ => fin)) (fun _ => fin)⟩
    have hcs0 : cs'.length = 0 := by omega
    have hcan := hz hcs0
    have hkl : k < gs.length := by omega
    have hkw : IntKind.wrap .i64 ((k : Int) + 1) = ((k + 1 : Nat) : Int) := by rw [wrap_i64 (by omega) (by omega)]; omega
    rw [hkw]
    have hgo := hgok gs[k] (List.getElem_mem hkl)
    refine ⟨_, _, _, pc3 hbp27, grpI (hp.kp0 (hin _ k27)).g hkl hgl rfl ?_⟩
    generalize gs[k] = c at hgo
    refine AlF.intro fun b6 w28 hb6e hb6 k28' s28 => ?_
    refine StF.at rfl hb6 (by simp) fun w29 hb29 k29 s29 => ?_
    refine StF.at (add_at _ _ _) hb29 (by simp) fun w30 hb30 k30 s30 => ?_
    have hb30' : Blk w30 b6 #[.int .i64 c.id, .int .i64 c.sum] T_api_Group := hb30
    refine ⟨_, hb30'.cell 0, pick_c (by omega) (by omega) (by omega) fun i hi1 hi2 => ⟨_, rfl, ?_⟩⟩
    refine StF.at rfl hb30' (by simp) fun w32 hb32 k32 s32 => ?_
    have hb32' : Blk w32 b6 #[.int .i64 i, .int .i64 c.sum] T_api_Group := hb32
    have k2732 : Kp no w27 w32 := kp_blk k28' (by omega) ((k29.trans0 k30).trans0 k32)
    have hb332 := k2732.blk hb27 id
    refine ⟨_, _, _, pc3 hb332, i, c.sum, ⟨hb32'.cell 0, by rw [add_at]; exact hb32'.cell 1, trivial⟩, ?_⟩
    refine AlF.intro fun b7 w33 hb7e hb7 k33 s33 => ?_
    have k2733 := k2732.trans0 k33
    have nin : ∀ j, Is pg.ga j → w8.heap.size ≤ j := fga
    have hgl' := hown.gl
    refine append_own er_grp (hown.g.kp0 k2733) (rd_cells (xs := GL.cs ⟨i, c.sum⟩) hb7 rfl) rfl (fun h => by cases h) (fun u hu => by simp only [GL.cs, List.mem_cons, List.not_mem_nil, or_false] at hu; rcases hu with rfl | rfl <;> rfl) (by omega) (by omega) fun a' c0 w34 hs34 k34 hi34 _ _ => ⟨_, _, _, rfl, ?_⟩
    have hb334 : Blk w34 b3 pg.cs T_quotaref07_Page := k34.blk (k2733.blk hb27 id) fun hh => by have := nin _ hh; omega
    refine StF.at (add_at _ _ _) hb334 (by simp [PgV.cs]) fun w35 hb35 k35 s35 => ⟨⟨k + 1, { pg with ga := a', gl := pg.gl + 1, gc := c0 }, gs' ++ [⟨i, c.sum⟩], by omega, rfl, by omega, ?_, hb35, hnum, hlsn, ?_, by simp [hglen], ?_, fca, ?_, hz, fun h => absurd hcs0 h⟩, by simp only [Int.toNat_natCast]; omega⟩
    · exact (((k27.trans0 k2733.of_no).trans k34 (fun _ _ h => h) fun j hj hh => by have := nin j hh; omega).trans0 k35)
    · refine Own_push_g (hs34.kp k35 fun j hj hh => ?_) (by omega) (((hown.c.kp0 k2733).kp k34 fun j hj => by rw [hcan] at hj; exact (is_none hj).elim).kp k35 fun j hj => by rw [hcan] at hj; exact (is_none hj).elim) hown.cb
      rcases hi34 j hj with h | h
      · have := nin j h; omega
      · have := k2733.size; have := k27.size; omega
    · intro x hx
      rcases List.mem_append.1 hx with hx | hx
      · exact hokg x hx
      · rw [List.mem_singleton] at hx; subst hx; exact rtG_of ⟨hi1, hi2⟩ hgo.sum
    · intro j hj
      rcases hi34 j hj with h | h
      · exact nin j h
      · have := k2733.size; have := k27.size; omega
  rintro u17 w36 ⟨pg, gs', k36, hb36, hnum, hlsn, hown, hglen, hokg, fca, fga, hz, hnz⟩ _
  have hcl' := hown.cl
  have hgl' := hown.gl
  have hcb' := hown.cb
  have hgb' := hown.gb
  have ew : IntKind.wrap .i64 ((pg.cl : Int) + (pg.gl : Int)) = ((cs'.length + gs'.length : Nat) : Int) := by rw [wrap_i64 (by omega) (by omega)]; omega
  refine ⟨fun _ w' => ∃ pg : PgV, Kp (fun j => j = b3) w8 w' ∧ Blk w' b3 pg.cs T_quotaref07_Page ∧ pg.num = r ∧ (0 ≤ pg.lsn ∧ pg.lsn ≤ 2147483647) ∧ (pg.lsn = 0 ↔ cs'.length + gs'.length = 0) ∧ pg.Own w' cs' gs' ∧ Fresh w8 pg.ca ∧ Fresh w8 pg.ga ∧ (pg.ca = none ∨ pg.ga = none), ?_, ?_⟩
  · have hone : pg.ca = none ∨ pg.ga = none := by
      by_cases h0 : cs'.length = 0
      · exact .inl (hz h0)
      · exact .inr (hnz h0).1
    refine ⟨_, _, _, pc2 hb36, _, _, _, pc3 hb36, ?_⟩
    rw [ew]
    refine cond_d (fun hpos => ?_) (fun hzero => ⟨pg, k36, hb36, hnum, by omega, by omega, hown, fca, fga, hone⟩)
    have hbp36 := k36.blk hbp8 (by omega)
    refine ⟨_, pc1 hbp36, pick_c (by omega) (by omega) (by omega) fun l hl1 hl2 => ⟨_, rfl, ?_⟩⟩
    refine StF.at (add_at _ _ _) hb36 (by simp [PgV.cs]) fun w38 hb38' k38 s38 => ⟨{ pg with lsn := l }, k36.trans0 k38, hb38', hnum, (by dsimp only; omega), (by dsimp only; omega), ⟨hown.c.kp k38 (fun j hj hh => ?_), hown.cb, hown.g.kp k38 (fun j hj hh => ?_), hown.gb⟩, fca, fga, hone⟩
    · have := fca j hj; omega
    · have := fga j hj; omega
  rintro u19 w39 ⟨pg, k39, hb39, hnum, hl1, hl2, hown, fca, fga, hone⟩ _
  refine ⟨_, _, _, _, _, _, _, _, ⟨pc0 hb39, pc1 hb39, pc2 hb39, pc3 hb39, trivial⟩, ?_⟩
  have hb239 := k39.blk hb28 (by omega)
  refine ret4 (K := fun q w' => R (.returned (.agg q)) w') hb239 rfl fun w' _ k' _ => ?_
  refine h pg cs' gs' w' ⟨⟨by omega, ?_, hlen, hglen, hl1, hl2, fun c hc => (hok c hc).1, fun c hc => (hokg c hc).1⟩, fun c hc => (hok c hc).2, fun c hc => (hokg c hc).2, hown.kp k' (fun j hj hh => ?_) (fun j hj hh => ?_), kp_blk (hin _ k39) (by omega) k', fun j hj => ?_, fun j hj => ?_, hone⟩
  · by_cases h0 : cs'.length = 0
    · exact .inl h0
    · exact .inr (by rw [(hnz h0).2]; rfl)
  · have := fca j hj; omega
  · have := fga j hj; omega
  · have := fca j hj; have := k08.size; omega
  · have := fga j hj; have := k08.size; omega

theorem right_c {w : World} {p : PgV} {cs : List CL} {gs : List GL} {R : Ending → World → Prop} (hp : p.In w cs gs) (hcok : ∀ x ∈ cs, x.Ok) (hgok : ∀ x ∈ gs, x.Ok)
    (h : ∀ (q : PgV) (cs' : List CL) (gs' : List GL) w', MadeR w q cs' gs' w' → R (.returned (.agg q.cs)) w') : GoC Tryd.prog F_law07_right #[.agg p.cs] w R := by
  refine S_law07_right ?_
  unfold W_law07_right
  refine AlF.intro fun b1 w1 hb1e hb1 k1 s1 => AlF.intro fun b2 w2 hb2e hb2 k2 s2 => ?_
  have hbp : Blk w2 b1 p.cs T_quotalaw07_P := k2.blk (show Blk w1 b1 p.cs T_quotalaw07_P from hb1) id
  have k02 := k1.trans0 k2
  refine ⟨_, _, _, _, _, _, _, _, ⟨pc0 hbp, pc1 hbp, pc2 hbp, pc3 hbp, trivial⟩, ?_⟩
  refine ref_c (p := p) fun w3 k3 => ⟨_, _, _, _, _, _, _, _, rfl, ?_⟩
  refine made_c (p := p) (hp.kp0 (k02.trans0 k3)) hcok hgok fun q cs' gs' w4 M => ⟨_, _, _, _, _, _, _, _, rfl, ?_⟩
  refine AlF.intro fun b3 w5 hb3e hb3 k5 s5 => st4 hb3 rfl fun w9 hb9 k9 s9 => ?_
  have hbq : Blk w9 b3 q.cs T_quotaref07_Page := hb9
  have k49 : Kp no w4 w9 := kp_blk k5 (by omega) k9
  have k29 := (k3.trans0 M.kp).trans0 k49
  refine ⟨_, pc0 hbq, _, pc1 hbq, _, _, _, pc2 hbq, _, _, _, pc3 hbq, ?_⟩
  have hb29 := k29.blk hb2 id
  have sz := (k02.trans0 k3).size
  refine ret4 (K := fun q w' => R (.returned (.agg q)) w') hb29 rfl fun w' _ k' _ => ?_
  have k0' : Kp no w w' := kp_blk (k02.trans0 k29) (by omega) k'
  have sz2 := k2.size
  have sz3 := k3.size
  refine h q cs' gs' w' ⟨M.right, M.c, M.g, (M.own.kp0 k49).kp k' (fun j hj hh => ?_) (fun j hj hh => ?_), k0', fun j hj => ?_, fun j hj => ?_, M.one⟩
  · have := M.fc j hj; omega
  · have := M.fg j hj; omega
  · have := M.fc j hj; omega
  · have := M.fg j hj; omega
end Go.Proofs.YtnkdonpammdldaaDoor

/- Plain: a page's bytes, field by field: what is written is read again, and only it. Conditions: none. -/
set_option linter.unusedVariables false
set_option linter.unusedSimpArgs false
namespace Go.Proofs.YtnkdonpammdldaaDoor
open Go Go.RowKit

/-- Alike from a to b. -/
def AgB (X Y : List UInt8) (a b : Nat) : Prop := ∀ i, a ≤ i → i < b → X[i]? = Y[i]?
section
variable {X Y Z : List UInt8} {a b : Nat}
theorem AgB.refl (X : List UInt8) (a b : Nat) : AgB X X a b := fun _ _ _ => rfl
theorem AgB.symm (h : AgB X Y a b) : AgB Y X a b := fun i h1 h2 => (h i h1 h2).symm
theorem AgB.trans (h : AgB X Y a b) (h' : AgB Y Z a b) : AgB X Z a b := fun i h1 h2 => (h i h1 h2).trans (h' i h1 h2)
theorem AgB.mono {c d : Nat} (h : AgB X Y a b) (h1 : a ≤ c) (h2 : d ≤ b) : AgB X Y c d := fun i h3 h4 => h i (by omega) (by omega)
theorem AgB.slice (h : AgB X Y a b) {c s : Nat} (h1 : a ≤ c) (h2 : c + s ≤ b) : (X.drop c).take s = (Y.drop c).take s := by
  apply List.ext_getElem?
  intro i
  rw [List.getElem?_take, List.getElem?_take]
  by_cases hi : i < s
  · rw [if_pos hi, if_pos hi, List.getElem?_drop, List.getElem?_drop]
    exact h _ (by omega) (by omega)
  · rw [if_neg hi, if_neg hi]
theorem AgB.rdN (h : AgB X Y a b) {c s : Nat} (h1 : a ≤ c) (h2 : c + s ≤ b) : rdN X c s = rdN Y c s := by unfold Go.Proofs.YtnkdonpammdldaaDoor.rdN; rw [h.slice h1 h2]
theorem AgB.byteN (h : AgB X Y a b) {c : Nat} (h1 : a ≤ c) (h2 : c < b) : byteN X c = byteN Y c := by
  unfold Go.Proofs.YtnkdonpammdldaaDoor.byteN
  rw [List.getD_eq_getElem?_getD, List.getD_eq_getElem?_getD, h c h1 h2]
theorem AgB.ctrAt (h : AgB X Y a b) {i : Nat} (h1 : a ≤ 16 + 32 * i) (h2 : 16 + 32 * i + 32 ≤ b) : ctrAt X i = ctrAt Y i := by
  unfold Go.Proofs.YtnkdonpammdldaaDoor.ctrAt
  rw [h.rdN (c := 16 + 32 * i) (by omega) (by omega), h.rdN (c := 16 + 32 * i + 4) (by omega) (by omega), h.rdN (c := 16 + 32 * i + 8) (by omega) (by omega), h.rdN (c := 16 + 32 * i + 16) (by omega) (by omega), h.rdN (c := 16 + 32 * i + 24) (by omega) (by omega)]
theorem AgB.grpAt (h : AgB X Y a b) {i : Nat} (h1 : a ≤ 16 + 12 * i) (h2 : 16 + 12 * i + 12 ≤ b) : grpAt X i = grpAt Y i := by
  unfold Go.Proofs.YtnkdonpammdldaaDoor.grpAt
  rw [h.rdN (c := 16 + 12 * i) (by omega) (by omega), h.rdN (c := 16 + 12 * i + 4) (by omega) (by omega)]
end

theorem ovr_ag {B : List UInt8} {a s n c d : Nat} (h : a + s ≤ B.length) (hd : d ≤ a ∨ a + s ≤ c) : AgB (ovr B a s n) B c d := fun i h1 h2 => by rw [ovr_get h, if_neg (by omega)]
theorem rdN_ovr {B : List UInt8} {a s n : Nat} (h : a + s ≤ B.length) : rdN (ovr B a s n) a s = n % 256 ^ s := by
  unfold rdN
  have e : ((ovr B a s n).drop a).take s = leB8 s n := by
    have hl := leB8_len s n
    apply List.ext_getElem?
    intro i
    rw [List.getElem?_take]
    by_cases hi : i < s
    · rw [if_pos hi, List.getElem?_drop, ovr_get h, if_pos (by omega)]
      congr 1
      omega
    · rw [if_neg hi, List.getElem?_eq_none (by omega)]
  rw [e, leN_leB8]
theorem byteN_rd (B : List UInt8) (i : Nat) (h : i < B.length) : rdN B i 1 = byteN B i := by
  unfold rdN
  rw [List.drop_eq_getElem_cons h, List.take_succ_cons, List.take_zero, leN, leN, byteN_get h]
  omega

theorem i64_u64n {x : Int} (h : In64 x) : i64 (u64n x) = x := by
  unfold In64 at h
  unfold i64 u64n
  have h1 := Int.emod_nonneg x (show (18446744073709551616 : Int) ≠ 0 by omega)
  rw [Int.toNat_of_nonneg h1]
  simp only [IntKind.wrap, IntKind.bits, IntKind.signed, Bool.true_and]
  split
  · rename_i hh; have := of_decide_eq_true hh; omega
  · rename_i hh; have := of_decide_eq_false (Bool.eq_false_iff.2 hh); omega
theorem i64_val {n : Nat} (h : n < 18446744073709551616) : (n < 9223372036854775808 ∧ i64 n = (n : Int)) ∨ (9223372036854775808 ≤ n ∧ i64 n = (n : Int) - 18446744073709551616) := by
  unfold i64
  simp only [IntKind.wrap, IntKind.bits, IntKind.signed, Bool.true_and]
  split
  · rename_i hh; have := of_decide_eq_true hh; right; omega
  · rename_i hh; have := of_decide_eq_false (Bool.eq_false_iff.2 hh); left; omega
theorem i64_inj {m n : Nat} (hm : m < 18446744073709551616) (hn : n < 18446744073709551616) (h : i64 m = i64 n) : m = n := by
  rcases i64_val hm with ⟨a1, a2⟩ | ⟨a1, a2⟩ <;> rcases i64_val hn with ⟨b1, b2⟩ | ⟨b1, b2⟩ <;> omega
theorem i64_in (n : Nat) : In64 (i64 n) := by
  unfold In64 i64
  simp only [IntKind.wrap, IntKind.bits, IntKind.signed, Bool.true_and]
  split
  · rename_i hh; have := of_decide_eq_true hh; omega
  · rename_i hh; have := of_decide_eq_false (Bool.eq_false_iff.2 hh); omega
theorem i64_small {n : Nat} (h : n < 9223372036854775808) : i64 n = (n : Int) := by unfold i64; exact wrap_i64 (by omega) (by omega)

theorem ctrAt_ctrO {B : List UInt8} {i : Nat} {c : CL} (h : 16 + 32 * i + 32 ≤ B.length) (hf : faultC c = 0) (ho : c.Ok) : ctrAt (ctrO B i c) i = c := by
  have hfit : fits1 c.id ∧ fits1 c.grp := by
    unfold faultC at hf
    split at hf
    · assumption
    · cases hf
  have n1 := (fits_u64 hfit.1).1
  have n2 := (fits_u64 hfit.2).1
  have n3 : u64n c.lo < 256 ^ 8 := u64n_lt _
  have n4 : u64n c.hi < 256 ^ 8 := u64n_lt _
  have n5 : u64n c.val < 256 ^ 8 := u64n_lt _
  unfold ctrO ctrAt
  generalize 16 + 32 * i = z at *
  have l1 : (ovr B z 4 (u64n c.id)).length = B.length := ovr_len (by omega)
  have r1 := rdN_ovr (B := B) (a := z) (s := 4) (n := u64n c.id) (by omega)
  generalize ovr B z 4 (u64n c.id) = B1 at *
  have l2 : (ovr B1 (z + 4) 4 (u64n c.grp)).length = B.length := by rw [ovr_len (by omega), l1]
  have r2 := rdN_ovr (B := B1) (a := z + 4) (s := 4) (n := u64n c.grp) (by omega)
  have a2 := ovr_ag (B := B1) (a := z + 4) (s := 4) (n := u64n c.grp) (c := z) (d := z + 4) (by omega) (by omega)
  generalize ovr B1 (z + 4) 4 (u64n c.grp) = B2 at *
  have l3 : (ovr B2 (z + 8) 8 (u64n c.lo)).length = B.length := by rw [ovr_len (by omega), l2]
  have r3 := rdN_ovr (B := B2) (a := z + 8) (s := 8) (n := u64n c.lo) (by omega)
  have a3 := ovr_ag (B := B2) (a := z + 8) (s := 8) (n := u64n c.lo) (c := z) (d := z + 8) (by omega) (by omega)
  generalize ovr B2 (z + 8) 8 (u64n c.lo) = B3 at *
  have l4 : (ovr B3 (z + 16) 8 (u64n c.hi)).length = B.length := by rw [ovr_len (by omega), l3]
  have r4 := rdN_ovr (B := B3) (a := z + 16) (s := 8) (n := u64n c.hi) (by omega)
  have a4 := ovr_ag (B := B3) (a := z + 16) (s := 8) (n := u64n c.hi) (c := z) (d := z + 16) (by omega) (by omega)
  generalize ovr B3 (z + 16) 8 (u64n c.hi) = B4 at *
  have r5 := rdN_ovr (B := B4) (a := z + 24) (s := 8) (n := u64n c.val) (by omega)
  have a5 := ovr_ag (B := B4) (a := z + 24) (s := 8) (n := u64n c.val) (c := z) (d := z + 24) (by omega) (by omega)
  generalize ovr B4 (z + 24) 8 (u64n c.val) = B5 at *
  rw [a5.rdN (c := z) (s := 4) (by omega) (by omega), a4.rdN (c := z) (s := 4) (by omega) (by omega), a3.rdN (c := z) (s := 4) (by omega) (by omega), a2.rdN (c := z) (s := 4) (by omega) (by omega), r1,
    a5.rdN (c := z + 4) (s := 4) (by omega) (by omega), a4.rdN (c := z + 4) (s := 4) (by omega) (by omega), a3.rdN (c := z + 4) (s := 4) (by omega) (by omega), r2,
    a5.rdN (c := z + 8) (s := 8) (by omega) (by omega), a4.rdN (c := z + 8) (s := 8) (by omega) (by omega), r3,
    a5.rdN (c := z + 16) (s := 8) (by omega) (by omega), r4, r5]
  rw [Nat.mod_eq_of_lt n1, Nat.mod_eq_of_lt n2, Nat.mod_eq_of_lt n3, Nat.mod_eq_of_lt n4, Nat.mod_eq_of_lt n5, i64_u64n ho.id, i64_u64n ho.grp, i64_u64n ho.lo, i64_u64n ho.hi, i64_u64n ho.val]
theorem grpAt_grpO {B : List UInt8} {i : Nat} {g : GL} (h : 16 + 12 * i + 12 ≤ B.length) (hf : faultG g = 0) (ho : g.Ok) : grpAt (grpO B i g) i = g := by
  have hfit : fits1 g.id := by
    unfold faultG at hf
    split at hf
    · assumption
    · cases hf
  have n1 := (fits_u64 hfit).1
  have n2 : u64n g.sum < 256 ^ 8 := u64n_lt _
  unfold grpO grpAt
  generalize 16 + 12 * i = z at *
  have l1 : (ovr B z 4 (u64n g.id)).length = B.length := ovr_len (by omega)
  have r1 := rdN_ovr (B := B) (a := z) (s := 4) (n := u64n g.id) (by omega)
  generalize ovr B z 4 (u64n g.id) = B1 at *
  have r2 := rdN_ovr (B := B1) (a := z + 4) (s := 8) (n := u64n g.sum) (by omega)
  have a2 := ovr_ag (B := B1) (a := z + 4) (s := 8) (n := u64n g.sum) (c := z) (d := z + 4) (by omega) (by omega)
  generalize ovr B1 (z + 4) 8 (u64n g.sum) = B2 at *
  rw [a2.rdN (c := z) (s := 4) (by omega) (by omega), r1, r2, Nat.mod_eq_of_lt n1, Nat.mod_eq_of_lt n2, i64_u64n ho.id, i64_u64n ho.sum]
theorem ctrO_ag {B : List UInt8} {i : Nat} {c : CL} {e d : Nat} (h : 16 + 32 * i + 32 ≤ B.length) (hd : d ≤ 16 + 32 * i ∨ 16 + 32 * i + 32 ≤ e) : AgB (ctrO B i c) B e d := by
  unfold ctrO
  generalize 16 + 32 * i = z at *
  have l1 : (ovr B z 4 (u64n c.id)).length = B.length := ovr_len (by omega)
  have a1 := ovr_ag (B := B) (a := z) (s := 4) (n := u64n c.id) (c := e) (d := d) (by omega) (by omega)
  generalize ovr B z 4 (u64n c.id) = B1 at *
  have l2 : (ovr B1 (z + 4) 4 (u64n c.grp)).length = B.length := by rw [ovr_len (by omega), l1]
  have a2 := ovr_ag (B := B1) (a := z + 4) (s := 4) (n := u64n c.grp) (c := e) (d := d) (by omega) (by omega)
  generalize ovr B1 (z + 4) 4 (u64n c.grp) = B2 at *
  have l3 : (ovr B2 (z + 8) 8 (u64n c.lo)).length = B.length := by rw [ovr_len (by omega), l2]
  have a3 := ovr_ag (B := B2) (a := z + 8) (s := 8) (n := u64n c.lo) (c := e) (d := d) (by omega) (by omega)
  generalize ovr B2 (z + 8) 8 (u64n c.lo) = B3 at *
  have l4 : (ovr B3 (z + 16) 8 (u64n c.hi)).length = B.length := by rw [ovr_len (by omega), l3]
  have a4 := ovr_ag (B := B3) (a := z + 16) (s := 8) (n := u64n c.hi) (c := e) (d := d) (by omega) (by omega)
  generalize ovr B3 (z + 16) 8 (u64n c.hi) = B4 at *
  have a5 := ovr_ag (B := B4) (a := z + 24) (s := 8) (n := u64n c.val) (c := e) (d := d) (by omega) (by omega)
  exact (((a5.trans a4).trans a3).trans a2).trans a1
theorem grpO_ag {B : List UInt8} {i : Nat} {c : GL} {e d : Nat} (h : 16 + 12 * i + 12 ≤ B.length) (hd : d ≤ 16 + 12 * i ∨ 16 + 12 * i + 12 ≤ e) : AgB (grpO B i c) B e d := by
  unfold grpO
  generalize 16 + 12 * i = z at *
  have l1 : (ovr B z 4 (u64n c.id)).length = B.length := ovr_len (by omega)
  have a1 := ovr_ag (B := B) (a := z) (s := 4) (n := u64n c.id) (c := e) (d := d) (by omega) (by omega)
  generalize ovr B z 4 (u64n c.id) = B1 at *
  have a2 := ovr_ag (B := B1) (a := z + 4) (s := 8) (n := u64n c.sum) (c := e) (d := d) (by omega) (by omega)
  exact a2.trans a1
theorem ctrsO_ag : ∀ (cs : List CL) (B : List UInt8) (i : Nat) (e d : Nat), 16 + 32 * (i + cs.length) ≤ B.length → (d ≤ 16 + 32 * i ∨ 16 + 32 * (i + cs.length) ≤ e) → AgB (ctrsO B i cs) B e d
  | [], B, _, e, d, _, _ => AgB.refl _ _ _
  | c :: r, B, i, e, d, h, hd => by
    rw [List.length_cons] at h hd
    rw [ctrsO]
    exact (ctrsO_ag r _ _ e d (by rw [ctrO_len (by omega)]; omega) (by omega)).trans (ctrO_ag (by omega) (by omega))
theorem grpsO_ag : ∀ (cs : List GL) (B : List UInt8) (i : Nat) (e d : Nat), 16 + 12 * (i + cs.length) ≤ B.length → (d ≤ 16 + 12 * i ∨ 16 + 12 * (i + cs.length) ≤ e) → AgB (grpsO B i cs) B e d
  | [], B, _, e, d, _, _ => AgB.refl _ _ _
  | c :: r, B, i, e, d, h, hd => by
    rw [List.length_cons] at h hd
    rw [grpsO]
    exact (grpsO_ag r _ _ e d (by rw [grpO_len (by omega)]; omega) (by omega)).trans (grpO_ag (by omega) (by omega))
theorem ctrsO_at : ∀ (cs : List CL) (B : List UInt8) (i : Nat), 16 + 32 * (i + cs.length) ≤ B.length → (∀ c ∈ cs, faultC c = 0) → (∀ c ∈ cs, c.Ok) → ∀ j (h : j < cs.length), ctrAt (ctrsO B i cs) (i + j) = cs[j]
  | [], _, _, _, _, _, j, h => by simp at h
  | c :: r, B, i, h, hf, ho, j, hj => by
    rw [List.length_cons] at h hj
    have hl := ctrO_len (B := B) (i := i) (c := c) (by omega)
    rw [ctrsO]
    cases j with
    | zero =>
      rw [Nat.add_zero, (ctrsO_ag r (ctrO B i c) (i + 1) (16 + 32 * i) (16 + 32 * i + 32) (by omega) (by omega)).ctrAt (by omega) (by omega)]
      exact ctrAt_ctrO (by omega) (hf c (List.mem_cons_self ..)) (ho c (List.mem_cons_self ..))
    | succ j =>
      have := ctrsO_at r (ctrO B i c) (i + 1) (by omega) (fun x hx => hf x (List.mem_cons_of_mem _ hx)) (fun x hx => ho x (List.mem_cons_of_mem _ hx)) j (by omega)
      have e : i + (j + 1) = i + 1 + j := by omega
      rw [e, this]
      rfl
theorem grpsO_at : ∀ (cs : List GL) (B : List UInt8) (i : Nat), 16 + 12 * (i + cs.length) ≤ B.length → (∀ c ∈ cs, faultG c = 0) → (∀ c ∈ cs, c.Ok) → ∀ j (h : j < cs.length), grpAt (grpsO B i cs) (i + j) = cs[j]
  | [], _, _, _, _, _, j, h => by simp at h
  | c :: r, B, i, h, hf, ho, j, hj => by
    rw [List.length_cons] at h hj
    have hl := grpO_len (B := B) (i := i) (c := c) (by omega)
    rw [grpsO]
    cases j with
    | zero =>
      rw [Nat.add_zero, (grpsO_ag r (grpO B i c) (i + 1) (16 + 12 * i) (16 + 12 * i + 12) (by omega) (by omega)).grpAt (by omega) (by omega)]
      exact grpAt_grpO (by omega) (hf c (List.mem_cons_self ..)) (ho c (List.mem_cons_self ..))
    | succ j =>
      have := grpsO_at r (grpO B i c) (i + 1) (by omega) (fun x hx => hf x (List.mem_cons_of_mem _ hx)) (fun x hx => ho x (List.mem_cons_of_mem _ hx)) j (by omega)
      have e : i + (j + 1) = i + 1 + j := by omega
      rw [e, this]
      rfl

theorem psumN_ag {X Y : List UInt8} (hl : X.length = Y.length) (h1 : AgB X Y 0 12) (h2 : AgB X Y 16 X.length) : psumN X = psumN Y := by
  unfold psumN
  have e1 : X.take 12 = Y.take 12 := by simpa using h1.slice (c := 0) (s := 12) (by omega) (by omega)
  have e2 : X.drop 16 = Y.drop 16 := by
    apply List.ext_getElem?
    intro i
    rw [List.getElem?_drop, List.getElem?_drop]
    by_cases hi : 16 + i < X.length
    · exact h2 _ (by omega) hi
    · rw [List.getElem?_eq_none (by omega), List.getElem?_eq_none (by omega)]
  rw [e1, e2]

/-- What a page's bytes say, field by field. -/
structure PgB (B : List UInt8) (num lsn : Nat) (cs : List CL) (gs : List GL) : Prop where
  len : B.length = 1024
  b0 : byteN B 0 = 113
  b1 : byteN B 1 = kindN gs
  hnum : dNum B = num
  n : dN B = cs.length + gs.length
  sp : dSp B = 0
  hlsn : dLsn B = lsn
  sum : dSum B = psumN B
  c : ∀ i (h : i < cs.length), ctrAt B i = cs[i]
  g : ∀ i (h : i < gs.length), grpAt B i = gs[i]
  z : ∀ i, 16 + 32 * cs.length + 12 * gs.length ≤ i → i < 1024 → B[i]? = some 0

theorem head_fields {num n lsn k : Nat} (h1 : num < 65536) (h2 : n < 65536) (h3 : lsn < 4294967296) (h4 : k < 256) :
    byteN (headO num n lsn k) 0 = 113 ∧ byteN (headO num n lsn k) 1 = k ∧ dNum (headO num n lsn k) = num ∧ dN (headO num n lsn k) = n ∧ dSp (headO num n lsn k) = 0 ∧ dLsn (headO num n lsn k) = lsn ∧ AgB (headO num n lsn k) page0 12 1024 := by
  have h0 := page0_len
  have hz := page0_get
  unfold headO dNum dN dSp dLsn
  generalize page0 = P0 at *
  have l1 : (ovr P0 0 1 113).length = 1024 := by rw [ovr_len (by omega)]; exact h0
  have r1 := rdN_ovr (B := P0) (a := 0) (s := 1) (n := 113) (by omega)
  have a1 := ovr_ag (B := P0) (a := 0) (s := 1) (n := 113) (c := 1) (d := 1024) (by omega) (by omega)
  generalize ovr P0 0 1 113 = B1 at *
  have l2 : (ovr B1 1 1 k).length = 1024 := by rw [ovr_len (by omega)]; exact l1
  have r2 := rdN_ovr (B := B1) (a := 1) (s := 1) (n := k) (by omega)
  have a2 := ovr_ag (B := B1) (a := 1) (s := 1) (n := k) (c := 0) (d := 1) (by omega) (by omega)
  have z2 := ovr_ag (B := B1) (a := 1) (s := 1) (n := k) (c := 2) (d := 1024) (by omega) (by omega)
  generalize ovr B1 1 1 k = B2 at *
  have l3 : (ovr B2 2 2 num).length = 1024 := by rw [ovr_len (by omega)]; exact l2
  have r3 := rdN_ovr (B := B2) (a := 2) (s := 2) (n := num) (by omega)
  have a3 := ovr_ag (B := B2) (a := 2) (s := 2) (n := num) (c := 0) (d := 2) (by omega) (by omega)
  have z3 := ovr_ag (B := B2) (a := 2) (s := 2) (n := num) (c := 4) (d := 1024) (by omega) (by omega)
  generalize ovr B2 2 2 num = B3 at *
  have l4 : (ovr B3 4 2 n).length = 1024 := by rw [ovr_len (by omega)]; exact l3
  have r4 := rdN_ovr (B := B3) (a := 4) (s := 2) (n := n) (by omega)
  have a4 := ovr_ag (B := B3) (a := 4) (s := 2) (n := n) (c := 0) (d := 4) (by omega) (by omega)
  have z4 := ovr_ag (B := B3) (a := 4) (s := 2) (n := n) (c := 6) (d := 1024) (by omega) (by omega)
  generalize ovr B3 4 2 n = B4 at *
  have l5 : (ovr B4 8 4 lsn).length = 1024 := by rw [ovr_len (by omega)]; exact l4
  have r5 := rdN_ovr (B := B4) (a := 8) (s := 4) (n := lsn) (by omega)
  have a5 := ovr_ag (B := B4) (a := 8) (s := 4) (n := lsn) (c := 0) (d := 8) (by omega) (by omega)
  have z5 := ovr_ag (B := B4) (a := 8) (s := 4) (n := lsn) (c := 12) (d := 1024) (by omega) (by omega)
  generalize ovr B4 8 4 lsn = B5 at *
  refine ⟨?_, ?_, ?_, ?_, ?_, ?_, ?_⟩
  · rw [← byteN_rd _ _ (by omega), a5.rdN (by omega) (by omega), a4.rdN (by omega) (by omega), a3.rdN (by omega) (by omega), a2.rdN (by omega) (by omega), r1]
  · rw [← byteN_rd _ _ (by omega), a5.rdN (by omega) (by omega), a4.rdN (by omega) (by omega), a3.rdN (by omega) (by omega), r2]
    omega
  · rw [a5.rdN (by omega) (by omega), a4.rdN (by omega) (by omega), r3]; omega
  · rw [a5.rdN (by omega) (by omega), r4]; omega
  · rw [rdN_two (by omega), a5.byteN (by omega) (by omega), a5.byteN (by omega) (by omega), z4.byteN (by omega) (by omega), z4.byteN (by omega) (by omega), z3.byteN (by omega) (by omega), z3.byteN (by omega) (by omega), z2.byteN (by omega) (by omega), z2.byteN (by omega) (by omega), a1.byteN (by omega) (by omega), a1.byteN (by omega) (by omega)]
    unfold byteN
    rw [List.getD_eq_getElem?_getD, List.getD_eq_getElem?_getD, hz 6 (by omega), hz 7 (by omega)]
    rfl
  · rw [r5]; omega
  · intro i h1 h2
    rw [z5 i h1 h2, z4 i (by omega) h2, z3 i (by omega) h2, z2 i (by omega) h2, a1 i (by omega) h2]

/-- What is written of a right page says that page. -/
theorem enc_pgb {num lsn : Int} {cs : List CL} {gs : List GL} (hR : Right num lsn cs gs) (hc : ∀ x ∈ cs, x.Ok) (hg : ∀ x ∈ gs, x.Ok) (hne : cs.length + gs.length ≠ 0) : PgB (encO num lsn cs gs) num.toNat lsn.toNat cs gs := by
  obtain ⟨h1, h2, h3, h4, h5, h6, h7, h8⟩ := hR
  have e1 := small_u64 (n := num) (by omega)
  have e2 := small_u64 (n := lsn) (by omega)
  have hk3 : kindN gs < 256 := by unfold kindN; split <;> omega
  unfold encO
  rw [if_neg hne]
  have hbl := bodyO_len (num := num) (lsn := lsn) h3 h4
  obtain ⟨f1, f2, f3, f4, f5, f6, f7⟩ := head_fields (num := u64n num) (n := cs.length + gs.length) (lsn := u64n lsn) (k := kindN gs) (by omega) (by omega) (by omega) hk3
  have hhl := headO_len (u64n num) (cs.length + gs.length) (u64n lsn) (kindN gs)
  have hbd : AgB (bodyO num lsn cs gs) (headO (u64n num) (cs.length + gs.length) (u64n lsn) (kindN gs)) 0 16 ∧ AgB (bodyO num lsn cs gs) (headO (u64n num) (cs.length + gs.length) (u64n lsn) (kindN gs)) (16 + 32 * cs.length + 12 * gs.length) 1024 ∧ (∀ i (h : i < cs.length), ctrAt (bodyO num lsn cs gs) i = cs[i]) ∧ (∀ i (h : i < gs.length), grpAt (bodyO num lsn cs gs) i = gs[i]) := by
    unfold bodyO
    generalize headO (u64n num) (cs.length + gs.length) (u64n lsn) (kindN gs) = H at *
    have hcl := ctrsO_len cs H 0 (by omega)
    have q1 := ctrsO_ag cs H 0 0 16 (by omega) (by omega)
    have q2 := ctrsO_ag cs H 0 (16 + 32 * cs.length) 1024 (by omega) (by omega)
    have q3 := ctrsO_at cs H 0 (by omega) h7 hc
    generalize ctrsO H 0 cs = X at *
    have p1 := grpsO_ag gs X 0 0 16 (by omega) (by omega)
    have p2 := grpsO_ag gs X 0 (16 + 12 * gs.length) 1024 (by omega) (by omega)
    have p3 := grpsO_at gs X 0 (by omega) h8 hg
    refine ⟨p1.trans q1, (p2.mono (by omega) (by omega)).trans (q2.mono (by omega) (by omega)), fun i hi => ?_, fun i hi => ?_⟩
    · have hg0 : gs = [] := List.eq_nil_of_length_eq_zero (by omega)
      subst hg0
      have := q3 i hi
      rw [Nat.zero_add] at this
      exact this
    · have := p3 i hi
      rw [Nat.zero_add] at this
      exact this
  obtain ⟨b1, b2, b3, b4⟩ := hbd
  generalize headO (u64n num) (cs.length + gs.length) (u64n lsn) (kindN gs) = H at *
  generalize bodyO num lsn cs gs = X at *
  have hps : psumN X < 4294967296 := Nat.xor_lt_two_pow (n := 32) (fold_lt _ _ (by omega)) (by omega)
  have sl : (sealO X).length = 1024 := by rw [sealO_len (by omega), hbl]
  have s1 : AgB (sealO X) X 0 12 := ovr_ag (by omega) (by omega)
  have s2 : AgB (sealO X) X 16 1024 := ovr_ag (by omega) (by omega)
  have s3 : dSum (sealO X) = psumN X := by
    have := rdN_ovr (B := X) (a := 12) (s := 4) (n := psumN X) (by omega)
    unfold dSum sealO
    rw [this]
    exact Nat.mod_eq_of_lt (by omega)
  have s4 : psumN (sealO X) = psumN X := psumN_ag (by omega) s1 (by rw [sl]; exact s2)
  generalize sealO X = Y at *
  have t1 : AgB Y H 0 12 := s1.trans (b1.mono (by omega) (by omega))
  refine ⟨sl, ?_, ?_, ?_, ?_, ?_, ?_, ?_, fun i hi => ?_, fun i hi => ?_, fun i hi1 hi2 => ?_⟩
  · rw [t1.byteN (by omega) (by omega), f1]
  · rw [t1.byteN (by omega) (by omega), f2]
  · have : dNum Y = dNum H := t1.rdN (by omega) (by omega)
    rw [this, f3]; omega
  · have : dN Y = dN H := t1.rdN (by omega) (by omega)
    rw [this, f4]
  · have : dSp Y = dSp H := t1.rdN (by omega) (by omega)
    rw [this, f5]
  · have : dLsn Y = dLsn H := t1.rdN (by omega) (by omega)
    rw [this, f6]; omega
  · rw [s3, s4]
  · rw [s2.ctrAt (by omega) (by omega), b3 i hi]
  · rw [s2.grpAt (by omega) (by omega), b4 i hi]
  · rw [s2 i (by omega) hi2, b2 i hi1 hi2, f7 i (by omega) hi2, page0_get i hi2]

theorem allZ_of {B : List UInt8} {k : Nat} (h : ∀ i, k ≤ i → i < B.length → B[i]? = some 0) : allZ (B.drop k) = true := by
  unfold allZ
  rw [Bool.not_eq_true', List.any_eq_false]
  intro x hx
  obtain ⟨i, hi, he⟩ := List.getElem_of_mem hx
  rw [List.length_drop] at hi
  have h1 := h (k + i) (by omega) (by omega)
  rw [List.getElem_drop] at he
  rw [List.getElem?_eq_getElem (by omega)] at h1
  have : x = 0 := by rw [← he]; exact Option.some.inj h1
  subst this
  decide
theorem allZ_get {B : List UInt8} {k : Nat} (h : allZ (B.drop k) = true) : ∀ i, k ≤ i → i < B.length → B[i]? = some 0 := by
  intro i h1 h2
  unfold allZ at h
  rw [Bool.not_eq_true', List.any_eq_false] at h
  have hm : B[i] ∈ B.drop k := by
    have e : (B.drop k)[i - k]? = some B[i] := by rw [List.getElem?_drop, show k + (i - k) = i by omega, List.getElem?_eq_getElem h2]
    exact List.mem_of_getElem? e
  have := h _ hm
  simp only [ne_eq, decide_not, Bool.not_eq_true', decide_eq_false_iff_not, Classical.not_not] at this
  rw [List.getElem?_eq_getElem h2]
  congr 1
  exact UInt8.toNat_inj.1 (by simpa using this)

/-- Bytes that say a right page are read as it. -/
theorem pgb_dec {B : List UInt8} {num lsn : Nat} {cs : List CL} {gs : List GL} (hB : PgB B num lsn cs gs) (h1 : cs.length = 0 ∨ gs.length = 0) (h3 : cs.length ≤ 31) (h4 : gs.length ≤ 84) (hne : cs.length + gs.length ≠ 0) (hl : 1 ≤ lsn ∧ lsn ≤ 2147483647) (hcont : contP cs gs = 0) :
    decCs B = cs ∧ decGs B = gs ∧ allZ B = false ∧ (∀ n : Int, 0 ≤ n ∧ n ≤ 63 → decF B n = if (num : Int) = n then 0 else 82) := by
  have hkind : (byteN B 1 = 2 ∧ cs.length = 0) ∨ (byteN B 1 ≠ 2 ∧ byteN B 1 = 1 ∧ gs.length = 0) := by
    rw [hB.b1]
    unfold kindN
    split
    · exact .inl ⟨rfl, by omega⟩
    · exact .inr ⟨by omega, rfl, by omega⟩
  have hC : decCs B = cs := by
    unfold decCs
    rcases hkind with ⟨hk, h0⟩ | ⟨hk, _, h0⟩
    · rw [csK_succ2 hk]
      exact (List.eq_nil_of_length_eq_zero h0).symm
    · unfold csK
      rw [if_neg hk, hB.n]
      apply List.ext_getElem
      · rw [List.length_map, List.length_range]; omega
      · intro i i1 i2
        simp only [List.getElem_map, List.getElem_range]
        exact hB.c i i2
  have hG : decGs B = gs := by
    unfold decGs
    rcases hkind with ⟨hk, h0⟩ | ⟨hk, _, h0⟩
    · unfold gsK
      rw [if_pos hk, hB.n]
      apply List.ext_getElem
      · rw [List.length_map, List.length_range]; omega
      · intro i i1 i2
        simp only [List.getElem_map, List.getElem_range]
        exact hB.g i i2
    · rw [gsK_succ2 hk]
      exact (List.eq_nil_of_length_eq_zero h0).symm
  have hz : allZ B = false := by
    cases h : allZ B
    · rfl
    · have := allZ_rd h 0 1
      rw [byteN_rd B 0 (by rw [hB.len]; omega), hB.b0] at this
      omega
  refine ⟨hC, hG, hz, fun n hn => ?_⟩
  have hlen := hB.len
  have hn' := hB.n
  have hwide : dN B * dWide B = 32 * cs.length + 12 * gs.length ∧ dN B ≤ dMost B := by
    unfold dWide dMost
    rcases hkind with ⟨hk, h0⟩ | ⟨hk, _, h0⟩
    · rw [if_pos hk, if_pos hk]; omega
    · rw [if_neg hk, if_neg hk]; omega
  unfold decF
  rw [if_neg (by omega), if_neg (by omega), if_neg (by rw [hz]; decide), if_neg (by rw [hB.b0]; omega), if_neg (by omega), if_neg (by rw [hB.sum]; omega), hB.hnum, hB.hlsn]
  by_cases he : (num : Int) = n
  · rw [if_neg (by omega), if_neg (by omega), hC, hG, hcont, if_neg (by omega), if_pos he, if_neg]
    rintro (h | h)
    · exact h hB.sp
    · rw [allZ_of (fun i i1 i2 => hB.z i (by omega) (by omega))] at h
      cases h
  · rw [if_pos he, if_neg he]
end Go.Proofs.YtnkdonpammdldaaDoor

/- Plain: bytes that are taken are what is written of the answer; a right page under any number; one bit turned. Conditions: none. -/
set_option linter.unusedVariables false
set_option linter.unusedSimpArgs false
namespace Go.Proofs.YtnkdonpammdldaaDoor
open Go Go.RowKit

theorem sl_some {w : World} {e : TypeId} {a : Option Addr} {l c : Nat} {xs : List Value} (h : Sl w e 1 a l c xs) (hl : 0 < l) : a = none → l = 0 := fun h0 => by
  obtain ⟨b, cur, ha, _⟩ := h.addr hl
  rw [h0] at ha
  cases ha

theorem leN_inj : ∀ {l k : List UInt8}, l.length = k.length → leN l = leN k → l = k
  | [], [], _, _ => rfl
  | [], _ :: _, h, _ => by simp at h
  | _ :: _, [], h, _ => by simp at h
  | x :: l, y :: k, h, he => by
    have hx := u8_lt x
    have hy := u8_lt y
    simp only [leN] at he
    have h1 : x.toNat = y.toNat := by omega
    have h2 : leN l = leN k := by omega
    rw [UInt8.toNat_inj.1 h1, leN_inj (by simpa using h) h2]
theorem rdN_ag {X Y : List UInt8} {a s : Nat} (hx : a + s ≤ X.length) (hy : a + s ≤ Y.length) (h : rdN X a s = rdN Y a s) : AgB X Y a (a + s) := by
  have e : (X.drop a).take s = (Y.drop a).take s := leN_inj (by simp; omega) h
  intro i h1 h2
  have := congrArg (fun l => l[i - a]?) e
  simp only [List.getElem?_take, List.getElem?_drop] at this
  rw [if_pos (by omega), if_pos (by omega), show a + (i - a) = i by omega] at this
  exact this
theorem AgB.join {X Y : List UInt8} {a b c : Nat} (h : AgB X Y a b) (h' : AgB X Y b c) : AgB X Y a c := fun i h1 h2 => by
  by_cases hi : i < b
  · exact h i h1 hi
  · exact h' i (by omega) h2
theorem ctr_ag {X Y : List UInt8} {i : Nat} (hx : 16 + 32 * i + 32 ≤ X.length) (hy : 16 + 32 * i + 32 ≤ Y.length) (h : ctrAt X i = ctrAt Y i) : AgB X Y (16 + 32 * i) (16 + 32 * i + 32) := by
  unfold ctrAt at h
  simp only [CL.mk.injEq] at h
  obtain ⟨h1, h2, h3, h4, h5⟩ := h
  generalize 16 + 32 * i = z at *
  have b : ∀ (B : List UInt8) (a s : Nat), s ≤ 8 → rdN B a s < 18446744073709551616 := fun B a s hs => Nat.lt_of_lt_of_le (rdN_lt B a s) (Nat.le_trans (Nat.pow_le_pow_right (by omega) hs) (by decide))
  have g1 := rdN_ag (by omega) (by omega) (i64_inj (b _ _ _ (by omega)) (b _ _ _ (by omega)) h1)
  have g2 := rdN_ag (by omega) (by omega) (i64_inj (b _ _ _ (by omega)) (b _ _ _ (by omega)) h2)
  have g3 := rdN_ag (by omega) (by omega) (i64_inj (b _ _ _ (by omega)) (b _ _ _ (by omega)) h3)
  have g4 := rdN_ag (by omega) (by omega) (i64_inj (b _ _ _ (by omega)) (b _ _ _ (by omega)) h4)
  have g5 := rdN_ag (by omega) (by omega) (i64_inj (b _ _ _ (by omega)) (b _ _ _ (by omega)) h5)
  exact (((g1.join g2).join g3).join g4).join g5
theorem grp_ag {X Y : List UInt8} {i : Nat} (hx : 16 + 12 * i + 12 ≤ X.length) (hy : 16 + 12 * i + 12 ≤ Y.length) (h : grpAt X i = grpAt Y i) : AgB X Y (16 + 12 * i) (16 + 12 * i + 12) := by
  unfold grpAt at h
  simp only [GL.mk.injEq] at h
  obtain ⟨h1, h2⟩ := h
  generalize 16 + 12 * i = z at *
  have b : ∀ (B : List UInt8) (a s : Nat), s ≤ 8 → rdN B a s < 18446744073709551616 := fun B a s hs => Nat.lt_of_lt_of_le (rdN_lt B a s) (Nat.le_trans (Nat.pow_le_pow_right (by omega) hs) (by decide))
  have g1 := rdN_ag (by omega) (by omega) (i64_inj (b _ _ _ (by omega)) (b _ _ _ (by omega)) h1)
  have g2 := rdN_ag (by omega) (by omega) (i64_inj (b _ _ _ (by omega)) (b _ _ _ (by omega)) h2)
  exact g1.join g2
theorem ctrs_ag {X Y : List UInt8} (k : Nat) (hx : 16 + 32 * k ≤ X.length) (hy : 16 + 32 * k ≤ Y.length) (h : ∀ i, i < k → ctrAt X i = ctrAt Y i) : AgB X Y 16 (16 + 32 * k) := by
  induction k with
  | zero => intro i h1 h2; omega
  | succ k ih =>
    have g := ctr_ag (i := k) (by omega) (by omega) (h k (by omega))
    have := (ih (by omega) (by omega) fun i hi => h i (by omega)).join g
    rwa [show 16 + 32 * k + 32 = 16 + 32 * (k + 1) by omega] at this
theorem grps_ag {X Y : List UInt8} (k : Nat) (hx : 16 + 12 * k ≤ X.length) (hy : 16 + 12 * k ≤ Y.length) (h : ∀ i, i < k → grpAt X i = grpAt Y i) : AgB X Y 16 (16 + 12 * k) := by
  induction k with
  | zero => intro i h1 h2; omega
  | succ k ih =>
    have g := grp_ag (i := k) (by omega) (by omega) (h k (by omega))
    have := (ih (by omega) (by omega) fun i hi => h i (by omega)).join g
    rwa [show 16 + 12 * k + 12 = 16 + 12 * (k + 1) by omega] at this

/-- Two rows of bytes that say one page are one. -/
theorem pgb_unique {X Y : List UInt8} {num lsn : Nat} {cs : List CL} {gs : List GL} (hX : PgB X num lsn cs gs) (hY : PgB Y num lsn cs gs) (h1 : cs.length = 0 ∨ gs.length = 0) (h3 : cs.length ≤ 31) (h4 : gs.length ≤ 84) : X = Y := by
  have lx := hX.len
  have ly := hY.len
  have a0 : AgB X Y 0 1 := rdN_ag (a := 0) (s := 1) (by omega) (by omega) (by rw [byteN_rd X 0 (by omega), byteN_rd Y 0 (by omega), hX.b0, hY.b0])
  have a1 : AgB X Y 1 2 := rdN_ag (a := 1) (s := 1) (by omega) (by omega) (by rw [byteN_rd X 1 (by omega), byteN_rd Y 1 (by omega), hX.b1, hY.b1])
  have a2 : AgB X Y 2 4 := rdN_ag (a := 2) (s := 2) (by omega) (by omega) (show dNum X = dNum Y by rw [hX.hnum, hY.hnum])
  have a4 : AgB X Y 4 6 := rdN_ag (a := 4) (s := 2) (by omega) (by omega) (show dN X = dN Y by rw [hX.n, hY.n])
  have a6 : AgB X Y 6 8 := rdN_ag (a := 6) (s := 2) (by omega) (by omega) (show dSp X = dSp Y by rw [hX.sp, hY.sp])
  have a8 : AgB X Y 8 12 := rdN_ag (a := 8) (s := 4) (by omega) (by omega) (show dLsn X = dLsn Y by rw [hX.hlsn, hY.hlsn])
  have h12 : AgB X Y 0 12 := ((((a0.join a1).join a2).join a4).join a6).join a8
  have hc := ctrs_ag (X := X) (Y := Y) cs.length (by omega) (by omega) fun i hi => by rw [hX.c i hi, hY.c i hi]
  have hg := grps_ag (X := X) (Y := Y) gs.length (by omega) (by omega) fun i hi => by rw [hX.g i hi, hY.g i hi]
  have hz : AgB X Y (16 + 32 * cs.length + 12 * gs.length) 1024 := fun i i1 i2 => by rw [hX.z i i1 i2, hY.z i i1 i2]
  have h16 : AgB X Y 16 1024 := by
    rcases h1 with h0 | h0
    · rw [h0] at hz
      exact hg.join (hz.mono (by omega) (by omega))
    · rw [h0] at hz
      exact hc.join (hz.mono (by omega) (by omega))
  have hps := psumN_ag (by omega) h12 (by rw [lx]; exact h16)
  have a12 : AgB X Y 12 16 := rdN_ag (a := 12) (s := 4) (by omega) (by omega) (show dSum X = dSum Y by rw [hX.sum, hY.sum, hps])
  have hall := (h12.join a12).join h16
  apply List.ext_getElem?
  intro i
  by_cases hi : i < 1024
  · exact hall i (by omega) hi
  · rw [List.getElem?_eq_none (by omega), List.getElem?_eq_none (by omega)]

theorem firstF_of : ∀ {l : List Nat}, (∀ e ∈ l, e = 0) → firstF l = 0
  | [], _ => rfl
  | x :: r, h => by
    unfold firstF
    rw [if_pos (h x (List.mem_cons_self ..))]
    exact firstF_of fun e he => h e (List.mem_cons_of_mem _ he)
theorem cont_of_right {num lsn : Int} {cs : List CL} {gs : List GL} (h : Right num lsn cs gs) : contP cs gs = 0 := by
  refine firstF_of fun e he => ?_
  rcases List.mem_append.1 he with he | he
  · obtain ⟨c, hc, rfl⟩ := List.mem_map.1 he; exact h.fc c hc
  · obtain ⟨c, hc, rfl⟩ := List.mem_map.1 he; exact h.fg c hc
theorem ref_of_right {num lsn : Int} {cs : List CL} {gs : List GL} (h : Right num lsn cs gs) : refP num lsn cs gs = 0 := by
  have h0 := cont_of_right h
  obtain ⟨h1, h2, h3, h4, h5, h6, h7, h8⟩ := h
  unfold refP
  rw [if_neg (by omega), if_neg (by omega), if_neg (by omega), if_neg (by omega), h0]

theorem csK_ok (B : List UInt8) (k : Nat) : ∀ x ∈ csK B k, x.Ok := by
  intro x hx
  unfold csK at hx
  split at hx
  · cases hx
  · obtain ⟨i, _, rfl⟩ := List.mem_map.1 hx
    exact ⟨i64_in _, i64_in _, i64_in _, i64_in _, i64_in _⟩
theorem gsK_ok (B : List UInt8) (k : Nat) : ∀ x ∈ gsK B k, x.Ok := by
  intro x hx
  unfold gsK at hx
  split at hx
  · obtain ⟨i, _, rfl⟩ := List.mem_map.1 hx
    exact ⟨i64_in _, i64_in _⟩
  · cases hx

theorem decF_parts {B : List UInt8} {num : Int} (h : decF B num = 0) (hz : allZ B = false) : (0 ≤ num ∧ num ≤ 63) ∧ B.length = 1024 ∧ byteN B 0 = 113 ∧ (byteN B 1 = 1 ∨ byteN B 1 = 2) ∧ dSum B = psumN B ∧ (dNum B : Int) = num ∧ (1 ≤ dN B ∧ dN B ≤ dMost B) ∧ (1 ≤ dLsn B ∧ dLsn B ≤ 2147483647) ∧ contP (decCs B) (decGs B) = 0 ∧ dSp B = 0 ∧ allZ (B.drop (16 + dN B * dWide B)) = true := by
  unfold decF at h
  split at h
  · cases h
  rename_i g1
  split at h
  · cases h
  rename_i g2
  rw [if_neg (by rw [hz]; decide)] at h
  split at h
  · cases h
  rename_i g3
  split at h
  · cases h
  rename_i g4
  split at h
  · cases h
  rename_i g5
  split at h
  · cases h
  rename_i g6
  split at h
  · cases h
  rename_i g7
  split at h
  · rename_i g8; exact absurd h g8
  rename_i g8
  split at h
  · cases h
  rename_i g9
  refine ⟨by omega, by omega, by omega, by omega, by omega, by omega, by omega, by omega, by omega, by omega, ?_⟩
  cases hh : allZ (B.drop (16 + dN B * dWide B))
  · exact absurd (.inr hh) g9
  · rfl

theorem dec_right {B : List UInt8} {num : Int} (h : decF B num = 0) (hz : allZ B = false) :
    PgB B num.toNat (dLsn B) (decCs B) (decGs B) ∧ Right num (dLsn B) (decCs B) (decGs B) ∧ (decCs B).length + (decGs B).length ≠ 0 := by
  obtain ⟨g1, g2, g3, g4, g5, g6, g7, g8, g9, g10, g11⟩ := decF_parts h hz
  obtain ⟨f1, f2⟩ := contP_zero g9
  have hcl : (decCs B).length = if byteN B 1 = 2 then 0 else dN B := csK_len B _
  have hgl : (decGs B).length = if byteN B 1 = 2 then dN B else 0 := gsK_len B _
  have hm := g7.2
  unfold dMost at hm
  unfold dWide at g11
  by_cases hk : byteN B 1 = 2
  · rw [if_pos hk] at hcl hgl hm g11
    refine ⟨⟨g2, g3, ?_, by omega, by omega, g10, rfl, g5, fun i hi => by omega, fun i hi => ?_, fun i i1 i2 => allZ_get g11 i (by omega) (by omega)⟩, ⟨g1, by omega, by omega, by omega, by omega, by omega, f1, f2⟩, by omega⟩
    · unfold kindN; rw [if_pos (by omega), hk]
    · simp only [decGs, gsK, if_pos hk, List.getElem_map, List.getElem_range]
  · rw [if_neg hk] at hcl hgl hm g11
    refine ⟨⟨g2, g3, ?_, by omega, by omega, g10, rfl, g5, fun i hi => ?_, fun i hi => by omega, fun i i1 i2 => allZ_get g11 i (by omega) (by omega)⟩, ⟨g1, by omega, by omega, by omega, by omega, by omega, f1, f2⟩, by omega⟩
    · unfold kindN; rw [if_neg (by omega)]; omega
    · simp only [decCs, csK, if_neg hk, List.getElem_map, List.getElem_range]

theorem allZ_page0 : allZ page0 = true := by
  have := allZ_of (B := page0) (k := 0) fun i _ h => page0_get i (by rw [page0_len] at h; exact h)
  rwa [List.drop_zero] at this
theorem page0_of {B : List UInt8} (h : allZ B = true) (hl : B.length = 1024) : B = page0 := by
  apply List.ext_getElem?
  intro i
  by_cases hi : i < 1024
  · rw [allZ_get (k := 0) (by rw [List.drop_zero]; exact h) i (by omega) (by omega), page0_get i hi]
  · rw [List.getElem?_eq_none (by omega), List.getElem?_eq_none (by rw [page0_len]; omega)]
theorem decF_zero {B : List UInt8} {num : Int} (hz : allZ B = true) (hl : B.length = 1024) : decF B num = if 0 ≤ num ∧ num ≤ 63 then 0 else 4 := by
  unfold decF
  by_cases hn : 0 ≤ num ∧ num ≤ 63
  · rw [if_neg (by omega), if_neg (by omega), if_pos hz, if_pos hn]
  · rw [if_pos hn, if_neg hn]
theorem decCs_zero {B : List UInt8} (hz : allZ B = true) : decCs B = [] ∧ decGs B = [] ∧ dLsn B = 0 := by
  have en : dN B = 0 := allZ_rd hz 4 2
  refine ⟨?_, ?_, allZ_rd hz 8 4⟩
  · unfold decCs; rw [en, csK_zero]
  · unfold decGs; rw [en, gsK_zero]

/-- Whatever bytes are taken are what is written of the answer. -/
theorem one_form {B : List UInt8} {num : Int} (h : decF B num = 0) : refP num (dLsn B) (decCs B) (decGs B) = 0 ∧ encO num (dLsn B) (decCs B) (decGs B) = B := by
  cases hz : allZ B
  · obtain ⟨h1, h2, h3⟩ := dec_right h hz
    refine ⟨ref_of_right h2, ?_⟩
    have h4 := enc_pgb h2 (csK_ok B _) (gsK_ok B _) h3
    have e : ((dLsn B : Int)).toNat = dLsn B := rfl
    rw [e] at h4
    exact pgb_unique h4 h1 h2.one h2.c h2.g
  · obtain ⟨c1, c2, c3⟩ := decCs_zero hz
    have hn : 0 ≤ num ∧ num ≤ 63 := by
      unfold decF at h
      split at h
      · cases h
      · omega
    have hl : B.length = 1024 := by
      unfold decF at h
      rw [if_neg (by omega)] at h
      split at h
      · cases h
      · omega
    rw [c1, c2, c3]
    have hR : Right num ((0 : Nat) : Int) [] [] := ⟨hn, .inl rfl, Nat.zero_le _, Nat.zero_le _, ⟨by omega, by omega⟩, ⟨fun _ => rfl, fun _ => rfl⟩, (fun c hc => by cases hc), (fun c hc => by cases hc)⟩
    refine ⟨ref_of_right hR, ?_⟩
    unfold encO
    rw [if_pos (show ([] : List CL).length + ([] : List GL).length = 0 from rfl)]
    exact (page0_of hz hl).symm

/-- A right page's bytes, under its number and under others. -/
theorem right_back {num lsn : Int} {cs : List CL} {gs : List GL} (hR : Right num lsn cs gs) (hc : ∀ x ∈ cs, x.Ok) (hg : ∀ x ∈ gs, x.Ok) :
    (encO num lsn cs gs).length = 1024 ∧ decCs (encO num lsn cs gs) = cs ∧ decGs (encO num lsn cs gs) = gs ∧ (dLsn (encO num lsn cs gs) : Int) = lsn ∧ decF (encO num lsn cs gs) num = 0 ∧
      (∀ n : Int, 0 ≤ n ∧ n ≤ 63 → n ≠ num → decF (encO num lsn cs gs) n = if cs.length + gs.length = 0 then 0 else 82) := by
  by_cases h0 : cs.length + gs.length = 0
  · have hcs : cs = [] := List.eq_nil_of_length_eq_zero (by omega)
    have hgs : gs = [] := List.eq_nil_of_length_eq_zero (by omega)
    have hl0 : lsn = 0 := hR.lz.2 h0
    have hn := hR.hnum
    have e : encO num lsn cs gs = page0 := by unfold encO; rw [if_pos h0]
    rw [e]
    obtain ⟨c1, c2, c3⟩ := decCs_zero allZ_page0
    refine ⟨page0_len, by rw [c1, hcs], by rw [c2, hgs], by rw [c3, hl0]; rfl, by rw [decF_zero allZ_page0 page0_len, if_pos hn], fun n h1 h2 => by rw [decF_zero allZ_page0 page0_len, if_pos h1, if_pos h0]⟩
  · have hB := enc_pgb hR hc hg h0
    have hl1 : 1 ≤ lsn := by have := hR.lz; have := hR.hlsn; omega
    have hl2 := hR.hlsn
    have hn := hR.hnum
    obtain ⟨d1, d2, d3, d4⟩ := pgb_dec hB hR.one hR.c hR.g h0 (by omega) (cont_of_right hR)
    refine ⟨hB.len, d1, d2, by rw [hB.hlsn]; omega, by rw [d4 num hn, if_pos (by omega)], fun n h1 h2 => by rw [d4 n h1, if_neg (by omega), if_neg h0]⟩

/-- One bit turned. -/
def turnB (B : List UInt8) (j : Nat) (x : UInt8) : List UInt8 := B.set j (B.getD j 0 ^^^ x)

theorem bitAt_mask {X Y : List UInt8} {j k p : Nat} (hk : k < 8) (hj : j < X.length) (hset : Y = X.set j (UInt8.ofNat ((X.getD j 0).toNat ^^^ 2 ^ k))) (hp : p < 8 * X.length) : bitAt Y p = Bool.xor (bitAt X p) (decide (p = 8 * j + k)) := by
  unfold bitAt
  subst hset
  have hx := u8_lt (X.getD j 0)
  have h2k : 2 ^ k < 256 := by
    have : 2 ^ k ≤ 2 ^ 7 := Nat.pow_le_pow_right (by omega) (by omega)
    omega
  by_cases he : p / 8 = j
  · have hg : (X.set j (UInt8.ofNat ((X.getD j 0).toNat ^^^ 2 ^ k))).getD (p / 8) 0 = UInt8.ofNat ((X.getD j 0).toNat ^^^ 2 ^ k) := by
      rw [he, List.getD_eq_getElem?_getD, List.getElem?_set_self (by omega)]
      rfl
    have hlt : (X.getD j 0).toNat ^^^ 2 ^ k < 256 := Nat.xor_lt_two_pow (n := 8) hx h2k
    rw [hg, he]
    have e : (UInt8.ofNat ((X.getD j 0).toNat ^^^ 2 ^ k)).toNat = (X.getD j 0).toNat ^^^ 2 ^ k := by
      rw [UInt8.toNat_ofNat']
      exact Nat.mod_eq_of_lt hlt
    rw [e, Nat.testBit_xor, Nat.testBit_two_pow]
    congr 1
    apply decide_eq_decide.2
    omega
  · have hg : (X.set j (UInt8.ofNat ((X.getD j 0).toNat ^^^ 2 ^ k))).getD (p / 8) 0 = X.getD (p / 8) 0 := by
      rw [List.getD_eq_getElem?_getD, List.getElem?_set_ne (by omega), List.getD_eq_getElem?_getD]
    rw [hg]
    have : decide (p = 8 * j + k) = false := decide_eq_false (by omega)
    rw [this, Bool.xor_false]

theorem sum_bit {X Y : List UInt8} {j k : Nat} (hk : k < 8) (hj : j < X.length) (h4 : 4 ≤ X.length) (hset : Y = X.set j (UInt8.ofNat ((X.getD j 0).toNat ^^^ 2 ^ k))) : sumN Y ≠ sumN X := by
  have hat : min (8 * j + k) (8 * X.length - 32) + 32 ≤ 8 * X.length := by omega
  refine sum_turned (at_ := min (8 * j + k) (8 * X.length - 32)) (m := 2 ^ (8 * j + k - min (8 * j + k) (8 * X.length - 32))) (by rw [hset, List.length_set]) hat (by have := Nat.two_pow_pos (8 * j + k - min (8 * j + k) (8 * X.length - 32)); omega) ?_ fun p hp => ?_
  · have : 2 ^ (8 * j + k - min (8 * j + k) (8 * X.length - 32)) ≤ 2 ^ 31 := Nat.pow_le_pow_right (by omega) (by omega)
    omega
  · rw [bitAt_mask hk hj hset hp, Nat.testBit_two_pow]
    congr 1
    by_cases he : p = 8 * j + k
    · have h1 : decide (p = 8 * j + k) = true := decide_eq_true he
      have h2 : decide (min (8 * j + k) (8 * X.length - 32) ≤ p ∧ p < min (8 * j + k) (8 * X.length - 32) + 32) = true := decide_eq_true (by omega)
      have h3 : decide (8 * j + k - min (8 * j + k) (8 * X.length - 32) = p - min (8 * j + k) (8 * X.length - 32)) = true := decide_eq_true (by omega)
      rw [h1, h2, h3]
      rfl
    · have h1 : decide (p = 8 * j + k) = false := decide_eq_false he
      rw [h1]
      by_cases h4 : min (8 * j + k) (8 * X.length - 32) ≤ p ∧ p < min (8 * j + k) (8 * X.length - 32) + 32
      · have h3 : decide (8 * j + k - min (8 * j + k) (8 * X.length - 32) = p - min (8 * j + k) (8 * X.length - 32)) = false := decide_eq_false (by omega)
        rw [h3, Bool.and_false]
      · have h2 : decide (min (8 * j + k) (8 * X.length - 32) ≤ p ∧ p < min (8 * j + k) (8 * X.length - 32) + 32) = false := decide_eq_false h4
        rw [h2, Bool.false_and]

theorem set_ag {B : List UInt8} {j c d : Nat} {x : UInt8} (h : j < c ∨ d ≤ j) : AgB (B.set j x) B c d := fun i h1 h2 => by rw [List.getElem?_set_ne (by omega)]

/-- A right page's bytes, one bit turned: nothing is read. -/
theorem bit_turned {num lsn : Int} {cs : List CL} {gs : List GL} {Y : List UInt8} {j k : Nat} {n : Int} (hR : Right num lsn cs gs) (hc : ∀ x ∈ cs, x.Ok) (hg : ∀ x ∈ gs, x.Ok) (hj : j < 1024) (hk : k < 8)
    (hset : Y = (encO num lsn cs gs).set j (UInt8.ofNat (((encO num lsn cs gs).getD j 0).toNat ^^^ 2 ^ k))) : decF Y n ≠ 0 := by
  intro hd
  obtain ⟨hl, _, _, _, hd0, _⟩ := right_back hR hc hg
  have hBz : ∀ B, B = encO num lsn cs gs → allZ B = false → PgB B num.toNat lsn.toNat cs gs := fun B he hz => by
    subst he
    by_cases h0 : cs.length + gs.length = 0
    · have e : encO num lsn cs gs = page0 := by unfold encO; rw [if_pos h0]
      rw [e, allZ_page0] at hz
      cases hz
    · exact enc_pgb hR hc hg h0
  generalize encO num lsn cs gs = B at *
  have hYl : Y.length = 1024 := by rw [hset, List.length_set, hl]
  have h2k : 2 ^ k < 256 := by
    have : 2 ^ k ≤ 2 ^ 7 := Nat.pow_le_pow_right (by omega) (by omega)
    omega
  have hx := u8_lt (B.getD j 0)
  have hYj : byteN Y j = byteN B j ^^^ 2 ^ k := by
    unfold byteN
    rw [hset, List.getD_eq_getElem?_getD, List.getElem?_set_self (by omega)]
    simp only [Option.getD_some, UInt8.toNat_ofNat']
    exact Nat.mod_eq_of_lt (Nat.xor_lt_two_pow (n := 8) hx h2k)
  have hne : byteN B j ^^^ 2 ^ k ≠ byteN B j := by
    intro h
    have h1 := congrArg (fun t => t ^^^ byteN B j) h
    simp only [Nat.xor_self] at h1
    rw [Nat.xor_comm (byteN B j), Nat.xor_assoc, Nat.xor_self, Nat.xor_zero] at h1
    have := Nat.two_pow_pos k
    omega
  cases hzB : allZ B
  · have hP := hBz B rfl hzB
    -- not all bytes are 00
    have hzY : allZ Y = false := by
      cases h : allZ Y
      · rfl
      · have b0 : byteN Y 0 = 0 := by rw [← byteN_rd Y 0 (by omega)]; exact allZ_rd h 0 1
        have b1 : byteN Y 1 = 0 := by rw [← byteN_rd Y 1 (by omega)]; exact allZ_rd h 1 1
        by_cases hj0 : j = 0
        · have e1 : byteN Y 1 = byteN B 1 := by rw [hset]; exact (set_ag (c := 1) (d := 2) (by omega)).byteN (by omega) (by omega)
          have e2 := hP.b1
          unfold kindN at e2
          split at e2 <;> omega
        · have e0 : byteN Y 0 = byteN B 0 := by rw [hset]; exact (set_ag (c := 0) (d := 1) (by omega)).byteN (by omega) (by omega)
          have := hP.b0
          omega
    obtain ⟨_, _, _, _, s1, _⟩ := decF_parts hd hzY
    have s2 := hP.sum
    by_cases h12 : 12 ≤ j ∧ j < 16
    · have hps : psumN Y = psumN B := psumN_ag (by omega) (by rw [hset]; exact set_ag (by omega)) (by rw [hset]; exact set_ag (by omega))
      have he : dSum Y = dSum B := by omega
      have ag : AgB Y B 12 16 := rdN_ag (a := 12) (s := 4) (by omega) (by omega) he
      have := ag.byteN (c := j) (by omega) (by omega)
      omega
    · have he : dSum Y = dSum B := by
        unfold dSum
        rw [hset]
        exact (set_ag (c := 12) (d := 16) (by omega)).rdN (by omega) (by omega)
      have hps : psumN Y = psumN B := by omega
      have hmB : (mskB B).length = 1024 := by rw [mskB_len (by omega), hl]
      have hgj : (mskB B).getD j 0 = B.getD j 0 := by
        have e := mskB_get (B := B) (by omega) (k := j) (by omega) (by omega)
        rw [if_neg h12] at e
        apply UInt8.toNat_inj.1
        rw [getD_get (by omega), e]
        rfl
      refine sum_bit (X := mskB B) (Y := mskB Y) (j := j) (k := k) hk (by omega) (by omega) ?_ hps
      rw [hgj, hset]
      unfold mskB
      by_cases hj12 : j < 12
      · rw [List.take_set, List.drop_set_of_lt (by omega), List.set_append_left _ _ (by simp; omega)]
      · have hj16 : 16 ≤ j := by omega
        rw [List.take_set, List.set_eq_of_length_le (by simp; omega), List.drop_set, if_neg (by omega), List.set_append_right _ _ (by simp; omega), List.set_append_right _ _ (by simp; omega)]
        congr 3
        simp
        omega
  · -- an empty page
    have hBj : byteN B j = 0 := by rw [← byteN_rd B j (by omega)]; exact allZ_rd hzB j 1
    have hzY : allZ Y = false := by
      cases h : allZ Y
      · rfl
      · have : byteN Y j = 0 := by rw [← byteN_rd Y j (by omega)]; exact allZ_rd h j 1
        omega
    obtain ⟨_, _, b0, b1, _⟩ := decF_parts hd hzY
    by_cases hj0 : j = 0
    · have e1 : byteN Y 1 = byteN B 1 := by rw [hset]; exact (set_ag (c := 1) (d := 2) (by omega)).byteN (by omega) (by omega)
      have : byteN B 1 = 0 := by rw [← byteN_rd B 1 (by omega)]; exact allZ_rd hzB 1 1
      omega
    · have e0 : byteN Y 0 = byteN B 0 := by rw [hset]; exact (set_ag (c := 0) (d := 1) (by omega)).byteN (by omega) (by omega)
      have : byteN B 0 = 0 := by rw [← byteN_rd B 0 (by omega)]; exact allZ_rd hzB 0 1
      omega
end Go.Proofs.YtnkdonpammdldaaDoor

/- The statements PageOneForm, PageBack and PageBits: their walks. Conditions: the tables stand. -/
set_option linter.unusedVariables false
set_option linter.unusedSimpArgs false
namespace Go.Proofs.YtnkdonpammdldaaDoor
open Go Go.RowKit

theorem pageOneForm_c {w : World} {a : Option Addr} {l c : Nat} {B : List UInt8} {num : Int} {R : Ending → World → Prop} (hnib : Nib w) (hz : Szs w) (hr : Rd w a (bvs B)) (hl : B.length = l) (hlc : l ≤ c) (h0 : a = none → l = 0)
    (h : ∀ w', Kp no w w' → R (.returned (.bool true)) w') : GoC Tryd.prog F_law07_PageOneForm #[.slice a l c, .int .i64 num] w R := by
  refine S_law07_PageOneForm ?_
  unfold W_law07_PageOneForm
  refine first_c hnib hz fun w1 k1 => ⟨_, rfl, cond_f rfl ?_⟩
  refine decode_c (hnib.kp0 k1) (hz.kp0 k1) (hr.kp0 k1) hl hlc (fun hne w2 k2 => ⟨_, _, _, _, _, _, _, _, _, rfl, ?_⟩) fun hd p w2 hn hs ho k2 f1 f2 hone => ⟨_, _, _, _, _, _, _, _, _, rfl, ?_⟩
  · refine AlF.intro fun b1 w3 hb1e hb1 k3 s3 => st4 hb1 rfl fun w7 hb7 k7 s7 => ?_
    have k27 : Kp no w2 w7 := kp_blk k3 (by omega) k7
    have hbp : Blk w7 b1 pg0.cs T_page_Page := hb7
    refine cond_t (by simpa using hne) ⟨_, pc0 hbp, cond_t rfl ⟨_, pc1 hbp, cond_t rfl ⟨_, _, _, pc2 hbp, cond_t rfl ⟨_, _, _, pc3 hbp, ?_⟩⟩⟩⟩
    exact h w7 ((k1.trans0 k2).trans0 k27)
  · refine AlF.intro fun b1 w3 hb1e hb1 k3 s3 => st4 hb1 rfl fun w7 hb7 k7 s7 => ?_
    have k27 : Kp no w2 w7 := kp_blk k3 (by omega) k7
    have hbp : Blk w7 b1 p.cs T_page_Page := hb7
    have k07 := (k1.trans0 k2).trans0 k27
    obtain ⟨g1, g2⟩ := one_form hd
    have hr0 : refP p.num p.lsn (decCs B) (decGs B) = 0 := by rw [hn, hs]; exact g1
    refine cond_f rfl ⟨_, _, _, _, _, _, _, _, ⟨pc0 hbp, pc1 hbp, pc2 hbp, pc3 hbp, trivial⟩, ?_⟩
    refine encode_c (p := p) (hnib.kp0 k07) (hz.kp0 k07) (ho.kp0 k27).to_in (fun hne => absurd hr0 hne) fun _ a8 w8 hs8 k8 f8 => ⟨_, _, _, _, rfl, cond_t rfl ?_⟩
    rw [encB_eq hr0, hn, hs, g2] at hs8
    have hl8 := hs8.len
    rw [bvs_len] at hl8
    refine convert_bytes (e := T_uint8) (by kernel_rfl) (by kernel_rfl) (by kernel_rfl) hs8.rd hl8 (sl_some hs8 (by omega)) fun z1 hz1 => ⟨z1, rfl, ?_⟩
    refine convert_bytes (e := T_uint8) (by kernel_rfl) (by kernel_rfl) (by kernel_rfl) (hr.kp0 (k07.trans0 k8)) hl h0 fun z2 hz2 => ⟨z2, rfl, cond_t (by rw [hz1, hz2]; simp) ⟨_, pc0 (k8.blk hbp id), ?_⟩⟩
    have e : (p.num == num) = true := by rw [hn]; simp
    rw [e]
    exact h w8 (k07.trans0 k8)

theorem pageOneForm_walk {W : World} (hnib : Nib W) (hz : Szs W) {v0 v1 : Value} (h0 : ArgW Tryd.prog W T_s_uint8 v0) (h1 : ArgW Tryd.prog W T_int v1) :
    GoC Tryd.prog F_law07_PageOneForm #[v0, v1] W fun e W' => e = .returned (.bool true) ∧ Kp no W W' := by
  obtain ⟨a1, l1, c1, rfl, k1⟩ := h0.arg.slice (e := T_uint8) (by kernel_rfl)
  obtain ⟨num, rfl, _⟩ := h1.arg.int (k := .i64) (by kernel_rfl)
  obtain ⟨hl1, _, hn1, B, hB, hr1⟩ := k1.bytes (e := T_uint8) (by kernel_rfl) (by kernel_rfl) (by kernel_rfl)
  exact pageOneForm_c hnib hz hr1 hB hl1 (fun h => (hn1 h).1) fun w' k => ⟨rfl, k⟩

theorem pageBack_c {w : World} {p0 : PgV} {cs0 : List CL} {gs0 : List GL} {other : Int} {R : Ending → World → Prop} (hnib : Nib w) (hz : Szs w) (hp : POk w p0 cs0 gs0)
    (h : ∀ w', Kp no w w' → R (.returned (.bool true)) w') : GoC Tryd.prog F_law07_PageBack #[.agg p0.cs, .int .i64 other] w R := by
  refine S_law07_PageBack ?_
  unfold W_law07_PageBack
  refine AlF.intro fun b1 w1 hb1e hb1 k1 s1 => ?_
  refine first_c (hnib.kp0 k1) (hz.kp0 k1) fun w2 k2 => ⟨_, rfl, cond_f rfl ?_⟩
  have k02 := k1.trans0 k2
  have hbp : Blk w2 b1 p0.cs T_quotalaw07_P := k2.blk (show Blk w1 b1 p0.cs T_quotalaw07_P from hb1) id
  refine ⟨_, _, _, _, _, _, _, _, ⟨pc0 hbp, pc1 hbp, pc2 hbp, pc3 hbp, trivial⟩, ?_⟩
  refine right_c (p := p0) (hp.i.kp0 k02) hp.c hp.g fun q cs gs w3 M => ⟨_, _, _, _, _, _, _, _, rfl, ?_⟩
  refine AlF.intro fun b2 w4 hb2e hb2 k4 s4 => st4 hb2 rfl fun w8 hb8 k8 s8 => ?_
  have hbq : Blk w8 b2 q.cs T_page_Page := hb8
  have k38 : Kp no w3 w8 := kp_blk k4 (by omega) k8
  have k08 := (k02.trans0 M.kp).trans0 k38
  have ho8 := M.own.kp0 k38
  obtain ⟨hBl, hBc, hBg, hBs, hBd, hBo⟩ := right_back M.right M.c M.g
  have hr0 := ref_of_right M.right
  refine ⟨_, _, _, _, _, _, _, _, ⟨pc0 hbq, pc1 hbq, pc2 hbq, pc3 hbq, trivial⟩, ?_⟩
  refine encode_c (p := q) (hnib.kp0 k08) (hz.kp0 k08) ho8.to_in (fun hne => absurd hr0 hne) fun _ a9 w9 hs9 k9 f9 => ⟨_, _, _, _, rfl, cond_f rfl (cond_f rfl ⟨_, pc0 (k9.blk hbq id), ?_⟩)⟩
  rw [encB_eq hr0] at hs9
  have hcl := ho8.cl
  have hgl := ho8.gl
  generalize encO q.num q.lsn cs gs = B at *
  have k09 := k08.trans0 k9
  refine decode_c (hnib.kp0 k09) (hz.kp0 k09) hs9.rd hBl (Nat.le_refl _) (fun hne => absurd hBd hne) fun _ x w10 hx1 hx2 hxo k10 _ _ _ => ⟨_, _, _, _, _, _, _, _, _, rfl, ?_⟩
  rw [hBc, hBg] at hxo
  have hxs : x.lsn = q.lsn := by rw [hx2, hBs]
  refine AlF.intro fun b3 w11 hb3e hb3 k11 s11 => st4 hb3 rfl fun w15 hb15 k15 s15 => ?_
  have hbx : Blk w15 b3 x.cs T_page_Page := hb15
  have k1015 : Kp no w10 w15 := kp_blk k11 (by omega) k15
  have k915 := k10.trans0 k1015
  have hbq15 := (k9.trans0 k915).blk hbq id
  have kd : Kp no w15 w15.drew := Kp.drew w15 1
  refine ⟨fun w' => Kp no w15 w', kd, cond_f rfl ?_⟩
  refine ⟨_, _, _, _, _, _, _, _, fun w' kz => ⟨pc0 (kz.blk hbx id), pc1 (kz.blk hbx id), pc2 (kz.blk hbx id), pc3 (kz.blk hbx id), trivial⟩, ?_⟩
  refine ⟨_, _, _, _, _, _, _, _, fun w' kz => ⟨pc0 (kz.blk hbq15 id), pc1 (kz.blk hbq15 id), pc2 (kz.blk hbq15 id), pc3 (kz.blk hbq15 id), trivial⟩, ?_⟩
  refine back_c (p := x) fun w16 k16 => ⟨_, _, _, _, _, _, _, _, rfl, kd.trans0 k16, ?_⟩
  refine back_c (p := q) fun w17 k17 => ⟨_, _, _, _, _, _, _, _, rfl, (kd.trans0 k16).trans0 k17, ?_⟩
  have k1517 := (kd.trans0 k16).trans0 k17
  refine same_c (p := x) (q := q) (hxo.kp0 (k1015.trans0 k1517)).to_in (ho8.kp0 ((k9.trans0 k915).trans0 k1517)).to_in fun w18 k18 => ⟨_, rfl, k1517.trans0 k18, cond_f ?_ ?_⟩
  · have e : sameP x cs gs q cs gs = true := decide_eq_true ⟨hx1, hxs, rfl, rfl⟩
    rw [e]
    rfl
  have k1518 := k1517.trans0 k18
  have hbx18 := k1518.blk hbx id
  refine ⟨_, _, _, _, _, _, _, _, ⟨pc0 hbx18, pc1 hbx18, pc2 hbx18, pc3 hbx18, trivial⟩, ?_⟩
  have k018 := (k09.trans0 k915).trans0 k1518
  have hrx : refP x.num x.lsn cs gs = 0 := by rw [hx1, hxs]; exact hr0
  have hform : encO x.num x.lsn cs gs = B := by
    obtain ⟨_, o2⟩ := one_form hBd
    rw [hBc, hBg, hBs] at o2
    rw [hx1, hxs]
    exact o2
  refine encode_c (p := x) (hnib.kp0 k018) (hz.kp0 k018) (hxo.kp0 (k1015.trans0 k1518)).to_in (fun hne => absurd hrx hne) fun _ a22 w19 hs19 k19 f19 => ⟨_, _, _, _, rfl, cond_f rfl ?_⟩
  rw [encB_eq hrx, hform] at hs19
  refine convert_bytes (e := T_uint8) (by kernel_rfl) (by kernel_rfl) (by kernel_rfl) hs19.rd hBl (sl_some hs19 (by omega)) fun z1 hz1 => ⟨z1, rfl, ?_⟩
  have k919 := (k915.trans0 k1518).trans0 k19
  have hs9' := hs9.kp0 k919
  refine convert_bytes (e := T_uint8) (by kernel_rfl) (by kernel_rfl) (by kernel_rfl) hs9'.rd hBl (sl_some hs9' (by omega)) fun z2 hz2 => ⟨z2, rfl, cond_f (by rw [hz1, hz2]; simp) ?_⟩
  have k019 := k018.trans0 k19
  have hbq19 := (k9.trans0 k919).blk hbq id
  refine cond_d (fun _ => h w19 k019) fun ho1 => cond_d (fun _ => h w19 k019) fun ho2 => ⟨_, pc0 hbq19, cond_eq (fun _ => h w19 k019) fun hne => ?_⟩
  have hdo := hBo other (by omega) hne
  refine decode_u (hnib.kp0 k019) (hz.kp0 k019) hs9'.rd hBl (Nat.le_refl _) fun y w22 D => ⟨_, _, _, _, _, _, _, _, _, rfl, ?_⟩
  refine AlF.intro fun b4 w23 hb4e hb4 k23 s23 => st4 hb4 rfl fun w27 hb27 k27 s27 => ?_
  have hby : Blk w27 b4 y.cs T_page_Page := hb27
  have k2227 : Kp no w22 w27 := kp_blk k23 (by omega) k27
  have k027 := (k019.trans0 D.kp).trans0 k2227
  have hbq27 := (D.kp.trans0 k2227).blk hbq19 id
  have hR := M.right
  have hcb := ho8.cb
  have hgb := ho8.gb
  have ew : IntKind.wrap .i64 ((q.cl : Int) + (q.gl : Int)) = ((cs.length + gs.length : Nat) : Int) := by rw [wrap_i64 (by omega) (by omega)]; omega
  refine ⟨_, _, _, pc2 hbq27, _, _, _, pc3 hbq27, ?_⟩
  rw [ew]
  have ycl := D.own.cl
  have ygl := D.own.gl
  have yn := D.hnum
  have yl := D.hlsn
  unfold csR at ycl
  unfold gsR at ygl
  unfold numR at yn
  unfold lsnR at yl
  refine cond_eq (fun hz0 => ?_) (fun hnz => ?_)
  · have h00 : cs.length + gs.length = 0 := by omega
    rw [if_pos h00] at hdo
    rw [if_pos hdo] at ycl ygl yn yl
    rw [hBc] at ycl
    rw [hBg] at ygl
    rw [hBs] at yl
    have hl0 : q.lsn = 0 := hR.lz.2 h00
    rw [hdo]
    have ecl : y.cl = 0 := by omega
    refine cond_t rfl ⟨_, pc0 hby, cond_t (by rw [yn]; simp) ⟨_, pc1 hby, cond_t (by rw [yl, hl0]; rfl) ⟨_, _, _, pc2 hby, cond_t (by rw [ecl]; rfl) ⟨_, _, _, pc3 hby, ?_⟩⟩⟩⟩
    have e : (((y.gl : Nat) : Int) == 0) = true := by
      have e0 : y.gl = 0 := by omega
      rw [e0]; rfl
    rw [e]
    exact h w27 k027
  · have h00 : cs.length + gs.length ≠ 0 := by omega
    rw [if_neg h00] at hdo
    rw [if_neg (by omega)] at ycl ygl yn yl
    rw [hdo]
    refine cond_t rfl ⟨_, pc0 hby, cond_t (by rw [yn]; rfl) ⟨_, _, _, pc2 hby, cond_t (by rw [← ycl]; rfl) ⟨_, _, _, pc3 hby, ?_⟩⟩⟩
    have e : (((y.gl : Nat) : Int) == 0) = true := by rw [← ygl]; rfl
    rw [e]
    exact h w27 k027

theorem pageBack_walk {W : World} (hnib : Nib W) (hz : Szs W) {v0 v1 : Value} (h0 : ArgW Tryd.prog W T_quotalaw07_P v0) (h1 : ArgW Tryd.prog W T_int v1) :
    GoC Tryd.prog F_law07_PageBack #[v0, v1] W fun e W' => e = .returned (.bool true) ∧ Kp no W W' := by
  obtain ⟨p, cs, gs, rfl, hp⟩ := p_open h0
  obtain ⟨num, rfl, _⟩ := h1.arg.int (k := .i64) (by kernel_rfl)
  exact pageBack_c hnib hz hp fun w' k => ⟨rfl, k⟩

theorem pageBits_c {w : World} {p0 : PgV} {cs0 : List CL} {gs0 : List GL} {bit num : Int} {R : Ending → World → Prop} (hnib : Nib w) (hz : Szs w) (hp : POk w p0 cs0 gs0)
    (h : ∀ w', Kp no w w' → R (.returned (.bool true)) w') : GoC Tryd.prog F_law07_PageBits #[.agg p0.cs, .int .i64 bit, .int .i64 num] w R := by
  refine S_law07_PageBits ?_
  unfold W_law07_PageBits
  refine AlF.intro fun b1 w1 hb1e hb1 k1 s1 => ?_
  refine first_c (hnib.kp0 k1) (hz.kp0 k1) fun w2 k2 => ⟨_, rfl, cond_f rfl ?_⟩
  have k02 := k1.trans0 k2
  have hbp : Blk w2 b1 p0.cs T_quotalaw07_P := k2.blk (show Blk w1 b1 p0.cs T_quotalaw07_P from hb1) id
  refine ⟨_, _, _, _, _, _, _, _, ⟨pc0 hbp, pc1 hbp, pc2 hbp, pc3 hbp, trivial⟩, ?_⟩
  refine right_c (p := p0) (hp.i.kp0 k02) hp.c hp.g fun q cs gs w3 M => ⟨_, _, _, _, _, _, _, _, rfl, ?_⟩
  refine AlF.intro fun b2 w4 hb2e hb2 k4 s4 => st4 hb2 rfl fun w8 hb8 k8 s8 => ?_
  have hbq : Blk w8 b2 q.cs T_page_Page := hb8
  have k38 : Kp no w3 w8 := kp_blk k4 (by omega) k8
  have k08 := (k02.trans0 M.kp).trans0 k38
  have ho8 := M.own.kp0 k38
  have hBl := (right_back M.right M.c M.g).1
  have hturn : ∀ {Y : List UInt8} {j k : Nat} {n : Int}, j < 1024 → k < 8 → Y = (encO q.num q.lsn cs gs).set j (UInt8.ofNat (((encO q.num q.lsn cs gs).getD j 0).toNat ^^^ 2 ^ k)) → decF Y n ≠ 0 := fun hj hk hs => bit_turned M.right M.c M.g hj hk hs
  have hr0 := ref_of_right M.right
  refine ⟨_, _, _, _, _, _, _, _, ⟨pc0 hbq, pc1 hbq, pc2 hbq, pc3 hbq, trivial⟩, ?_⟩
  refine encode_c (p := q) (hnib.kp0 k08) (hz.kp0 k08) ho8.to_in (fun hne => absurd hr0 hne) fun _ a9 w9 hs9 k9 f9 => ⟨_, _, _, _, rfl, cond_f rfl (cond_f rfl ?_)⟩
  rw [encB_eq hr0] at hs9
  generalize encO q.num q.lsn cs gs = B at *
  have k09 := k08.trans0 k9
  have hbq9 := k9.blk hbq id
  have e8 : IntKind.wrap .i64 (8 * ((1024 : Nat) : Int)) = 8192 := by decide
  rw [e8]
  have t1 := Int.tmod_lt_of_pos bit (show (0 : Int) < 8192 by omega)
  have t2 := Int.lt_tmod_of_pos bit (show (0 : Int) < 8192 by omega)
  generalize Int.tmod bit 8192 = t at *
  refine ⟨by omega, fun s w' => w' = w9 ∧ 0 ≤ s.1 ∧ s.1 < 8192, ?_, ?_⟩
  · refine cond_d (fun ht => ?_) (fun ht => ⟨rfl, by dsimp only; omega, by dsimp only; omega⟩)
    rw [wrap_i64 (by omega) (by omega)]
    exact ⟨rfl, by dsimp only; omega, by dsimp only; omega⟩
  rintro ⟨s, u⟩ w10 ⟨hw10, hs0, hs1⟩ _
  dsimp only at hs0 hs1 ⊢
  rw [hw10]
  obtain ⟨m, rfl⟩ := Int.eq_ofNat_of_zero_le hs0
  have hm : m < 8192 := by omega
  have ed : IntKind.wrap .i64 (Int.tdiv (m : Int) 8) = ((m / 8 : Nat) : Int) := by
    have : Int.tdiv (m : Int) 8 = ((m / 8 : Nat) : Int) := by
      rw [Int.tdiv_eq_ediv_of_nonneg (by omega)]; rfl
    rw [this, wrap_i64 (by omega) (by omega)]
  have em : Int.tmod (m : Int) 8 = ((m % 8 : Nat) : Int) := by
    rw [Int.tmod_eq_emod_of_nonneg (by omega)]; rfl
  rw [ed, em]
  have hm8 : m % 8 < 8 := Nat.mod_lt _ (by omega)
  have hj : m / 8 < 1024 := by omega
  have kd : Kp no w9 w9.drew := Kp.drew w9 1
  have hs9d := hs9.kp0 kd
  obtain ⟨b, cur, ha, hblk, _⟩ := hs9d.addr (by omega)
  refine ⟨fun w' => Kp no w9 w', kd, by decide, by decide, ?_⟩
  refine hs9.rd.idx (by omega) (by omega) (by rw [bvs_len]; omega) fun b' o' ha' hc' => ?_
  rw [ha] at ha'
  cases ha'
  refine ⟨(byteN B (m / 8) : Int), fun w' kz => ?_, by decide, by omega, ?_⟩
  · rw [Int.toNat_natCast, add_at]
    obtain ⟨b'', o'', e1, e2⟩ := (hs9.kp0 kz).rd (m / 8) (bv (B[m / 8])) (bvs_get (by omega))
    rw [ha] at e1
    cases e1
    rw [byteN_get (by omega)]
    exact e2
  refine ⟨by omega, by omega, _, ha, ?_⟩
  dsimp only
  rw [Int.toNat_natCast, add_at]
  have hx := byteN_lt B (m / 8)
  have h2k : 2 ^ (m % 8) ≤ 2 ^ 7 := Nat.pow_le_pow_right (by omega) (by omega)
  have hval : Value.int .u8 (xorV .u8 (byteN B (m / 8) : Int) (shlV .u8 1 ((m % 8 : Nat) : Int))) = bv (UInt8.ofNat (((B.getD (m / 8) 0)).toNat ^^^ 2 ^ (m % 8))) := by
    rw [show (1 : Int) = ((1 : Nat) : Int) from rfl, shlV_nat rfl (by simp only [IntKind.bits]; omega)]
    simp only [IntKind.bits, Nat.one_mul]
    rw [Nat.mod_eq_of_lt (by omega), xorV_nat rfl (by simp only [IntKind.bits]; omega) (by simp only [IntKind.bits]; omega)]
    exact bv_of (Nat.xor_lt_two_pow (n := 8) hx (by omega))
  rw [hval]
  refine hs9d.put (i := m / 8) (by omega) ha fun w11 hs11 k11 s11 => ?_
  have hs11' : Sl w11 T_uint8 1 a9 1024 1024 (bvs (B.set (m / 8) (UInt8.ofNat (((B.getD (m / 8) 0)).toNat ^^^ 2 ^ (m % 8))))) := by
    rw [bvs, List.map_set]; exact hs11
  have hY : ∀ n, decF (B.set (m / 8) (UInt8.ofNat (((B.getD (m / 8) 0)).toNat ^^^ 2 ^ (m % 8)))) n ≠ 0 := fun n => hturn hj hm8 rfl
  have hYl : (B.set (m / 8) (UInt8.ofNat (((B.getD (m / 8) 0)).toNat ^^^ 2 ^ (m % 8)))).length = 1024 := by rw [List.length_set, hBl]
  clear hval hs11
  generalize B.set (m / 8) (UInt8.ofNat (((B.getD (m / 8) 0)).toNat ^^^ 2 ^ (m % 8))) = Y at *
  have k911 : Kp (Is a9) w9 w11 := kd.of_no.trans0 k11
  have k011 : Kp no w w11 := k09.trans k911 (fun _ _ h => h) fun j hj hh => by have := f9 j hh; have := k08.size; omega
  have hbq11 : Blk w11 b2 q.cs T_page_Page := k911.blk hbq9 fun hh => by have := f9 _ hh; have := hbq.lt; omega
  refine ⟨_, pc0 hbq11, ?_⟩
  refine decode_u (hnib.kp0 k011) (hz.kp0 k011) hs11'.rd hYl (Nat.le_refl _) fun x w12 D => ⟨_, _, _, _, _, _, _, _, _, rfl, ?_⟩
  refine AlF.intro fun b3 w13 hb3e hb3 k13 s13 => st4 hb3 rfl fun w17 hb17 k17 s17 => ?_
  have k1217 : Kp no w12 w17 := kp_blk k13 (by omega) k17
  have k1117 := D.kp.trans0 k1217
  have k017 := k011.trans0 k1117
  refine decode_u (hnib.kp0 k017) (hz.kp0 k017) (hs11'.kp0 k1117).rd hYl (Nat.le_refl _) fun y w18 D' => ⟨_, _, _, _, _, _, _, _, _, rfl, ?_⟩
  refine AlF.intro fun b4 w19 hb4e hb4 k19 s19 => st4 hb4 rfl fun w23 hb23 k23 s23 => ?_
  have k1823 : Kp no w18 w23 := kp_blk k19 (by omega) k23
  have y1 := hY q.num
  have y2 := hY num
  refine cond_t (by simpa using y1) ?_
  have e : (((decF Y num : Nat) : Int) != 0) = true := by simpa using y2
  rw [e]
  exact h w23 ((k017.trans0 D'.kp).trans0 k1823)

theorem pageBits_walk {W : World} (hnib : Nib W) (hz : Szs W) {v0 v1 v2 : Value} (h0 : ArgW Tryd.prog W T_quotalaw07_P v0) (h1 : ArgW Tryd.prog W T_int v1) (h2 : ArgW Tryd.prog W T_int v2) :
    GoC Tryd.prog F_law07_PageBits #[v0, v1, v2] W fun e W' => e = .returned (.bool true) ∧ Kp no W W' := by
  obtain ⟨p, cs, gs, rfl, hp⟩ := p_open h0
  obtain ⟨bit, rfl, _⟩ := h1.arg.int (k := .i64) (by kernel_rfl)
  obtain ⟨num, rfl, _⟩ := h2.arg.int (k := .i64) (by kernel_rfl)
  exact pageBits_c hnib hz hp fun w' k => ⟨rfl, k⟩
end Go.Proofs.YtnkdonpammdldaaDoor
