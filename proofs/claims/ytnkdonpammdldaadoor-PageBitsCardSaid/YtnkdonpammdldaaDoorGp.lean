/- Contracts of the document's package: put, get, sum, zeros. Conditions: lengths below 2^46. -/
import Derived.Test.YtnkdonpammdldaaDoorGn
import Derived.Test.YtnkdonpammdldaaDoorSum
set_option linter.unusedVariables false
set_option linter.unusedSimpArgs false
namespace Go.Proofs.YtnkdonpammdldaaDoor
open Go Go.RowKit

/-- A number's lowest bytes over those that stood there. -/
@[irreducible] def ovr (B : List UInt8) (a s n : Nat) : List UInt8 := over B a (leB8 s n)
theorem ovr_len {B : List UInt8} {a s n : Nat} (h : a + s ≤ B.length) : (ovr B a s n).length = B.length := by unfold ovr; exact over_len (by rw [leB8_len]; exact h)

theorem put7_c {w : World} {a : Option Addr} {l c : Nat} {B : List UInt8} {at_ size : Int} {i s n : Nat} {nn : Int} {R : Ending → World → Prop} (hs : Sl w T_uint8 1 a l c (bvs B)) (hb : l < 70368744177664) (hi : at_ = (i : Int)) (hsz : size = (s : Int)) (hs8 : s ≤ 8) (hl : i + s ≤ l) (hn : n < 18446744073709551616) (hnn : nn = (n : Int))
    (h : ∀ w', Sl w' T_uint8 1 a l c (bvs (ovr B i s n)) → Kp (Is a) w w' → R (.returned (.tuple #[])) w') :
    GoC Tryd.prog F_ref07_put #[.slice a l c, .int .i64 at_, .int .i64 size, .int .u64 nn] w R := by
  subst hi hsz hnn
  have hBl : B.length = l := by have := hs.len; rwa [bvs_len] at this
  refine S_ref07_put ?_
  unfold W_ref07_put
  have hl8 := leB8_len s n
  refine loopN (fun st w1 => ∃ k : Nat, k ≤ s ∧ st.1 = (k : Int) ∧ Sl w1 T_uint8 1 a l c (bvs (over B i ((leB8 s n).take k))) ∧ Kp (Is a) w w1) (fun st _ => s - st.1.toNat)
    ⟨0, Nat.zero_le _, rfl, by simpa [over] using hs, Kp.refl _ _⟩ ?_
  rintro ⟨kk, u⟩ w1 ⟨k, hk, hkk, hs1, k1⟩ _
  dsimp only at hkk ⊢
  subst hkk
  have hw2 : IntKind.wrap .i64 (8 * (k : Int)) = ((8 * k : Nat) : Int) := by rw [wrap_i64 (by omega) (by omega)]; omega
  have hw4 : IntKind.wrap .u64 ((8 * k : Nat) : Int) = ((8 * k : Nat) : Int) := wrap_u64 (by omega) (by omega)
  rw [hw2, hw4]
  refine cond_d (fun hlt => ?_) (fun hge => ?_)
  · have hw1 : IntKind.wrap .i64 ((i : Int) + (k : Int)) = ((i + k : Nat) : Int) := by rw [wrap_i64 (by omega) (by omega)]; omega
    have hw3 : IntKind.wrap .i64 ((k : Int) + 1) = ((k + 1 : Nat) : Int) := by rw [wrap_i64 (by omega) (by omega)]; omega
    rw [hw1, hw3]
    have htl : ((leB8 s n).take k).length = k := by rw [List.length_take]; omega
    have hol : (over B i ((leB8 s n).take k)).length = B.length := over_len (by omega)
    obtain ⟨b, cur, ha, hblk, _⟩ := hs1.addr (by omega)
    refine ⟨by omega, by omega, by omega, _, ha, ?_⟩
    dsimp only
    rw [Int.toNat_natCast, add_at]
    have hval : (Value.int .u8 (IntKind.wrap .u8 (shrV .u64 (n : Int) ((8 * k : Nat) : Int)))) = bv (UInt8.ofNat (n / 256 ^ k % 256)) := by
      rw [shrV_nat (by simp only [IntKind.bits]; omega), u8_mod, pow256]
      exact bv_of (by omega)
    rw [hval]
    refine hs1.put (i := i + k) (by omega) ha fun w2 hs2 k2 _ => ⟨⟨k + 1, by omega, rfl, ?_, k1.trans0 k2⟩, by simp only [Int.toNat_natCast]; omega⟩
    have hk8 : (leB8 s n)[k]? = some (UInt8.ofNat (n / 256 ^ k % 256)) := leB8_get s n k (by omega)
    have htk : (leB8 s n).take (k + 1) = (leB8 s n).take k ++ [UInt8.ofNat (n / 256 ^ k % 256)] := by
      rw [List.take_add_one, hk8]; rfl
    rw [htk, ← over_set (by omega), htl, bvs, List.map_set]
    exact hs2
  · have hks : k = s := by omega
    subst hks
    rw [List.take_of_length_le (by omega)] at hs1
    exact h w1 (by unfold ovr; exact hs1) k1

theorem get7_c {w : World} {a : Option Addr} {l c : Nat} {B : List UInt8} {at_ size : Int} {i s : Nat} {R : Ending → World → Prop} (hr : Rd w a (bvs B)) (hB : B.length = l) (hb : l < 70368744177664) (hi : at_ = (i : Int)) (hsz : size = (s : Int)) (hs8 : s ≤ 8) (hl : i + s ≤ l)
    (h : R (.returned (.int .u64 (rdN B i s : Int))) w) : GoC Tryd.prog F_ref07_get #[.slice a l c, .int .i64 at_, .int .i64 size] w R := by
  subst hi hsz
  refine S_ref07_get ?_
  unfold W_ref07_get
  have e0 : IntKind.wrap .i64 ((s : Int) - 1) = (s : Int) - 1 := wrap_i64 (by omega) (by omega)
  rw [e0]
  refine loopN (fun st w1 => w1 = w ∧ ∃ k : Nat, k ≤ s ∧ st.2.1 = (k : Int) - 1 ∧ st.1 = (rdN B (i + k) (s - k) : Int)) (fun st _ => (st.2.1 + 1).toNat) ⟨rfl, s, Nat.le_refl _, rfl, by simp [rdN, leN]⟩ ?_
  rintro ⟨n, kk, u⟩ w1 ⟨hw, k, hk, hkk, hn⟩ _
  dsimp only at hkk hn ⊢
  subst hkk hn
  rw [hw]
  refine cond_d (fun hlt => ⟨by decide, ?_⟩) (fun hge => ?_)
  · obtain ⟨j, rfl⟩ : ∃ j, k = j + 1 := ⟨k - 1, by omega⟩
    have e1 : IntKind.wrap .i64 ((i : Int) + (((j + 1 : Nat) : Int) - 1)) = ((i + j : Nat) : Int) := by rw [wrap_i64 (by omega) (by omega)]; omega
    have e2 : IntKind.wrap .i64 ((((j + 1 : Nat) : Int) - 1) - 1) = (j : Int) - 1 := by rw [wrap_i64 (by omega) (by omega)]; omega
    rw [e1, e2]
    refine idxB hr hB (i := i + j) (by omega) rfl ⟨⟨rfl, j, by omega, rfl, ?_⟩, by omega⟩
    have hlt8 := rdN_lt B (i + (j + 1)) (s - (j + 1))
    have hx := byteN_lt B (i + j)
    have h256 : 256 ^ (s - (j + 1)) ≤ 256 ^ 7 := Nat.pow_le_pow_right (by omega) (by omega)
    have hrd : rdN B (i + j) (s - j) = byteN B (i + j) + 256 * rdN B (i + (j + 1)) (s - (j + 1)) := by
      have hij : i + j < B.length := by omega
      have e : s - j = (s - (j + 1)) + 1 := by omega
      unfold rdN
      rw [List.drop_eq_getElem_cons hij, e, List.take_succ_cons, leN, byteN_get hij]
      rfl
    have h64 : rdN B (i + (j + 1)) (s - (j + 1)) * 2 ^ 8 < 18446744073709551616 := by omega
    rw [show (8 : Int) = ((8 : Nat) : Int) from rfl, wrap_nat rfl (by simp only [IntKind.bits]; omega), shlV_nat rfl (by simp only [IntKind.bits]; omega)]
    simp only [IntKind.bits]
    have hm : rdN B (i + (j + 1)) (s - (j + 1)) * 2 ^ 8 % 2 ^ 64 = rdN B (i + (j + 1)) (s - (j + 1)) * 2 ^ 8 := Nat.mod_eq_of_lt (by omega)
    rw [hm, orV_nat rfl (by simp only [IntKind.bits]; omega) (by simp only [IntKind.bits]; omega), Nat.or_comm, or_shift (by omega), hrd]
    congr 1
    omega
  · have hk0 : k = 0 := by omega
    subst hk0
    exact h

theorem zeros7_c {w : World} {a : Option Addr} {l c : Nat} {B : List UInt8} {n : Int} {i : Nat} {R : Ending → World → Prop} (hr : Rd w a (bvs B)) (hB : B.length = l) (hb : l < 70368744177664) (hi : n = (i : Int)) (hil : i ≤ l)
    (h : R (.returned (.bool (allZ (B.drop i)))) w) : GoC Tryd.prog F_ref07_zeros #[.slice a l c, .int .i64 n] w R := by
  subst hi
  refine S_ref07_zeros ?_
  unfold W_ref07_zeros
  refine loopN (fun s w1 => w1 = w ∧ ∃ k : Nat, i ≤ k ∧ k ≤ l ∧ s.1 = (k : Int) ∧ allZ (B.drop i) = allZ (B.drop k)) (fun s _ => l - s.1.toNat) ⟨rfl, i, Nat.le_refl _, hil, rfl, rfl⟩ ?_
  rintro ⟨k0, u⟩ w1 ⟨hw1, k, hik, hk, hk0, hz⟩ _
  dsimp only at hk0 ⊢
  subst hk0
  rw [hw1]
  refine cond_d (fun hlt => ?_) (fun hge => ?_)
  · have hkl : k < B.length := by omega
    have hd : allZ (B.drop k) = (decide (byteN B k = 0) && allZ (B.drop (k + 1))) := by
      unfold allZ
      rw [List.drop_eq_getElem_cons hkl, List.any_cons, byteN_get hkl]
      by_cases h0 : (B[k]).toNat = 0 <;> simp [h0]
    refine idxB hr hB (i := k) (by omega) rfl (K := fun n8 => cond (n8 != 0) _ _) (cond_ne (fun h0 => ?_) (fun h0 => ?_))
    · have hf : decide (byteN B k = 0) = false := decide_eq_false (by omega)
      rw [hz, hd, hf] at h
      exact h
    · have hf : decide (byteN B k = 0) = true := decide_eq_true (by omega)
      have hwk : IntKind.wrap .i64 ((k : Int) + 1) = ((k + 1 : Nat) : Int) := by rw [wrap_i64 (by omega) (by omega)]; omega
      rw [hwk]
      exact ⟨⟨rfl, k + 1, by omega, by omega, rfl, by rw [hz, hd, hf, Bool.true_and]⟩, by simp only [Int.toNat_natCast]; omega⟩
  · have hke : k = B.length := by omega
    rw [hz, hke, List.drop_length] at h
    exact h

theorem stp_code {r : Nat} (h : r < 4294967296) {K : Int → Prop} (hK : K (stp r : Int)) : cond (andV .u32 (r : Int) 1 == 1) (K (xorV .u32 (shrV .u32 (r : Int) 1) 3988292384)) (K (shrV .u32 (r : Int) 1)) := by
  have e1 : andV .u32 (r : Int) 1 = ((r % 2 : Nat) : Int) := by
    rw [show (1 : Int) = ((1 : Nat) : Int) from rfl, andV_nat rfl (by simpa [IntKind.bits] using h) (by simp [IntKind.bits]), and_1]
  have e2 : shrV .u32 (r : Int) 1 = ((r / 2 : Nat) : Int) := by
    rw [show (1 : Int) = ((1 : Nat) : Int) from rfl, shrV_nat (by simp [IntKind.bits])]
  rw [e1, e2]
  unfold stp at hK
  refine cond_eq (fun ho => ?_) (fun ho => ?_)
  · rw [if_neg (by omega)] at hK
    rw [show (3988292384 : Int) = ((3988292384 : Nat) : Int) from rfl, xorV_nat rfl (by simp only [IntKind.bits]; omega) (by simp [IntKind.bits])]
    exact hK
  · rw [if_pos (by omega)] at hK
    exact hK
theorem rep_lt : ∀ (j r : Nat), r < 4294967296 → Nat.repeat stp j r < 4294967296
  | 0, r, h => h
  | j + 1, r, h => stp_lt (rep_lt j r h)

def mskB (B : List UInt8) : List UInt8 := B.take 12 ++ (List.replicate 4 0 ++ B.drop 16)
theorem mskB_len {B : List UInt8} (h : 16 ≤ B.length) : (mskB B).length = B.length := by simp [mskB]; omega
theorem mskB_get {B : List UInt8} (h : 16 ≤ B.length) {k : Nat} (hk : k < B.length) (hk' : k < (mskB B).length) : ((mskB B)[k]).toNat = if 12 ≤ k ∧ k < 16 then 0 else byteN B k := by
  have h1 : (mskB B)[k]? = some (mskB B)[k] := List.getElem?_eq_getElem hk'
  have h2 : (mskB B)[k]? = some (if 12 ≤ k ∧ k < 16 then 0 else B[k]) := by
    unfold mskB
    by_cases h12 : k < 12
    · rw [List.getElem?_append_left (by simp; omega), List.getElem?_take, if_pos h12, if_neg (by omega), List.getElem?_eq_getElem hk]
    · rw [List.getElem?_append_right (by simp; omega)]
      have e1 : (B.take 12).length = 12 := by simp; omega
      rw [e1]
      by_cases h16 : k < 16
      · rw [List.getElem?_append_left (by simp; omega), if_pos (by omega), List.getElem?_replicate, if_pos (by omega)]
      · rw [List.getElem?_append_right (by simp; omega), if_neg (by omega), List.getElem?_drop, List.length_replicate]
        have : 16 + (k - 12 - 4) = k := by omega
        rw [this, List.getElem?_eq_getElem hk]
  rw [h1] at h2
  have h3 := Option.some.inj h2
  rw [h3, byteN_get hk]
  split <;> rfl

theorem sum7_c {w : World} {a : Option Addr} {l c : Nat} {B : List UInt8} {R : Ending → World → Prop} (hr : Rd w a (bvs B)) (hB : B.length = l) (h16 : 16 ≤ l) (hb : l < 70368744177664)
    (h : R (.returned (.int .u32 (psumN B : Int))) w) : GoC Tryd.prog F_ref07_sum #[.slice a l c] w R := by
  refine S_ref07_sum ?_
  unfold W_ref07_sum
  have hM : (mskB B).length = l := by rw [mskB_len (by omega), hB]
  refine loopN (fun s w1 => w1 = w ∧ ∃ k r : Nat, k ≤ l ∧ s.2.1 = (k : Int) ∧ s.1 = (r : Int) ∧ r < 4294967296 ∧ ((mskB B).drop k).foldl bst r = (mskB B).foldl bst 4294967295) (fun s _ => l - s.2.1.toNat)
    ⟨rfl, 0, 4294967295, Nat.zero_le _, rfl, rfl, by omega, by simp⟩ ?_
  rintro ⟨rr, kk, u⟩ w1 ⟨hw1, k, r, hk, hkk, hrr, hr32, hf⟩ _
  dsimp only at hkk hrr ⊢
  subst hkk hrr
  rw [hw1]
  refine cond_d (fun hlt => ?_) (fun hge => ?_)
  · have hkl : k < B.length := by omega
    have hkM : k < (mskB B).length := by omega
    have hwk : IntKind.wrap .i64 ((k : Int) + 1) = ((k + 1 : Nat) : Int) := by rw [wrap_i64 (by omega) (by omega)]; omega
    rw [hwk]
    have hg := mskB_get (by omega) hkl hkM
    have hdj : (mskB B).drop k = (mskB B)[k] :: (mskB B).drop (k + 1) := List.drop_eq_getElem_cons hkM
    rw [hdj, List.foldl_cons] at hf
    have hbq : bst r (mskB B)[k] = Nat.repeat stp 8 (r ^^^ ((mskB B)[k]).toNat) := by
      unfold bst
      rw [nst_rep, nst_rep, rep_add]
    rw [hbq] at hf
    have hx := byteN_lt B k
    refine idxB hr hB (i := k) (by omega) rfl ?_
    have hb0 : IntKind.wrap .u32 (byteN B k : Int) = ((byteN B k : Nat) : Int) := by rw [wrap_nat rfl (by simp only [IntKind.bits]; omega)]
    have hb1 : IntKind.wrap .u32 (0 : Int) = ((0 : Nat) : Int) := by decide
    rw [hb0, hb1, xorV_nat rfl (by simpa [IntKind.bits] using hr32) (by simp only [IntKind.bits]; omega), xorV_nat rfl (by simpa [IntKind.bits] using hr32) (by simp only [IntKind.bits]; omega)]
    refine cond_d (fun h12 => cond_d (fun h15 => ?_) (fun h15 => ?_)) (fun h12 => ?_)
    · rw [if_pos (by omega)] at hg
      rw [hg] at hf
      have hz32 : r ^^^ 0 < 4294967296 := by rw [Nat.xor_zero]; exact hr32
      generalize r ^^^ 0 = z at *
      refine loopN (fun s w3 => w3 = w ∧ ∃ n : Nat, n ≤ 8 ∧ s.2.1 = (n : Int) ∧ s.1 = ((Nat.repeat stp n z : Nat) : Int)) (fun s _ => 8 - s.2.1.toNat) ⟨rfl, 0, by omega, rfl, rfl⟩ ?_
      rintro ⟨zz, nn, u⟩ w3 ⟨hw3, n, hn8, hnn, hzz⟩ _
      dsimp only at hnn hzz ⊢
      subst hnn hzz
      rw [hw3]
      have hlt32 := rep_lt n z hz32
      refine cond_d (fun hn => ⟨by decide, ?_⟩) (fun hn => ?_)
      · have hwn : IntKind.wrap .i64 ((n : Int) + 1) = ((n + 1 : Nat) : Int) := by rw [wrap_i64 (by omega) (by omega)]; omega
        rw [hwn]
        exact stp_code hlt32 (K := fun x => (w = w ∧ ∃ m : Nat, m ≤ 8 ∧ ((n + 1 : Nat) : Int) = (m : Int) ∧ x = ((Nat.repeat stp m z : Nat) : Int)) ∧ 8 - ((n + 1 : Nat) : Int).toNat < 8 - (n : Int).toNat) ⟨⟨rfl, n + 1, by omega, rfl, rfl⟩, by simp only [Int.toNat_natCast]; omega⟩
      · have hn8' : n = 8 := by omega
        subst hn8'
        exact ⟨⟨rfl, k + 1, _, by omega, rfl, rfl, hlt32, hf⟩, by simp only [Int.toNat_natCast]; omega⟩
    all_goals
      rw [if_neg (by omega)] at hg
      rw [hg] at hf
      have hz32 : r ^^^ byteN B k < 4294967296 := Nat.xor_lt_two_pow (n := 32) hr32 (by omega)
      generalize r ^^^ byteN B k = z at *
      refine loopN (fun s w3 => w3 = w ∧ ∃ n : Nat, n ≤ 8 ∧ s.2.1 = (n : Int) ∧ s.1 = ((Nat.repeat stp n z : Nat) : Int)) (fun s _ => 8 - s.2.1.toNat) ⟨rfl, 0, by omega, rfl, rfl⟩ ?_
      rintro ⟨zz, nn, u⟩ w3 ⟨hw3, n, hn8, hnn, hzz⟩ _
      dsimp only at hnn hzz ⊢
      subst hnn hzz
      rw [hw3]
      have hlt32 := rep_lt n z hz32
      refine cond_d (fun hn => ⟨by decide, ?_⟩) (fun hn => ?_)
      · have hwn : IntKind.wrap .i64 ((n : Int) + 1) = ((n + 1 : Nat) : Int) := by rw [wrap_i64 (by omega) (by omega)]; omega
        rw [hwn]
        exact stp_code hlt32 (K := fun x => (w = w ∧ ∃ m : Nat, m ≤ 8 ∧ ((n + 1 : Nat) : Int) = (m : Int) ∧ x = ((Nat.repeat stp m z : Nat) : Int)) ∧ 8 - ((n + 1 : Nat) : Int).toNat < 8 - (n : Int).toNat) ⟨⟨rfl, n + 1, by omega, rfl, rfl⟩, by simp only [Int.toNat_natCast]; omega⟩
      · have hn8' : n = 8 := by omega
        subst hn8'
        exact ⟨⟨rfl, k + 1, _, by omega, rfl, rfl, hlt32, hf⟩, by simp only [Int.toNat_natCast]; omega⟩
  · have hke : k = l := by omega
    subst hke
    have hr0 : r = (mskB B).foldl bst 4294967295 := by
      rw [← hf, List.drop_of_length_le (by omega)]
      rfl
    have hm : IntKind.max .u32 = ((4294967295 : Nat) : Int) := by decide
    rw [hm, xorV_nat rfl (by simp [IntKind.bits]) (by simpa [IntKind.bits] using hr32), Nat.xor_comm, hr0]
    exact h
end Go.Proofs.YtnkdonpammdldaaDoor
