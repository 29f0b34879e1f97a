/- Contracts of the document's package for layer 2: Put, Get. Conditions: lengths below 2^46. -/
import Derived.Test.YtaehmogilimmfaaTa
import Derived.Test.YtaehmogilimmfaaFe
set_option linter.unusedVariables false
set_option linter.unusedSimpArgs false
namespace Go.Proofs.Ytaehmogilimmfaa
open Go Go.RowKit

theorem refPlace_c {w : World} {len : Nat} {at_ size : Int} {R : Ending → World → Prop} (hl : (len : Int) ≤ 9223372036854775807)
    (h : R (.returned (.bool (decide (fits len at_ size)))) w) : GoC Try.prog F_ref02_place #[.int .i64 (len : Int), .int .i64 at_, .int .i64 size] w R := by
  refine S_ref02_place ?_
  unfold W_ref02_place
  have no_ : ¬ fits len at_ size → R (.returned (.bool false)) w := fun hn => by rwa [decide_eq_false hn] at h
  refine cond_d (fun h1 => cond_d (fun h2 => cond_d (fun h3 => cond_d (fun h4 => ?_) fun h4 => no_ ?_) fun h3 => no_ ?_) fun h2 => no_ ?_) fun h1 => no_ ?_
  · rw [wrap_i64 (by omega) (by omega)]
    have : decide (size ≤ (len : Int) - at_) = decide (fits len at_ size) := by
      congr 1
      unfold fits
      apply propext
      constructor
      · intro hh; omega
      · intro hh; omega
    rw [this]
    exact h
  all_goals unfold fits; omega

theorem leN_drop_le : ∀ (k : Nat) (l : List UInt8), leN (l.drop k) ≤ leN l
  | 0, l => Nat.le_refl _
  | k + 1, [] => by simp
  | k + 1, c :: r => by
    have := leN_drop_le k r
    rw [List.drop_succ_cons, leN]
    omega

theorem refGet_c {w : World} {a : Option Addr} {c l : Nat} {bs : List UInt8} {at_ size : Int} {R : Ending → World → Prop} (hr : Rd w a (bvs bs)) (hl : bs.length = l) (hb : bs.length < 70368744177664)
    (h : R (.returned (.tuple #[.int .u64 ((getR bs at_ size).1 : Int), .int .i64 ((getR bs at_ size).2 : Int)])) w) :
    GoC Try.prog F_ref02_Get #[.slice a l c, .int .i64 at_, .int .i64 size] w R := by
  subst hl
  refine S_ref02_Get ?_
  unfold W_ref02_Get
  refine refPlace_c (by omega) ⟨_, rfl, ?_⟩
  by_cases hf : fits bs.length at_ size
  · have hf' := hf
    obtain ⟨h1, h2, h3, h4⟩ := hf'
    rw [decide_eq_true hf]
    refine cond_f (t := !true) rfl ?_
    have hR : R (.returned (.tuple #[.int .u64 (leN ((bs.drop at_.toNat).take size.toNat) : Int), .int .i64 0])) w := by
      unfold getR at h
      rw [if_pos hf] at h
      exact h
    obtain ⟨i, rfl⟩ := Int.eq_ofNat_of_zero_le h3
    obtain ⟨s, rfl⟩ := Int.eq_ofNat_of_zero_le (show 0 ≤ size by omega)
    simp only [Int.toNat_natCast] at hR
    have hD : ((bs.drop i).take s).length = s := by rw [List.length_take, List.length_drop]; omega
    have hDlt : leN ((bs.drop i).take s) < 18446744073709551616 := by
      have := leN_lt ((bs.drop i).take s)
      rw [hD] at this
      exact Nat.lt_of_lt_of_le this (Nat.pow_le_pow_right (n := 256) (by omega) (show s ≤ 8 by omega))
    refine loopN (fun st w1 => w1 = w ∧ ∃ j : Nat, j ≤ s ∧ st.2.1 = (j : Int) - 1 ∧ st.1 = (leN (((bs.drop i).take s).drop j) : Int)) (fun st _ => (st.2.1 + 1).toNat)
      ⟨rfl, s, Nat.le_refl _, by dsimp only; rw [wrap_i64 (by omega) (by omega)], by dsimp only; rw [List.drop_eq_nil_of_le (by omega)]; rfl⟩ ?_
    rintro ⟨x0, j0, u⟩ w1 ⟨hw1, j, hj, hj0, hx0⟩ _
    dsimp only at hj0 hx0 ⊢
    subst hj0 hx0
    rw [hw1]
    refine cond_d (fun hge => ?_) (fun hlt => ?_)
    · obtain ⟨k, rfl⟩ : ∃ k, j = k + 1 := ⟨j - 1, by omega⟩
      have hik : i + k < bs.length := by omega
      have hij : (((k + 1 : Nat) : Int) - 1) = (k : Int) := by omega
      have hw : IntKind.wrap .i64 ((i : Int) + (k : Int)) = ((i + k : Nat) : Int) := by rw [wrap_i64 (by omega) (by omega)]; omega
      rw [hij, hw]
      refine hr.idx (by omega) (by omega) (by rw [bvs_len]; omega) fun b o hg hc => ?_
      refine ⟨((bs[i + k]).toNat : Int), by rw [Int.toNat_natCast, add_at]; exact hc _ _ (bvs_get hik), ?_⟩
      have hcell : ((bs.drop i).take s)[k]'(by omega) = bs[i + k] := by rw [List.getElem_take, List.getElem_drop]
      have hd : ((bs.drop i).take s).drop k = bs[i + k] :: ((bs.drop i).take s).drop (k + 1) := by rw [List.drop_eq_getElem_cons (by omega), hcell]
      have hg1 : leN (((bs.drop i).take s).drop k) = (bs[i + k]).toNat + 256 * leN (((bs.drop i).take s).drop (k + 1)) := by rw [hd, leN]
      have hg2 := leN_drop_le k ((bs.drop i).take s)
      have hx := u8_lt bs[i + k]
      refine ⟨⟨rfl, k, by omega, ?_, ?_⟩, ?_⟩
      · rw [wrap_i64 (by omega) (by omega)]
      · generalize leN (((bs.drop i).take s).drop (k + 1)) = y at *
        rw [hg1, wrap_u64 (x := (y : Int) * 256) (by omega) (by omega), wrap_u64 (x := ((bs[i + k]).toNat : Int)) (by omega) (by omega), wrap_u64 (by omega) (by omega)]
        omega
      · rw [wrap_i64 (by omega) (by omega)]
        omega
    · have hj0 : j = 0 := by omega
      subst hj0
      rw [List.drop_zero]
      exact hR
  · rw [decide_eq_false hf]
    refine cond_t (t := !false) rfl ?_
    unfold getR at h
    rw [if_neg hf] at h
    exact h

theorem refPut_c {w : World} {a : Option Addr} {c l : Nat} {bs : List UInt8} {at_ size : Int} {n : Nat} {R : Ending → World → Prop} (hs : Sl w T_uint8 1 a l c (bvs bs)) (hb : l < 70368744177664) (hn : n < 18446744073709551616)
    (h : ∀ w', Sl w' T_uint8 1 a l c (bvs (putR bs at_ size n).1) → Kp (Is a) w w' → R (.returned (.int .i64 ((putR bs at_ size n).2 : Int))) w') :
    GoC Try.prog F_ref02_Put #[.slice a l c, .int .i64 at_, .int .i64 size, .int .u64 (n : Int)] w R := by
  refine S_ref02_Put ?_
  unfold W_ref02_Put
  have hl : bs.length = l := by rw [← bvs_len]; exact hs.len
  refine refPlace_c (by omega) ⟨_, rfl, ?_⟩
  by_cases hf : fits l at_ size
  · have hf' := hf
    obtain ⟨h1, h2, h3, h4⟩ := hf'
    rw [decide_eq_true hf]
    refine cond_f (t := !true) rfl ?_
    obtain ⟨i, rfl⟩ := Int.eq_ofNat_of_zero_le h3
    obtain ⟨s, rfl⟩ := Int.eq_ofNat_of_zero_le (show 0 ≤ size by omega)
    have hw8 : IntKind.wrap .i64 (8 * (s : Int)) = ((8 * s : Nat) : Int) := by rw [wrap_i64 (by omega) (by omega)]; omega
    rw [hw8]
    have hfb : fits bs.length (i : Int) (s : Int) := by rw [hl]; exact hf
    obtain ⟨b, cur, ha, _⟩ := hs.addr (by omega)
    have loop : n < 256 ^ s → LoopF (S := Int × Int × Unit) ((n : Int), (0 : Int), ()) w fun s6 w2 Next6 => ∀ _J : Env, cond (decide (s6.2.1 < (s : Int))) (IdxF a (IntKind.wrap .i64 ((i : Int) + s6.2.1)) l fun d1 =>
        StF w2 (d1.add (Int.toNat (IntKind.wrap .i64 ((i : Int) + s6.2.1)))) (.int .u8 (IntKind.wrap .u8 s6.1)) fun w3 => NeZ (256 : Int) (Next6 ((IntKind.wrap .u64 (Int.tdiv s6.1 (256 : Int))), (IntKind.wrap .i64 (s6.2.1 + (1 : Int))), ()) w3)) (R (.returned (.int .i64 (0 : Int))) w2) := by
      intro hns
      have hput : putR bs (i : Int) (s : Int) n = (over bs i (leB8 s n), 0) := by
        unfold putR
        rw [if_pos hfb, Int.toNat_natCast, Int.toNat_natCast, if_pos hns]
      rw [hput] at h
      have hl8 := leB8_len s n
      refine loopN (fun st w1 => ∃ k : Nat, k ≤ s ∧ st = (((n / 256 ^ k : Nat) : Int), (k : Int), ()) ∧ Sl w1 T_uint8 1 a l c (bvs (over bs i ((leB8 s n).take k))) ∧ Kp (Is a) w w1) (fun st _ => s - st.2.1.toNat)
        ⟨0, Nat.zero_le _, by rw [Nat.pow_zero, Nat.div_one]; rfl, by simpa [over] using hs, Kp.refl _ _⟩ ?_
      rintro st w1 ⟨k, hk, rfl, hs1, k1⟩ _
      dsimp only
      refine cond_d (fun hlt => ?_) (fun hge => ?_)
      · have hw1 : IntKind.wrap .i64 ((i : Int) + (k : Int)) = ((i + k : Nat) : Int) := by rw [wrap_i64 (by omega) (by omega)]; omega
        have hw3 : IntKind.wrap .i64 ((k : Int) + 1) = ((k + 1 : Nat) : Int) := by rw [wrap_i64 (by omega) (by omega)]; omega
        rw [hw1, hw3]
        have htl : ((leB8 s n).take k).length = k := by rw [List.length_take]; omega
        refine ⟨by omega, by omega, _, ha, ?_⟩
        have hval : (Value.int .u8 (IntKind.wrap .u8 ((n / 256 ^ k : Nat) : Int))) = bv (UInt8.ofNat (n / 256 ^ k % 256)) := by
          rw [u8_mod]
          exact bv_of (by omega)
        rw [hval]
        dsimp only
        rw [Int.toNat_natCast, add_at]
        have hd : IntKind.wrap .u64 (Int.tdiv ((n / 256 ^ k : Nat) : Int) 256) = ((n / 256 ^ (k + 1) : Nat) : Int) := by
          have hle : n / 256 ^ k ≤ n := Nat.div_le_self _ _
          have hdd : n / 256 ^ (k + 1) = n / 256 ^ k / 256 := by rw [Nat.pow_succ, Nat.div_div_eq_div_mul]
          rw [hdd]
          generalize n / 256 ^ k = y at hle ⊢
          rw [Int.tdiv_eq_ediv_of_nonneg (by omega), wrap_u64 (by omega) (by omega)]
          omega
        rw [hd]
        refine hs1.put (by omega) ha fun w2 hs2 k2 _ => ⟨by decide, ⟨k + 1, by omega, rfl, ?_, k1.trans0 k2⟩, by simp only [Int.toNat_natCast]; omega⟩
        have hk8 : (leB8 s n)[k]? = some (UInt8.ofNat (n / 256 ^ k % 256)) := leB8_get s n k (by omega)
        have htk : (leB8 s n).take (k + 1) = (leB8 s n).take k ++ [UInt8.ofNat (n / 256 ^ k % 256)] := by
          rw [List.take_add_one, hk8]; rfl
        rw [htk, ← over_set (by omega), htl, bvs, List.map_set]
        exact hs2
      · have hks : k = s := by omega
        subst hks
        rw [List.take_of_length_le (by omega)] at hs1
        exact h w1 hs1 k1
    refine cond_d (fun hs8 => ⟨by omega, ?_⟩) (fun hs8 => loop ?_)
    · have hsh : shlV .u64 1 ((8 * s : Nat) : Int) = ((256 ^ s : Nat) : Int) := by
        rw [show (1 : Int) = ((1 : Nat) : Int) from rfl, shlV_nat rfl (by simp only [IntKind.bits]; omega), pow256, Nat.one_mul]
        simp only [IntKind.bits]
        rw [Nat.mod_eq_of_lt (Nat.pow_lt_pow_right (by omega) (by omega))]
      rw [hsh]
      refine cond_d (fun hge => ?_) (fun hlt => loop (by omega))
      have hput : putR bs (i : Int) (s : Int) n = (bs, 23) := by
        unfold putR
        rw [if_pos hfb, Int.toNat_natCast, Int.toNat_natCast, if_neg (by omega)]
      rw [hput] at h
      exact h w hs (Kp.refl _ _)
    · have : s = 8 := by omega
      subst this
      exact Nat.lt_of_lt_of_le hn (by decide)
  · rw [decide_eq_false hf]
    refine cond_t (t := !false) rfl ?_
    have hput : putR bs at_ size n = (bs, 4) := by unfold putR; rw [if_neg (by rw [hl]; exact hf)]
    rw [hput] at h
    exact h w hs (Kp.refl _ _)
end Go.Proofs.Ytaehmogilimmfaa
