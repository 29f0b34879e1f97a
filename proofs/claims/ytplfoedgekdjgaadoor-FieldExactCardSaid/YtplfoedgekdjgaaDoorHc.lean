/- Contracts of the document's package for layer 2: Sum, Put, Get. Conditions: lengths below 2^46. -/
import Derived.Test.YtplfoedgekdjgaaDoorHb
import Derived.Test.YtplfoedgekdjgaaDoorSum
set_option linter.unusedVariables false
set_option linter.unusedSimpArgs false
namespace Go.Proofs.YtplfoedgekdjgaaDoor
open Go Go.RowKit

theorem stp_code {r : Nat} (h : r < 4294967296) {K : Int → Prop} (hK : K (stp r : Int)) : cond (andV .u32 (r : Int) 1 == 1) (K (xorV .u32 (shrV .u32 (r : Int) 1) 3988292384)) (K (shrV .u32 (r : Int) 1)) := by
  have e1 : andV .u32 (r : Int) 1 = ((r % 2 : Nat) : Int) := by
    rw [show (1 : Int) = ((1 : Nat) : Int) from rfl, andV_nat rfl (by simpa [IntKind.bits] using h) (by simp [IntKind.bits]), and_1]
  have e2 : shrV .u32 (r : Int) 1 = ((r / 2 : Nat) : Int) := by
    rw [show (1 : Int) = ((1 : Nat) : Int) from rfl, shrV_nat (by simp [IntKind.bits])]
  rw [e1, e2]
  unfold stp at hK
  refine cond_eq (fun ho => ?_) (fun ho => ?_)
  · rw [if_neg (by omega)] at hK
    rw [show (3988292384 : Int) = ((3988292384 : Nat) : Int) from rfl, xorV_nat rfl (by simp only [IntKind.bits]; omega) (by simp [IntKind.bits])]
    exact hK
  · rw [if_pos (by omega)] at hK
    exact hK

theorem rep_lt : ∀ (j r : Nat), r < 4294967296 → Nat.repeat stp j r < 4294967296
  | 0, r, h => h
  | j + 1, r, h => stp_lt (rep_lt j r h)

theorem refSum_c {w : World} {a : Option Addr} {c : Nat} {l : List Part} {R : Ending → World → Prop} (hr : Rd w a (l.map Part.val)) (hp : Parts w l) (hl : l.length < 70368744177664)
    (h : R (.returned (.int .u32 (sumN (flat l) : Int))) w) : GoC Tryd.prog F_ref02_Sum #[.slice a l.length c] w R := by
  refine S_ref02_Sum ?_
  unfold W_ref02_Sum
  refine loopN (fun s w1 => w1 = w ∧ ∃ k r : Nat, k ≤ l.length ∧ s.2.1 = (k : Int) ∧ s.1 = (r : Int) ∧ r < 4294967296 ∧ (flat (l.drop k)).foldl bst r = (flat l).foldl bst 4294967295) (fun s _ => l.length - s.2.1.toNat)
    ⟨rfl, 0, 4294967295, Nat.zero_le _, rfl, rfl, by omega, by simp⟩ ?_
  rintro ⟨rr, kk, u⟩ w1 ⟨hw1, k, r, hk, hkk, hrr, hr32, hf⟩ _
  dsimp only at hkk hrr ⊢
  subst hkk hrr
  rw [hw1]
  have hwk : k < l.length → IntKind.wrap .i64 ((k : Int) + 1) = ((k + 1 : Nat) : Int) := fun _ => by rw [wrap_i64 (by omega) (by omega)]; omega
  refine cond_d (fun hlt => ?_) (fun hge => ?_)
  · have hkl : k < l.length := by omega
    rw [hwk hkl]
    obtain ⟨hrd, hbe, hbl⟩ := hp l[k] (List.getElem_mem hkl)
    have hdrop : l.drop k = l[k] :: l.drop (k + 1) := List.drop_eq_getElem_cons hkl
    have hflat : flat (l.drop k) = l[k].bs ++ flat (l.drop (k + 1)) := by rw [hdrop]; unfold flat; rw [List.map_cons, List.flatten_cons]
    rw [hflat, List.foldl_append] at hf
    have here : ∀ {K : Addr → Prop}, (∀ b o, a = some ⟨b, o, none⟩ → w.cell? ⟨b, o + k, none⟩ = some (.slice l[k].a l[k].l l[k].c) → K ⟨b, o, none⟩) → IdxF a (k : Int) l.length K :=
      fun hK => hr.idx (by omega) hlt (by simp) fun b o hg hc => hK b o hg (hc k _ (by simp [hkl, Part.val]))
    refine loopN (fun s w2 => w2 = w ∧ ∃ j q : Nat, j ≤ l[k].l ∧ s.2.1 = (j : Int) ∧ s.1 = (q : Int) ∧ q < 4294967296 ∧ (l[k].bs.drop j).foldl bst q = l[k].bs.foldl bst r) (fun s _ => l[k].l - s.2.1.toNat)
      ⟨rfl, 0, r, Nat.zero_le _, rfl, rfl, hr32, by simp⟩ ?_
    rintro ⟨qq, jj, u⟩ w2 ⟨hw2, j, q, hj, hjj, hqq, hq32, hfj⟩ _
    dsimp only at hjj hqq ⊢
    subst hjj hqq
    rw [hw2]
    have hwj : j < l[k].l → IntKind.wrap .i64 ((j : Int) + 1) = ((j + 1 : Nat) : Int) := fun _ => by rw [wrap_i64 (by omega) (by omega)]; omega
    refine here fun b o hg hc => ⟨l[k].a, l[k].l, l[k].c, by rw [Int.toNat_natCast, add_at]; exact hc, ?_⟩
    refine cond_d (fun hlt2 => ?_) (fun hge2 => ?_)
    · have hjl : j < l[k].bs.length := by omega
      rw [hwj (by omega)]
      refine here fun b o hg hc => ⟨l[k].a, l[k].l, l[k].c, by rw [Int.toNat_natCast, add_at]; exact hc, ?_⟩
      refine hrd.idx (by omega) hlt2 (by rw [bvs_len]; omega) fun b2 o2 hg2 hc2 => ?_
      refine ⟨((l[k].bs[j]).toNat : Int), by rw [Int.toNat_natCast, add_at]; exact hc2 j _ (bvs_get hjl), ?_⟩
      have hx := u8_lt l[k].bs[j]
      rw [wrap_nat rfl (by simp only [IntKind.bits]; omega), xorV_nat rfl (by simpa [IntKind.bits] using hq32) (by simp only [IntKind.bits]; omega)]
      have hz32 : q ^^^ (l[k].bs[j]).toNat < 4294967296 := Nat.xor_lt_two_pow (n := 32) hq32 (by omega)
      have hdj : l[k].bs.drop j = l[k].bs[j] :: l[k].bs.drop (j + 1) := List.drop_eq_getElem_cons hjl
      rw [hdj, List.foldl_cons] at hfj
      have hb : bst q l[k].bs[j] = Nat.repeat stp 8 (q ^^^ (l[k].bs[j]).toNat) := by
        unfold bst
        rw [nst_rep, nst_rep, rep_add]
      rw [hb] at hfj
      generalize q ^^^ (l[k].bs[j]).toNat = z at *
      refine loopN (fun s w3 => w3 = w ∧ ∃ n : Nat, n ≤ 8 ∧ s.2.1 = (n : Int) ∧ s.1 = ((Nat.repeat stp n z : Nat) : Int)) (fun s _ => 8 - s.2.1.toNat) ⟨rfl, 0, by omega, rfl, rfl⟩ ?_
      rintro ⟨zz, nn, u⟩ w3 ⟨hw3, n, hn8, hnn, hzz⟩ _
      dsimp only at hnn hzz ⊢
      subst hnn hzz
      rw [hw3]
      have hlt32 := rep_lt n z hz32
      refine cond_d (fun hn => ⟨by decide, ?_⟩) (fun hn => ?_)
      · have hwn : IntKind.wrap .i64 ((n : Int) + 1) = ((n + 1 : Nat) : Int) := by rw [wrap_i64 (by omega) (by omega)]; omega
        rw [hwn]
        exact stp_code hlt32 (K := fun x => (w = w ∧ ∃ m : Nat, m ≤ 8 ∧ ((n + 1 : Nat) : Int) = (m : Int) ∧ x = ((Nat.repeat stp m z : Nat) : Int)) ∧ 8 - ((n + 1 : Nat) : Int).toNat < 8 - (n : Int).toNat) ⟨⟨rfl, n + 1, by omega, rfl, rfl⟩, by simp only [Int.toNat_natCast]; omega⟩
      · have hn8' : n = 8 := by omega
        subst hn8'
        exact ⟨⟨rfl, j + 1, _, by omega, rfl, rfl, hlt32, hfj⟩, by simp only [Int.toNat_natCast]; omega⟩
    · have hje : j = l[k].bs.length := by omega
      rw [hje, List.drop_length] at hfj
      refine ⟨⟨rfl, k + 1, q, by omega, rfl, rfl, hq32, ?_⟩, by simp only [Int.toNat_natCast]; omega⟩
      rw [← hf, ← hfj]
      rfl
  · have hke : k = l.length := by omega
    subst hke
    have hr0 : r = (flat l).foldl bst 4294967295 := by rw [← hf]; simp [flat]
    have hm : IntKind.max .u32 = ((4294967295 : Nat) : Int) := by decide
    rw [hm, xorV_nat rfl (by simp [IntKind.bits]) (by simpa [IntKind.bits] using hr32), Nat.xor_comm, hr0]
    exact h

theorem refPlace_c {w : World} {len : Nat} {at_ size : Int} {R : Ending → World → Prop} (hl : (len : Int) ≤ 9223372036854775807)
    (h : R (.returned (.bool (decide (fits len at_ size)))) w) : GoC Tryd.prog F_ref02_place #[.int .i64 (len : Int), .int .i64 at_, .int .i64 size] w R := by
  refine S_ref02_place ?_
  unfold W_ref02_place
  have no_ : ¬ fits len at_ size → R (.returned (.bool false)) w := fun hn => by rwa [decide_eq_false hn] at h
  refine cond_d (fun h1 => cond_d (fun h2 => cond_d (fun h3 => cond_d (fun h4 => ?_) fun h4 => no_ ?_) fun h3 => no_ ?_) fun h2 => no_ ?_) fun h1 => no_ ?_
  · rw [wrap_i64 (by omega) (by omega)]
    have : decide (size ≤ (len : Int) - at_) = decide (fits len at_ size) := by
      congr 1
      unfold fits
      apply propext
      constructor
      · intro hh; omega
      · intro hh; omega
    rw [this]
    exact h
  all_goals unfold fits; omega

theorem leN_drop_le : ∀ (k : Nat) (l : List UInt8), leN (l.drop k) ≤ leN l
  | 0, l => Nat.le_refl _
  | k + 1, [] => by simp
  | k + 1, c :: r => by
    have := leN_drop_le k r
    rw [List.drop_succ_cons, leN]
    omega

theorem refGet_c {w : World} {a : Option Addr} {c l : Nat} {bs : List UInt8} {at_ size : Int} {R : Ending → World → Prop} (hr : Rd w a (bvs bs)) (hl : bs.length = l) (hb : bs.length < 70368744177664)
    (h : R (.returned (.tuple #[.int .u64 ((getR bs at_ size).1 : Int), .int .i64 ((getR bs at_ size).2 : Int)])) w) :
    GoC Tryd.prog F_ref02_Get #[.slice a l c, .int .i64 at_, .int .i64 size] w R := by
  subst hl
  refine S_ref02_Get ?_
  unfold W_ref02_Get
  refine refPlace_c (by omega) ⟨_, rfl, ?_⟩
  by_cases hf : fits bs.length at_ size
  · have hf' := hf
    obtain ⟨h1, h2, h3, h4⟩ := hf'
    rw [decide_eq_true hf]
    refine cond_f (t := !true) rfl ?_
    have hR : R (.returned (.tuple #[.int .u64 (leN ((bs.drop at_.toNat).take size.toNat) : Int), .int .i64 0])) w := by
      unfold getR at h
      rw [if_pos hf] at h
      exact h
    obtain ⟨i, rfl⟩ := Int.eq_ofNat_of_zero_le h3
    obtain ⟨s, rfl⟩ := Int.eq_ofNat_of_zero_le (show 0 ≤ size by omega)
    simp only [Int.toNat_natCast] at hR
    have hD : ((bs.drop i).take s).length = s := by rw [List.length_take, List.length_drop]; omega
    have hDlt : leN ((bs.drop i).take s) < 18446744073709551616 := by
      have := leN_lt ((bs.drop i).take s)
      rw [hD] at this
      exact Nat.lt_of_lt_of_le this (Nat.pow_le_pow_right (n := 256) (by omega) (show s ≤ 8 by omega))
    refine loopN (fun st w1 => w1 = w ∧ ∃ j : Nat, j ≤ s ∧ st.2.1 = (j : Int) - 1 ∧ st.1 = (leN (((bs.drop i).take s).drop j) : Int)) (fun st _ => (st.2.1 + 1).toNat)
      ⟨rfl, s, Nat.le_refl _, by dsimp only; rw [wrap_i64 (by omega) (by omega)], by dsimp only; rw [List.drop_eq_nil_of_le (by omega)]; rfl⟩ ?_
    rintro ⟨x0, j0, u⟩ w1 ⟨hw1, j, hj, hj0, hx0⟩ _
    dsimp only at hj0 hx0 ⊢
    subst hj0 hx0
    rw [hw1]
    refine cond_d (fun hge => ?_) (fun hlt => ?_)
    · obtain ⟨k, rfl⟩ : ∃ k, j = k + 1 := ⟨j - 1, by omega⟩
      have hik : i + k < bs.length := by omega
      have hij : (((k + 1 : Nat) : Int) - 1) = (k : Int) := by omega
      have hw : IntKind.wrap .i64 ((i : Int) + (k : Int)) = ((i + k : Nat) : Int) := by rw [wrap_i64 (by omega) (by omega)]; omega
      rw [hij, hw]
      refine hr.idx (by omega) (by omega) (by rw [bvs_len]; omega) fun b o hg hc => ?_
      refine ⟨((bs[i + k]).toNat : Int), by rw [Int.toNat_natCast, add_at]; exact hc _ _ (bvs_get hik), ?_⟩
      have hcell : ((bs.drop i).take s)[k]'(by omega) = bs[i + k] := by rw [List.getElem_take, List.getElem_drop]
      have hd : ((bs.drop i).take s).drop k = bs[i + k] :: ((bs.drop i).take s).drop (k + 1) := by rw [List.drop_eq_getElem_cons (by omega), hcell]
      have hg1 : leN (((bs.drop i).take s).drop k) = (bs[i + k]).toNat + 256 * leN (((bs.drop i).take s).drop (k + 1)) := by rw [hd, leN]
      have hg2 := leN_drop_le k ((bs.drop i).take s)
      have hx := u8_lt bs[i + k]
      refine ⟨⟨rfl, k, by omega, ?_, ?_⟩, ?_⟩
      · rw [wrap_i64 (by omega) (by omega)]
      · generalize leN (((bs.drop i).take s).drop (k + 1)) = y at *
        rw [hg1, wrap_u64 (x := (y : Int) * 256) (by omega) (by omega), wrap_u64 (x := ((bs[i + k]).toNat : Int)) (by omega) (by omega), wrap_u64 (by omega) (by omega)]
        omega
      · rw [wrap_i64 (by omega) (by omega)]
        omega
    · have hj0 : j = 0 := by omega
      subst hj0
      rw [List.drop_zero]
      exact hR
  · rw [decide_eq_false hf]
    refine cond_t (t := !false) rfl ?_
    unfold getR at h
    rw [if_neg hf] at h
    exact h

theorem refPut_c {w : World} {a : Option Addr} {c l : Nat} {bs : List UInt8} {at_ size : Int} {n : Nat} {R : Ending → World → Prop} (hs : Sl w T_uint8 1 a l c (bvs bs)) (hb : l < 70368744177664) (hn : n < 18446744073709551616)
    (h : ∀ w', Sl w' T_uint8 1 a l c (bvs (putR bs at_ size n).1) → Kp (Is a) w w' → R (.returned (.int .i64 ((putR bs at_ size n).2 : Int))) w') :
    GoC Tryd.prog F_ref02_Put #[.slice a l c, .int .i64 at_, .int .i64 size, .int .u64 (n : Int)] w R := by
  refine S_ref02_Put ?_
  unfold W_ref02_Put
  have hl : bs.length = l := by rw [← bvs_len]; exact hs.len
  refine refPlace_c (by omega) ⟨_, rfl, ?_⟩
  by_cases hf : fits l at_ size
  · have hf' := hf
    obtain ⟨h1, h2, h3, h4⟩ := hf'
    rw [decide_eq_true hf]
    refine cond_f (t := !true) rfl ?_
    obtain ⟨i, rfl⟩ := Int.eq_ofNat_of_zero_le h3
    obtain ⟨s, rfl⟩ := Int.eq_ofNat_of_zero_le (show 0 ≤ size by omega)
    have hw8 : IntKind.wrap .i64 (8 * (s : Int)) = ((8 * s : Nat) : Int) := by rw [wrap_i64 (by omega) (by omega)]; omega
    rw [hw8]
    have hfb : fits bs.length (i : Int) (s : Int) := by rw [hl]; exact hf
    obtain ⟨b, cur, ha, _⟩ := hs.addr (by omega)
    have loop : n < 256 ^ s → LoopF (S := Int × Int × Unit) ((n : Int), (0 : Int), ()) w fun s6 w2 Next6 => ∀ _J : Env, cond (decide (s6.2.1 < (s : Int))) (IdxF a (IntKind.wrap .i64 ((i : Int) + s6.2.1)) l fun d1 =>
        StF w2 (d1.add (Int.toNat (IntKind.wrap .i64 ((i : Int) + s6.2.1)))) (.int .u8 (IntKind.wrap .u8 s6.1)) fun w3 => NeZ (256 : Int) (Next6 ((IntKind.wrap .u64 (Int.tdiv s6.1 (256 : Int))), (IntKind.wrap .i64 (s6.2.1 + (1 : Int))), ()) w3)) (R (.returned (.int .i64 (0 : Int))) w2) := by
      intro hns
      have hput : putR bs (i : Int) (s : Int) n = (over bs i (leB8 s n), 0) := by
        unfold putR
        rw [if_pos hfb, Int.toNat_natCast, Int.toNat_natCast, if_pos hns]
      rw [hput] at h
      have hl8 := leB8_len s n
      refine loopN (fun st w1 => ∃ k : Nat, k ≤ s ∧ st = (((n / 256 ^ k : Nat) : Int), (k : Int), ()) ∧ Sl w1 T_uint8 1 a l c (bvs (over bs i ((leB8 s n).take k))) ∧ Kp (Is a) w w1) (fun st _ => s - st.2.1.toNat)
        ⟨0, Nat.zero_le _, by rw [Nat.pow_zero, Nat.div_one]; rfl, by simpa [over] using hs, Kp.refl _ _⟩ ?_
      rintro st w1 ⟨k, hk, rfl, hs1, k1⟩ _
      dsimp only
      refine cond_d (fun hlt => ?_) (fun hge => ?_)
      · have hw1 : IntKind.wrap .i64 ((i : Int) + (k : Int)) = ((i + k : Nat) : Int) := by rw [wrap_i64 (by omega) (by omega)]; omega
        have hw3 : IntKind.wrap .i64 ((k : Int) + 1) = ((k + 1 : Nat) : Int) := by rw [wrap_i64 (by omega) (by omega)]; omega
        rw [hw1, hw3]
        have htl : ((leB8 s n).take k).length = k := by rw [List.length_take]; omega
        refine ⟨by omega, by omega, _, ha, ?_⟩
        have hval : (Value.int .u8 (IntKind.wrap .u8 ((n / 256 ^ k : Nat) : Int))) = bv (UInt8.ofNat (n / 256 ^ k % 256)) := by
          rw [u8_mod]
          exact bv_of (by omega)
        rw [hval]
        dsimp only
        rw [Int.toNat_natCast, add_at]
        have hd : IntKind.wrap .u64 (Int.tdiv ((n / 256 ^ k : Nat) : Int) 256) = ((n / 256 ^ (k + 1) : Nat) : Int) := by
          have hle : n / 256 ^ k ≤ n := Nat.div_le_self _ _
          have hdd : n / 256 ^ (k + 1) = n / 256 ^ k / 256 := by rw [Nat.pow_succ, Nat.div_div_eq_div_mul]
          rw [hdd]
          generalize n / 256 ^ k = y at hle ⊢
          rw [Int.tdiv_eq_ediv_of_nonneg (by omega), wrap_u64 (by omega) (by omega)]
          omega
        rw [hd]
        refine hs1.put (by omega) ha fun w2 hs2 k2 _ => ⟨by decide, ⟨k + 1, by omega, rfl, ?_, k1.trans0 k2⟩, by simp only [Int.toNat_natCast]; omega⟩
        have hk8 : (leB8 s n)[k]? = some (UInt8.ofNat (n / 256 ^ k % 256)) := leB8_get s n k (by omega)
        have htk : (leB8 s n).take (k + 1) = (leB8 s n).take k ++ [UInt8.ofNat (n / 256 ^ k % 256)] := by
          rw [List.take_add_one, hk8]; rfl
        rw [htk, ← over_set (by omega), htl, bvs, List.map_set]
        exact hs2
      · have hks : k = s := by omega
        subst hks
        rw [List.take_of_length_le (by omega)] at hs1
        exact h w1 hs1 k1
    refine cond_d (fun hs8 => ⟨by omega, ?_⟩) (fun hs8 => loop ?_)
    · have hsh : shlV .u64 1 ((8 * s : Nat) : Int) = ((256 ^ s : Nat) : Int) := by
        rw [show (1 : Int) = ((1 : Nat) : Int) from rfl, shlV_nat rfl (by simp only [IntKind.bits]; omega), pow256, Nat.one_mul]
        simp only [IntKind.bits]
        rw [Nat.mod_eq_of_lt (Nat.pow_lt_pow_right (by omega) (by omega))]
      rw [hsh]
      refine cond_d (fun hge => ?_) (fun hlt => loop (by omega))
      have hput : putR bs (i : Int) (s : Int) n = (bs, 23) := by
        unfold putR
        rw [if_pos hfb, Int.toNat_natCast, Int.toNat_natCast, if_neg (by omega)]
      rw [hput] at h
      exact h w hs (Kp.refl _ _)
    · have : s = 8 := by omega
      subst this
      exact Nat.lt_of_lt_of_le hn (by decide)
  · rw [decide_eq_false hf]
    refine cond_t (t := !false) rfl ?_
    have hput : putR bs at_ size n = (bs, 4) := by unfold putR; rw [if_neg (by rw [hl]; exact hf)]
    rw [hput] at h
    exact h w hs (Kp.refl _ _)
end Go.Proofs.YtplfoedgekdjgaaDoor
