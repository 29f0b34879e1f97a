/- Contracts of the package field: place, Put, Get. Conditions: none. -/
import Derived.Test.YtaehmogilimmfaaF0
namespace Go.Proofs.Ytaehmogilimmfaa
open Go Go.RowKit

/-- May so many bytes stand there? -/
def fits (len : Nat) (at_ size : Int) : Prop := 1 ≤ size ∧ size ≤ 8 ∧ 0 ≤ at_ ∧ at_ + size ≤ len
instance (len : Nat) (at_ size : Int) : Decidable (fits len at_ size) := by unfold fits; exact inferInstance

theorem place_c {w : World} {len : Nat} {at_ size : Int} {R : Ending → World → Prop} (hl : (len : Int) ≤ 9223372036854775807)
    (h : R (.returned (.bool (decide (fits len at_ size)))) w) : GoC Try.prog F_field_place #[.int .i64 (len : Int), .int .i64 at_, .int .i64 size] w R := by
  refine S_field_place ?_
  unfold W_field_place
  have no_ : ¬ fits len at_ size → R (.returned (.bool false)) w := fun hn => by rwa [decide_eq_false hn] at h
  refine cond_d (fun h1 => cond_d (fun h2 => cond_d (fun h3 => cond_d (fun h4 => ?_) fun h4 => no_ ?_) fun h3 => no_ ?_) fun h2 => no_ ?_) fun h1 => no_ ?_
  · rw [wrap_i64 (by omega) (by omega)]
    have : decide (at_ ≤ (len : Int) - size) = decide (fits len at_ size) := by
      congr 1
      unfold fits
      apply propext
      constructor
      · intro hh; omega
      · intro hh; omega
    rw [this]
    exact h
  all_goals unfold fits; omega

/-- A number's bytes, the lowest first. -/
def leB8 : Nat → Nat → List UInt8
  | 0, _ => []
  | s + 1, n => UInt8.ofNat (n % 256) :: leB8 s (n / 256)
theorem leB8_len : ∀ s n, (leB8 s n).length = s
  | 0, _ => rfl
  | s + 1, n => by simp [leB8, leB8_len s]
theorem leB8_get : ∀ s n k, k < s → (leB8 s n)[k]? = some (UInt8.ofNat (n / 256 ^ k % 256))
  | 0, _, _, h => by omega
  | s + 1, n, 0, _ => by simp [leB8]
  | s + 1, n, k + 1, h => by
    simp only [leB8, List.getElem?_cons_succ]
    rw [leB8_get s (n / 256) k (by omega), Nat.div_div_eq_div_mul, Nat.pow_succ, Nat.mul_comm 256]
/-- The number that these bytes are. -/
def leN : List UInt8 → Nat
  | [] => 0
  | c :: r => c.toNat + 256 * leN r
theorem leN_lt : ∀ l, leN l < 256 ^ l.length
  | [] => by simp [leN]
  | c :: r => by
    have := leN_lt r
    have := u8_lt c
    simp only [leN, List.length_cons, Nat.pow_succ]
    omega
theorem leN_snoc : ∀ (l : List UInt8) (x : UInt8), leN (l ++ [x]) = leN l + x.toNat * 256 ^ l.length
  | [], x => by simp [leN]
  | c :: r, x => by
    rw [List.cons_append, leN, leN_snoc r x, leN, List.length_cons, Nat.pow_succ, Nat.mul_add, ← Nat.mul_assoc, ← Nat.mul_assoc, Nat.add_assoc]
    congr 2
    rw [Nat.mul_comm 256, Nat.mul_assoc, Nat.mul_assoc, Nat.mul_comm 256]
theorem leN_leB8 : ∀ s n, leN (leB8 s n) = n % 256 ^ s
  | 0, n => by simp [leB8, leN, Nat.mod_one]
  | s + 1, n => by
    simp only [leB8, leN, leN_leB8 s]
    have : (UInt8.ofNat (n % 256)).toNat = n % 256 := by simp [UInt8.toNat_ofNat']
    rw [this, Nat.pow_succ, Nat.mul_comm (256 ^ s), Nat.mod_mul]

theorem pow256 (k : Nat) : 256 ^ k = 2 ^ (8 * k) := by rw [Nat.pow_mul]

/-- Bytes written over, from place i on. -/
def over (l : List UInt8) (i : Nat) (x : List UInt8) : List UInt8 := l.take i ++ x ++ l.drop (i + x.length)
theorem over_len {l x : List UInt8} {i : Nat} (h : i + x.length ≤ l.length) : (over l i x).length = l.length := by
  simp [over]; omega
theorem over_set {l x : List UInt8} {i : Nat} {c : UInt8} (h : i + x.length < l.length) : (over l i x).set (i + x.length) c = over l i (x ++ [c]) := by
  unfold over
  have hl : (l.take i ++ x).length = i + x.length := by simp; omega
  rw [List.set_append_right _ _ (by omega), hl, Nat.sub_self]
  have : l.drop (i + x.length) = l[i + x.length] :: l.drop (i + x.length + 1) := List.drop_eq_getElem_cons h
  rw [this]
  simp [Nat.add_assoc]

/-- Get. -/
def getR (bs : List UInt8) (at_ size : Int) : Nat × Nat := if fits bs.length at_ size then (leN ((bs.drop at_.toNat).take size.toNat), 0) else (0, 4)

theorem get_c {w : World} {a : Option Addr} {c : Nat} {bs : List UInt8} {at_ size : Int} {R : Ending → World → Prop} (hr : Rd w a (bvs bs)) (hb : bs.length < 70368744177664)
    (h : R (.returned (.tuple #[.int .u64 ((getR bs at_ size).1 : Int), .int .i64 ((getR bs at_ size).2 : Int)])) w) :
    GoC Try.prog F_field_Get #[.slice a bs.length c, .int .i64 at_, .int .i64 size] w R := by
  refine S_field_Get ?_
  unfold W_field_Get
  refine place_c (by omega) ⟨_, rfl, ?_⟩
  by_cases hf : fits bs.length at_ size
  · have hf' := hf
    obtain ⟨h1, h2, h3, h4⟩ := hf'
    rw [decide_eq_true hf]
    refine cond_f (t := !true) rfl ?_
    have hR : R (.returned (.tuple #[.int .u64 (leN ((bs.drop at_.toNat).take size.toNat) : Int), .int .i64 0])) w := by
      unfold getR at h
      rw [if_pos hf] at h
      exact h
    obtain ⟨i, rfl⟩ := Int.eq_ofNat_of_zero_le h3
    obtain ⟨s, rfl⟩ := Int.eq_ofNat_of_zero_le (show 0 ≤ size by omega)
    simp only [Int.toNat_natCast] at hR
    refine loopN (fun st w1 => w1 = w ∧ ∃ k : Nat, k ≤ s ∧ st.2.1 = (k : Int) ∧ st.1 = (leN ((bs.drop i).take k) : Int)) (fun st _ => s - st.2.1.toNat) ⟨rfl, 0, Nat.zero_le _, rfl, by simp [leN]⟩ ?_
    rintro ⟨n, kk, u⟩ w1 ⟨rfl, k, hk, hkk, hn⟩ _
    dsimp only at hkk hn ⊢
    subst hkk hn
    refine cond_d (fun hlt => ?_) (fun hge => ?_)
    · have hki : i + k < bs.length := by omega
      have hw1 : IntKind.wrap .i64 ((i : Int) + (k : Int)) = ((i + k : Nat) : Int) := by rw [wrap_i64 (by omega) (by omega)]; omega
      have hw2 : IntKind.wrap .i64 (8 * (k : Int)) = ((8 * k : Nat) : Int) := by rw [wrap_i64 (by omega) (by omega)]; omega
      have hw3 : IntKind.wrap .i64 ((k : Int) + 1) = ((k + 1 : Nat) : Int) := by rw [wrap_i64 (by omega) (by omega)]; omega
      rw [hw1, hw2, hw3]
      refine hr.idx (by omega) (by omega) (by rw [bvs_len]; omega) fun b o hg hc => ?_
      refine ⟨((bs[i + k]).toNat : Int), ?_, by omega, ⟨rfl, k + 1, by omega, rfl, ?_⟩, by simp only [Int.toNat_natCast]; omega⟩
      · rw [Int.toNat_natCast, add_at]
        exact hc _ _ (bvs_get hki)
      · have hx := u8_lt bs[i + k]
        have hlen : ((bs.drop i).take k).length = k := by rw [List.length_take, List.length_drop]; omega
        have hlt2 : leN ((bs.drop i).take k) < 2 ^ (8 * k) := by
          have := leN_lt ((bs.drop i).take k)
          rwa [hlen, pow256] at this
        rw [wrap_nat rfl (by simp only [IntKind.bits]; omega), shlV_nat rfl (by simp only [IntKind.bits]; omega)]
        simp only [IntKind.bits]
        have hs : (bs[i + k]).toNat * 2 ^ (8 * k) < 2 ^ 64 := by
          calc (bs[i + k]).toNat * 2 ^ (8 * k) < 2 ^ 8 * 2 ^ (8 * k) := Nat.mul_lt_mul_of_pos_right hx (Nat.two_pow_pos _)
            _ = 2 ^ (8 + 8 * k) := by rw [Nat.pow_add]
            _ ≤ 2 ^ 64 := Nat.pow_le_pow_right (by omega) (by omega)
        rw [Nat.mod_eq_of_lt hs]
        have h64 : leN ((bs.drop i).take k) < 2 ^ 64 := Nat.lt_of_lt_of_le hlt2 (Nat.pow_le_pow_right (by omega) (by omega))
        rw [orV_nat rfl h64 hs, or_shift hlt2]
        have hd : k < (bs.drop i).length := by rw [List.length_drop]; omega
        rw [take_snoc_get _ k hd, leN_snoc, hlen, pow256]
        simp
    · have hks : k = s := by omega
      subst hks
      exact hR
  · rw [decide_eq_false hf]
    refine cond_t (t := !false) rfl ?_
    unfold getR at h
    rw [if_neg hf] at h
    exact h

/-- Put: the bytes behind it, and the error's number. -/
def putR (bs : List UInt8) (at_ size : Int) (n : Nat) : List UInt8 × Nat :=
  if fits bs.length at_ size then (if n < 256 ^ size.toNat then (over bs at_.toNat (leB8 size.toNat n), 0) else (bs, 23)) else (bs, 4)

/-- The loop of Put: over bytes that stand in a block of their own, from o on. -/
theorem put_c {w : World} {b o c : Nat} {cur : Array Value} {T : TypeId} {bs : List UInt8} {at_ size : Int} {n : Nat} {R : Ending → World → Prop} (hblk : Blk w b cur T) (hcur : ∀ i v, (bvs bs)[i]? = some v → cur[o + i]? = some v)
    (hb : bs.length < 70368744177664) (hn : n < 18446744073709551616)
    (h : ∀ cur' w', Blk w' b cur' T → cur'.size = cur.size → (∀ i v, (bvs (putR bs at_ size n).1)[i]? = some v → cur'[o + i]? = some v) → (∀ i, (i < o ∨ o + bs.length ≤ i) → cur'[i]? = cur[i]?) → Kp (fun k => k = b) w w' →
      R (.returned (.int .i64 ((putR bs at_ size n).2 : Int))) w') :
    GoC Try.prog F_field_Put #[.slice (some ⟨b, o, none⟩) bs.length c, .int .i64 at_, .int .i64 size, .int .u64 (n : Int)] w R := by
  refine S_field_Put ?_
  unfold W_field_Put
  refine place_c (by omega) ⟨_, rfl, ?_⟩
  by_cases hf : fits bs.length at_ size
  · have hf' := hf
    obtain ⟨h1, h2, h3, h4⟩ := hf'
    rw [decide_eq_true hf]
    refine cond_f (t := !true) rfl ?_
    obtain ⟨i, rfl⟩ := Int.eq_ofNat_of_zero_le h3
    obtain ⟨s, rfl⟩ := Int.eq_ofNat_of_zero_le (show 0 ≤ size by omega)
    have hw8 : IntKind.wrap .i64 (8 * (s : Int)) = ((8 * s : Nat) : Int) := by rw [wrap_i64 (by omega) (by omega)]; omega
    rw [hw8]
    have loop : n < 256 ^ s → LoopF (S := Int × Unit) ((0 : Int), ()) w fun s6 w2 Next6 => ∀ _J : Env, cond (decide (s6.1 < (s : Int))) (NnF (IntKind.wrap .i64 ((8 : Int) * s6.1)) (IdxF (some ⟨b, o, none⟩) (IntKind.wrap .i64 ((i : Int) + s6.1)) bs.length fun d1 =>
        StF w2 (d1.add (Int.toNat (IntKind.wrap .i64 ((i : Int) + s6.1)))) (.int .u8 (IntKind.wrap .u8 (shrV .u64 (n : Int) (IntKind.wrap .i64 ((8 : Int) * s6.1))))) fun w3 => Next6 ((IntKind.wrap .i64 (s6.1 + (1 : Int))), ()) w3)) (R (.returned (.int .i64 (0 : Int))) w2) := by
      intro hns
      have hput : putR bs (i : Int) (s : Int) n = (over bs i (leB8 s n), 0) := by
        unfold putR
        rw [if_pos hf, Int.toNat_natCast, Int.toNat_natCast, if_pos hns]
      rw [hput] at h
      refine loopN (fun st w1 => ∃ k : Nat, k ≤ s ∧ st.1 = (k : Int) ∧ ∃ cur', Blk w1 b cur' T ∧ cur'.size = cur.size ∧ (∀ j v, (bvs (over bs i ((leB8 s n).take k)))[j]? = some v → cur'[o + j]? = some v) ∧ (∀ j, (j < o ∨ o + bs.length ≤ j) → cur'[j]? = cur[j]?) ∧ Kp (fun k => k = b) w w1) (fun st _ => s - st.1.toNat)
        ⟨0, Nat.zero_le _, rfl, cur, hblk, rfl, by simpa [over] using hcur, fun _ _ => rfl, Kp.refl _ _⟩ ?_
      rintro ⟨kk, u⟩ w1 ⟨k, hk, hkk, cur', hb', hsz, hc', hrest, k1⟩ _
      dsimp only at hkk ⊢
      subst hkk
      have hl8 := leB8_len s n
      refine cond_d (fun hlt => ?_) (fun hge => ?_)
      · have hki : i + k < bs.length := by omega
        have hw1 : IntKind.wrap .i64 ((i : Int) + (k : Int)) = ((i + k : Nat) : Int) := by rw [wrap_i64 (by omega) (by omega)]; omega
        have hw2 : IntKind.wrap .i64 (8 * (k : Int)) = ((8 * k : Nat) : Int) := by rw [wrap_i64 (by omega) (by omega)]; omega
        have hw3 : IntKind.wrap .i64 ((k : Int) + 1) = ((k + 1 : Nat) : Int) := by rw [wrap_i64 (by omega) (by omega)]; omega
        rw [hw1, hw2, hw3]
        have htl : ((leB8 s n).take k).length = k := by rw [List.length_take]; omega
        have hol : (over bs i ((leB8 s n).take k)).length = bs.length := over_len (by omega)
        have hin : o + (i + k) < cur'.size := by
          have := hc' (i + k) _ (bvs_get (by rw [hol]; exact hki))
          exact (Array.getElem?_eq_some_iff.1 this).1
        refine ⟨by omega, by omega, by omega, _, rfl, ?_⟩
        dsimp only
        rw [Int.toNat_natCast, add_at]
        have hval : (Value.int .u8 (IntKind.wrap .u8 (shrV .u64 (n : Int) ((8 * k : Nat) : Int)))) = bv (UInt8.ofNat (n / 256 ^ k % 256)) := by
          rw [shrV_nat (by simp only [IntKind.bits]; omega), u8_mod, pow256]
          exact bv_of (by omega)
        rw [hval]
        refine StF.intro hb' hin fun w2 hb2 k2 _ => ⟨⟨k + 1, by omega, rfl, _, hb2, by simpa using hsz, ?_, ?_, k1.trans0 k2⟩, by simp only [Int.toNat_natCast]; omega⟩
        · intro j v hv
          have hk8 : (leB8 s n)[k]? = some (UInt8.ofNat (n / 256 ^ k % 256)) := leB8_get s n k (by omega)
          have htk : (leB8 s n).take (k + 1) = (leB8 s n).take k ++ [UInt8.ofNat (n / 256 ^ k % 256)] := by
            rw [List.take_add_one, hk8]; rfl
          rw [htk, ← over_set (by omega), htl, bvs, List.map_set] at hv
          by_cases hj : j = i + k
          · subst hj
            rw [List.getElem?_set_self (by rw [List.length_map, hol]; exact hki)] at hv
            rw [Array.getElem?_setIfInBounds_self_of_lt hin]
            exact hv
          · rw [List.getElem?_set_ne (by omega)] at hv
            rw [Array.getElem?_setIfInBounds_ne (by omega)]
            exact hc' j v hv
        · intro j hj
          rw [Array.getElem?_setIfInBounds_ne (by omega)]
          exact hrest j hj
      · have hks : k = s := by omega
        subst hks
        rw [List.take_of_length_le (by omega)] at hc'
        exact h cur' w1 hb' hsz hc' hrest k1
    have shr : shrV .u64 (n : Int) ((8 * s : Nat) : Int) = ((n / 256 ^ s : Nat) : Int) := by rw [shrV_nat (by simp only [IntKind.bits]; omega), pow256]
    refine cond_d (fun hs8 => ⟨by omega, ?_⟩) (fun hs8 => loop ?_)
    · rw [shr]
      refine cond_ne (fun hne => ?_) (fun he => loop ?_)
      · have hput : putR bs (i : Int) (s : Int) n = (bs, 23) := by
          unfold putR
          rw [if_pos hf, Int.toNat_natCast, Int.toNat_natCast, if_neg]
          intro hlt
          rw [Nat.div_eq_of_lt hlt] at hne
          exact hne rfl
        rw [hput] at h
        exact h cur w hblk rfl hcur (fun _ _ => rfl) (Kp.refl _ _)
      · have he' : n / 256 ^ s = 0 := by omega
        exact (Nat.div_eq_zero_iff_lt (Nat.pow_pos (by omega))).1 he'
    · have : s = 8 := by omega
      subst this
      exact Nat.lt_of_lt_of_le hn (by decide)
  · rw [decide_eq_false hf]
    refine cond_t (t := !false) rfl ?_
    have hput : putR bs at_ size n = (bs, 4) := by unfold putR; rw [if_neg hf]
    rw [hput] at h
    exact h cur w hblk rfl hcur (fun _ _ => rfl) (Kp.refl _ _)
end Go.Proofs.Ytaehmogilimmfaa
