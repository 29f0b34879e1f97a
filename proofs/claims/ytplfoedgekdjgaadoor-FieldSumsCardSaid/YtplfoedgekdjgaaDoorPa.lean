/- The statement FieldSums, walked: it answers true. Conditions: the checksum's table stands. -/
import Derived.Test.YtplfoedgekdjgaaDoorLb
import Derived.Test.YtplfoedgekdjgaaDoorSum
import Derived.Test.YtplfoedgekdjgaaDoorM2
namespace Go.Proofs.YtplfoedgekdjgaaDoor
open Go Go.RowKit

theorem bitAt_set {t : List UInt8} {q j : Nat} {y : UInt8} (hq : q < t.length) (hj : j < 8) (hy : y.toNat = (t[q]).toNat ^^^ 2 ^ j) (p : Nat) : bitAt (t.set q y) p = Bool.xor (bitAt t p) (decide (p = 8 * q + j)) := by
  unfold bitAt
  by_cases h : p / 8 = q
  · have hp : (decide (p = 8 * q + j)) = decide (p % 8 = j) := by congr 1; apply propext; omega
    rw [hp, h, List.getD_eq_getElem?_getD, List.getElem?_set_self hq, List.getD_eq_getElem?_getD, List.getElem?_eq_getElem hq, Option.getD_some, Option.getD_some, hy, Nat.testBit_xor, Nat.testBit_two_pow]
    congr 1
    exact decide_eq_decide.2 eq_comm
  · have hp : decide (p = 8 * q + j) = false := decide_eq_false (by omega)
    rw [hp, Bool.xor_false, List.getD_eq_getElem?_getD, List.getElem?_set_ne (by omega), ← List.getD_eq_getElem?_getD]

theorem tmod_bd (a : Int) {m : Int} (hm : 0 < m) : -m < Int.tmod a m ∧ Int.tmod a m < m := by
  have h1 := Int.tmod_lt_of_pos a hm
  have h2 := Int.lt_tmod_of_pos a hm
  exact ⟨h2, h1⟩

theorem bit_code {m i : Nat} (hm : m < 4294967296) (hi : i < 32) : (andV .u32 (shrV .u32 (m : Int) (i : Int)) 1 == 1) = m.testBit i := by
  rw [shrV_nat (by simp only [IntKind.bits]; omega), show (1 : Int) = ((1 : Nat) : Int) from rfl, andV_nat rfl (by simp only [IntKind.bits]; exact Nat.lt_of_le_of_lt (Nat.div_le_self _ _) hm) (by simp [IntKind.bits]), and_1, Nat.testBit_eq_decide_div_mod_eq]
  rcases Nat.mod_two_eq_zero_or_one (m / 2 ^ i) with h | h <;> rw [h] <;> rfl

theorem xor_code {c : UInt8} {j : Nat} (hj : j < 8) : (Value.int .u8 (xorV .u8 ((c.toNat : Nat) : Int) (shlV .u8 1 (j : Int)))) = bv (UInt8.ofNat (c.toNat ^^^ 2 ^ j)) := by
  have hp : 2 ^ j ≤ 128 := Nat.pow_le_pow_right (n := 2) (by omega) (show j ≤ 7 by omega)
  have hc := u8_lt c
  rw [show (1 : Int) = ((1 : Nat) : Int) from rfl, shlV_nat rfl (by simp only [IntKind.bits]; omega), Nat.one_mul]
  simp only [IntKind.bits]
  rw [Nat.mod_eq_of_lt (by omega), xorV_nat rfl (by simpa [IntKind.bits] using hc) (by simp only [IntKind.bits]; omega)]
  exact bv_of (Nat.xor_lt_two_pow (n := 8) hc (by omega))
theorem xor_toNat {c : UInt8} {j : Nat} (hj : j < 8) : (UInt8.ofNat (c.toNat ^^^ 2 ^ j)).toNat = c.toNat ^^^ 2 ^ j := by
  have hp : 2 ^ j ≤ 128 := Nat.pow_le_pow_right (n := 2) (by omega) (show j ≤ 7 by omega)
  have := Nat.xor_lt_two_pow (n := 8) (u8_lt c) (show 2 ^ j < 2 ^ 8 by omega)
  simp only [UInt8.toNat_ofNat']
  omega

theorem sumN_lt (l : List UInt8) : sumN l < 4294967296 := Nat.xor_lt_two_pow (n := 32) (fold_lt l _ (by omega)) (by omega)

/-- Nothing old has turned since. -/
structure Since (w0 w : World) : Prop where
  kp : Kp no w0 w
theorem Since.step {w0 w w' : World} (h : Since w0 w) (k : Kp no w w') : Since w0 w' := ⟨Kp.trans0 h.kp k⟩

/-- Two byte lists, and zeros, as the first loop makes them. -/
structure Three (w : World) (n : Nat) (A B : List UInt8) (k : Nat) (ax ay az : Option Addr) (cx cy cz : Nat) : Prop where
  x : Sl w T_uint8 1 ax k cx (bvs ((List.zipWith (· ^^^ ·) A B).take k))
  y : Sl w T_uint8 1 ay k cy (bvs (B.take k))
  z : Sl w T_uint8 1 az k cz (bvs (List.replicate k 0))
  fx : ∀ i, Is ax i → n ≤ i
  fy : ∀ i, Is ay i → n ≤ i
  fz : ∀ i, Is az i → n ≤ i
  xy : ∀ i, Is ax i → ¬ Is ay i
  xz : ∀ i, Is ax i → ¬ Is az i
  yz : ∀ i, Is ay i → ¬ Is az i

set_option maxHeartbeats 4000000 in
theorem fieldSums_c {w : World} {a1 a2 : Option Addr} {l1 c1 l2 c2 : Nat} {A0 B0 : List UInt8} {bit : Int} {m : Nat} {R : Ending → World → Prop} (hnib : Nib w)
    (hA : Rd w a1 (bvs A0)) (hAl : A0.length = l1) (hAc : l1 ≤ c1) (hA0 : a1 = none → l1 = 0) (hB : Rd w a2 (bvs B0)) (hBl : B0.length = l2) (hBc : l2 ≤ c2) (hB0 : a2 = none → l2 = 0) (hm : m < 4294967296)
    (h : ∀ w', Kp no w w' → R (.returned (.bool true)) w') : GoC Tryd.prog F_law02_FieldSums #[.slice a1 l1 c1, .slice a2 l2 c2, .int .i64 bit, .int .u32 (m : Int)] w R := by
  refine S_law02_FieldSums ?_
  unfold W_law02_FieldSums
  refine awake_c hnib fun w1 k1 => ⟨_, rfl, cond_f rfl ?_⟩
  refine cut_c hAc ⟨a1, _, c1, rfl, ?_⟩
  refine cut_c hBc ⟨a2, _, c2, rfl, ?_⟩
  have hA1 : Rd w1 a1 (bvs (A0.take 4000)) := by rw [bvs, List.map_take]; exact (hA.kp0 k1).take 4000
  have hB1 : Rd w1 a2 (bvs (B0.take 4000)) := by rw [bvs, List.map_take]; exact (hB.kp0 k1).take 4000
  have hla : (A0.take 4000).length = min l1 4000 := by rw [List.length_take]; omega
  have hlb : (B0.take 4000).length = min l2 4000 := by rw [List.length_take]; omega
  have hla' : min l1 4000 ≤ 4000 := by omega
  have hlac : min l1 4000 ≤ c1 := by omega
  have hA0' : a1 = none → min l1 4000 = 0 := fun h => by have := hA0 h; omega
  generalize A0.take 4000 = A at *
  generalize B0.take 4000 = B at *
  generalize min l1 4000 = la at *
  generalize min l2 4000 = lb at *
  have hnib1 := hnib.kp0 k1
  have blkA : ∀ b, Is a1 b → A = [] ∨ b < w1.heap.size := by
    rintro b ⟨ad, had, rfl⟩
    by_cases hA : A = []
    · exact .inl hA
    · obtain ⟨b, o, ha, hb, _⟩ := hA1.addr (by intro hh; apply hA; simpa [bvs] using hh)
      rw [ha] at had
      cases had
      exact .inr hb
  clear hA hB hnib hAl hBl hAc hBc hA0 hB0
  obtain ⟨n, hn⟩ : ∃ n, n = min la lb := ⟨_, rfl⟩
  -- the first loop
  refine ⟨fun s w' => Kp no w1 w' ∧ ∃ ax ay az cx cy cz, s = ((ax, n, cx), (ay, n, cy), (az, n, cz), ()) ∧ Three w' w1.heap.size A B n ax ay az cx cy cz, ?_, ?_⟩
  · refine loopN (fun s w' => Kp no w1 w' ∧ ∃ k ax ay az cx cy cz, k ≤ n ∧ s = ((ax, k, cx), (ay, k, cy), (az, k, cz), (k : Int), ()) ∧ Three w' w1.heap.size A B k ax ay az cx cy cz) (fun s _ => n - s.2.2.2.1.toNat) ?_ ?_
    · exact ⟨Kp.refl _ _, 0, none, none, none, 0, 0, 0, Nat.zero_le _, rfl, Sl.nil _ _ _, Sl.nil _ _ _, Sl.nil _ _ _, fun i h => (not_is_none h).elim, fun i h => (not_is_none h).elim, fun i h => (not_is_none h).elim, fun i h => (not_is_none h).elim, fun i h => (not_is_none h).elim, fun i h => (not_is_none h).elim⟩
    · rintro s w4 ⟨k4, k, ax, ay, az, cx, cy, cz, hk, rfl, T⟩ _
      dsimp only
      have done : ¬ (k < la ∧ k < lb) → Kp no w1 w4 ∧ ∃ ax' ay' az' cx' cy' cz', ((ax, k, cx), (ay, k, cy), (az, k, cz), ()) = ((ax', n, cx'), (ay', n, cy'), (az', n, cz'), ()) ∧ Three w4 w1.heap.size A B n ax' ay' az' cx' cy' cz' := by
        intro hnot
        have hkn : k = n := by omega
        subst hkn
        exact ⟨k4, ax, ay, az, cx, cy, cz, rfl, T⟩
      refine cond_d (fun hlt1 => cond_d (fun hlt2 => ?_) fun hge => done (by omega)) fun hge => done (by omega)
      have hka : k < A.length := by omega
      have hkb : k < B.length := by omega
      have hzl : (List.zipWith (· ^^^ ·) A B).length = n := by rw [List.length_zipWith]; omega
      have hsz := k4.size
      have hA4 := hA1.kp0 k4
      have hB4 := hB1.kp0 k4
      -- worlds in which only x's own block may have turned
      refine ⟨fun w' => Kp (Is ax) w4 w', (Kp.drew w4 1).of_no, ?_⟩
      have hold : ∀ (a : Option Addr) (l : List UInt8) (w' : World), Rd w1 a (bvs l) → Kp (Is ax) w4 w' → Rd w' a (bvs l) := by
        intro a l w' hr hk i v hv
        obtain ⟨b, o, ha, hc⟩ := hr i v hv
        refine ⟨b, o, ha, hk.cell (k4.cell hc id) fun hh => ?_⟩
        have h1 := T.fx _ hh
        have h2 := cell_lt hc
        omega
      refine hA4.idx (by omega) (by omega) (by rw [bvs_len]; omega) fun bA oA hgA _ => ?_
      refine ⟨((A[k]).toNat : Int), fun w' hw' => ?_, ?_⟩
      · rw [Int.toNat_natCast, add_at]
        obtain ⟨b, o, ha, hc⟩ := hold _ _ w' hA1 hw' k _ (bvs_get hka)
        rw [hgA] at ha; cases ha; exact hc
      refine hB4.idx (by omega) (by omega) (by rw [bvs_len]; omega) fun bB oB hgB _ => ?_
      refine ⟨((B[k]).toNat : Int), fun w' hw' => ?_, ?_⟩
      · rw [Int.toNat_natCast, add_at]
        obtain ⟨b, o, ha, hc⟩ := hold _ _ w' hB1 hw' k _ (bvs_get hkb)
        rw [hgB] at ha; cases ha; exact hc
      have hxv : (Value.int .u8 (xorV .u8 ((A[k]).toNat : Int) ((B[k]).toNat : Int))) = bv (A[k] ^^^ B[k]) := by
        rw [xorV_nat rfl (by simpa [IntKind.bits] using u8_lt A[k]) (by simpa [IntKind.bits] using u8_lt B[k]), bv, UInt8.toNat_xor]
      rw [hxv]
      refine AlF.intro fun b w5 hb5 hblk5 k5 _ => ?_
      have q5 : Kp (Is ax) w4 w5 := ((Kp.drew w4 1).trans0 k5).of_no
      refine ⟨q5, ?_⟩
      have hx5 : Sl w5 T_uint8 1 ax k cx (bvs ((List.zipWith (· ^^^ ·) A B).take k)) := (T.x.kp0 (Kp.drew w4 1)).kp0 k5
      refine append_own er_u8 hx5 (rd_lits (l := [A[k] ^^^ B[k]]) hblk5 rfl) rfl (fun h => by cases h) bvs_one (by omega) (by omega) fun ax' cx' w6 hx6 k6 hi6 _ _ => ⟨ax', _, cx', rfl, ?_⟩
      have q6 : Kp (Is ax) w4 w6 := q5.trans0 k6
      refine ⟨q6, ?_⟩
      have hxs : (List.zipWith (· ^^^ ·) A B).take (k + 1) = (List.zipWith (· ^^^ ·) A B).take k ++ [A[k] ^^^ B[k]] := by
        rw [take_snoc_get _ k (by omega), List.getElem_zipWith]
      rw [← bvs_app, ← hxs] at hx6
      have s5 := k5.size
      have sd : w4.drew.heap.size = w4.heap.size := rfl
      have hi6' : ∀ j, Is ax' j → Is ax j ∨ w4.heap.size ≤ j := fun j hj => (hi6 j hj).imp id (by omega)
      have y6 : Sl w6 T_uint8 1 ay k cy (bvs (B.take k)) := T.y.kp q6 fun j hj hx => T.xy j hx hj
      have z6 : Sl w6 T_uint8 1 az k cz (bvs (List.replicate k 0)) := T.z.kp q6 fun j hj hx => T.xz j hx hj
      have s6 := k6.size
      refine (hold _ _ w6 hB1 q6).idx (by omega) (by omega) (by rw [bvs_len]; omega) fun bB2 oB2 hgB2 hcB2 => ?_
      refine ⟨((B[k]).toNat : Int), by rw [Int.toNat_natCast, add_at]; exact hcB2 k _ (bvs_get hkb), ?_⟩
      refine push_own er_u8 y6 (v := bv B[k]) rfl (by omega) (by omega) fun ay' cy' w8 hy8 k8 hi8 => ?_
      have s8 := k8.size
      have ly := y6.lt
      have lz := z6.lt
      have lx := hx6.lt
      have ltx := T.x.lt
      have lty := T.y.lt
      have ltz := T.z.lt
      have z8 : Sl w8 T_uint8 1 az k cz (bvs (List.replicate k 0)) := z6.kp k8 fun j hj hx => T.yz j hx hj
      have xy6 : ∀ j, Is ax' j → ¬ Is ay j := fun j hj hy => by
        rcases hi6' j hj with hh | hh
        · exact T.xy j hh hy
        · have := lty j hy; omega
      have x8 : Sl w8 T_uint8 1 ax' (k + 1) cx' (bvs ((List.zipWith (· ^^^ ·) A B).take (k + 1))) := hx6.kp k8 fun j hj hy => xy6 j hj hy
      refine push_own er_u8 z8 (v := bv 0) rfl (by omega) (by omega) fun az' cz' w10 hz10 k10 hi10 => ?_
      have s10 := k10.size
      have xz8 : ∀ j, Is ax' j → ¬ Is az j := fun j hj hz => by
        rcases hi6' j hj with hh | hh
        · exact T.xz j hh hz
        · have := ltz j hz; omega
      have yz8 : ∀ j, Is ay' j → ¬ Is az j := fun j hj hz => by
        rcases hi8 j hj with hh | hh
        · exact T.yz j hh hz
        · have := lz j hz; omega
      have y10 : Sl w10 T_uint8 1 ay' (k + 1) cy' (bvs (B.take (k + 1))) := by
        rw [take_snoc_get B k hkb, bvs_app]
        exact hy8.kp k10 fun j hj hz => yz8 j hj hz
      have x10 := x8.kp k10 fun j hj hz => xz8 j hj hz
      have z10 : Sl w10 T_uint8 1 az' (k + 1) cz' (bvs (List.replicate (k + 1) 0)) := by
        rw [List.replicate_succ', bvs_app]
        exact hz10
      have hwk : IntKind.wrap .i64 ((k : Int) + 1) = ((k + 1 : Nat) : Int) := by rw [wrap_i64 (by omega) (by omega)]; omega
      have n6 : Kp no w1 w6 := k4.trans q6 (fun j _ h => h) fun j hj hh => by have := T.fx j hh; omega
      have n8 : Kp no w1 w8 := n6.trans k8 (fun j _ h => h) fun j hj hh => by have := T.fy j hh; omega
      have n10 : Kp no w1 w10 := n8.trans k10 (fun j _ h => h) fun j hj hh => by have := T.fz j hh; omega
      rw [hwk]
      refine ⟨⟨n10, k + 1, ax', ay', az', cx', cy', cz', by omega, rfl, x10, y10, z10, ?_, ?_, ?_, ?_, ?_, ?_⟩, by simp only [Int.toNat_natCast]; omega⟩
      · exact fun j hj => by rcases hi6' j hj with hh | hh; exact T.fx j hh; omega
      · exact fun j hj => by rcases hi8 j hj with hh | hh; exact T.fy j hh; omega
      · exact fun j hj => by rcases hi10 j hj with hh | hh; exact T.fz j hh; omega
      · intro j hj hy
        rcases hi8 j hy with hh | hh
        · exact xy6 j hj hh
        · have := lx j hj; omega
      · intro j hj hz
        rcases hi10 j hz with hh | hh
        · exact xz8 j hj hh
        · have := x8.lt j hj; omega
      · intro j hj hz
        rcases hi10 j hz with hh | hh
        · exact yz8 j hj hh
        · have := hy8.lt j hj; omega
  · rintro s w11 ⟨k11, ax, ay, az, cx, cy, cz, rfl, T⟩ _
    dsimp only
    have hXl : (List.zipWith (· ^^^ ·) A B).length = n := by rw [List.length_zipWith]; omega
    obtain ⟨Tx, Ty, Tz, Tfx, Tfy, Tfz, Txy, Txz, Tyz⟩ := T
    rw [List.take_of_length_le (by omega)] at Tx
    have hAl : (A.take n).length = n := by rw [List.length_take]; omega
    have hBl : (B.take n).length = n := by rw [List.length_take]; omega
    have hZl : (List.replicate n (0 : UInt8)).length = n := List.length_replicate
    have hlin : sumN (List.zipWith (· ^^^ ·) A B) = sumN (A.take n) ^^^ sumN (B.take n) ^^^ sumN (List.replicate n 0) := by
      have h1 := sum_lin (a := A.take n) (b := B.take n) (by omega)
      rw [← List.take_zipWith, List.take_of_length_le (by omega), hAl] at h1
      exact h1
    have hlinb : (((sumN (List.zipWith (· ^^^ ·) A B) : Nat) : Int) != xorV .u32 (xorV .u32 (sumN (A.take n) : Int) (sumN (B.take n) : Int)) (sumN (List.replicate n 0) : Int)) = false := by
      have hx := sumN_lt (A.take n)
      have hy := sumN_lt (B.take n)
      have hz := sumN_lt (List.replicate n 0)
      rw [xorV_nat rfl (by simpa [IntKind.bits] using hx) (by simpa [IntKind.bits] using hy), xorV_nat rfl (by simp only [IntKind.bits]; exact Nat.xor_lt_two_pow (n := 32) hx hy) (by simpa [IntKind.bits] using hz), ← hlin]
      simp
    have hnib11 := hnib1.kp0 k11
    have rA : Rd w11 a1 (bvs (A.take n)) := by rw [bvs, List.map_take]; exact (hA1.kp0 k11).take n
    have rX := Tx.rd
    have rY := Ty.rd
    have rZ := Tz.rd
    have hnl : n < 70368744177664 := by omega
    generalize hX : List.zipWith (· ^^^ ·) A B = X at *
    refine ⟨fun s w => s.1 = false ∧ Since w11 w, ?_, ?_⟩
    · refine ⟨fun w' => Since w11 w', ⟨Kp.drew w11 1⟩, ⟨by omega, by omega⟩, trivial, ?_⟩
      rw [subA_zero, Int.toNat_natCast]
      have q : Since w11 w11.drew := ⟨Kp.drew w11 1⟩
      have key : ∀ {l : List UInt8} {w1 w : World} {b : Nat} {a : Option Addr} {c : Nat} {T : TypeId} {R : Ending → World → Prop}, Blk w1 b #[.slice a n c] T → Rd w11 a (bvs l) → l.length = n → Since w11 w → Kp no w1 w → R (.returned (.int .u32 (sumN l : Int))) w → GoC Tryd.prog F_field_Sum #[.slice (some ⟨b, 0, none⟩) 1 1] w R :=
        fun hb hr hl q k h => sum1_c hb hr hl hnl hnib11 q.kp k h
      repeat' (first
        | exact ⟨hlinb, by assumption⟩
        | refine And.intro (show Since w11 _ by assumption) ?_
        | refine AlF.intro fun b w' _ hblk k _ => (fun (q' : Since w11 w') => ?_) (Since.step (by assumption) k)
        | refine key (by assumption) (by assumption) (by assumption) (by assumption) (by repeat (first | exact Kp.refl _ _ | refine Kp.trans0 ?_ (by assumption))) ⟨_, rfl, ?_⟩
        | refine And.intro ?_ ?_)
    rintro ⟨b14, u14⟩ w12 ⟨hb14, ⟨q12⟩⟩ _
    dsimp only at hb14
    subst hb14
    dsimp only
    have hw1 : IntKind.wrap .i64 ((n : Int) + 1) = ((n + 1 : Nat) : Int) := by rw [wrap_i64 (by omega) (by omega)]; omega
    refine cond_f rfl ?_
    rw [hw1]
    refine ⟨by omega, ?_⟩
    -- where the parts are cut
    refine ⟨fun s w => w = w12 ∧ 0 ≤ s.1 ∧ s.1 ≤ n, ?_, ?_⟩
    · have hb := tmod_bd bit (m := ((n + 1 : Nat) : Int)) (by omega)
      refine cond_d (fun hlt => ?_) (fun hge => ?_)
      · rw [wrap_i64 (by omega) (by omega)]
        exact ⟨rfl, by dsimp only; omega, by dsimp only; omega⟩
      · exact ⟨rfl, by dsimp only; omega, by dsimp only; omega⟩
    rintro ⟨k0, u18⟩ w13 ⟨hw13, hk0, hkn⟩ _
    dsimp only at hk0 hkn ⊢
    rw [hw13]
    clear hw13 w13
    obtain ⟨k, rfl⟩ : ∃ k : Nat, k0 = (k : Int) := ⟨k0.toNat, by omega⟩
    have Tx12 := Tx.kp0 q12
    have rX12 := Tx12.rd
    have hnib12 := hnib11.kp0 q12
    have hnc := Tx.2.1
    have hself : (((sumN X : Nat) : Int) != ((sumN X : Nat) : Int)) = false := by simp
    refine ⟨fun s w => s.1 = false ∧ Since w12 w, ?_, ?_⟩
    · refine ⟨fun w' => Since w12 w', ⟨Kp.drew w12 1⟩, ⟨by omega, by omega⟩, trivial, trivial, ⟨by omega, by simp only [hiOf]; omega⟩, ?_⟩
      rw [subA_zero, Int.toNat_natCast]
      have q : Since w12 w12.drew := ⟨Kp.drew w12 1⟩
      have key : ∀ {m : Nat} {cs : Array Value} {w1 w : World} {b : Nat} {T : TypeId} {R : Ending → World → Prop}, Blk w1 b cs T → (m = 1 ∧ cs = #[.slice ax n cx] ∨ m = 3 ∧ cs = #[.slice ax k cx, .slice none 0 0, .slice (subA ax cx k 1) (n - k) (cx - k)]) → Since w12 w → Kp no w1 w → R (.returned (.int .u32 (sumN X : Int))) w → GoC Tryd.prog F_field_Sum #[.slice (some ⟨b, 0, none⟩) m m] w R := by
        intro m cs w1 w b T R hb hcs q kk h
        rcases hcs with ⟨rfl, rfl⟩ | ⟨rfl, rfl⟩
        · exact sum1_c hb rX12 hXl hnl hnib12 q.kp kk h
        refine sum_c (l := [⟨ax, k, cx, X.take k⟩, ⟨none, 0, 0, []⟩, ⟨subA ax cx k 1, n - k, cx - k, X.drop k⟩]) (hnib12.kp0 q.kp) ((Rd.of_blk hb fun i v hv => by rw [Nat.zero_add, ← Array.getElem?_toList]; exact hv).kp0 kk) ?_ (by simp) ?_
        · intro p hp
          simp only [List.mem_cons, List.not_mem_nil, or_false] at hp
          rcases hp with rfl | rfl | rfl
          · refine ⟨?_, by dsimp only; rw [List.length_take]; omega, by dsimp only; omega⟩
            dsimp only
            rw [bvs, List.map_take]
            exact (rX12.kp0 q.kp).take k
          · exact ⟨Rd.nil _ _, rfl, by decide⟩
          · exact ⟨rd_drop (rX12.kp0 q.kp) (by omega), by dsimp only; rw [List.length_drop]; omega, by dsimp only; omega⟩
        · have hf : flat [⟨ax, k, cx, X.take k⟩, ⟨none, 0, 0, []⟩, ⟨subA ax cx k 1, n - k, cx - k, X.drop k⟩] = X := by simp [flat]
          rw [hf]
          exact h
      repeat' (first
        | exact ⟨hself, by assumption⟩
        | refine And.intro (show Since w12 _ by assumption) ?_
        | refine AlF.intro fun b w' _ hblk k _ => (fun (q' : Since w12 w') => ?_) (Since.step (by assumption) k)
        | refine key (by assumption) (by first | exact Or.inl ⟨rfl, rfl⟩ | exact Or.inr ⟨rfl, rfl⟩) (by assumption) (by repeat (first | exact Kp.refl _ _ | refine Kp.trans0 ?_ (by assumption))) ⟨_, rfl, ?_⟩
        | refine And.intro ?_ ?_)
    rintro ⟨b19, u19⟩ w14 ⟨hb19, ⟨q14⟩⟩ _
    dsimp only at hb19
    subst hb19
    dsimp only
    refine cond_f rfl ?_
    have hw8 : IntKind.wrap .i64 (8 * (n : Int)) = ((8 * n : Nat) : Int) := by rw [wrap_i64 (by omega) (by omega)]; omega
    rw [hw8]
    have n14 : Kp no w w14 := ((k1.trans0 k11).trans0 q12).trans0 q14
    refine cond_d (fun _ => h _ n14) (fun h32 => ?_)
    refine cond_eq (fun _ => h _ n14) (fun hm0 => ?_)
    have hw31 : IntKind.wrap .i64 (((8 * n : Nat) : Int) - 31) = ((8 * n - 31 : Nat) : Int) := by rw [wrap_i64 (by omega) (by omega)]; omega
    rw [hw31]
    refine ⟨by omega, ?_⟩
    refine ⟨fun s w => w = w14 ∧ 0 ≤ s.1 ∧ s.1 < ((8 * n - 31 : Nat) : Int), ?_, ?_⟩
    · have hb := tmod_bd bit (m := ((8 * n - 31 : Nat) : Int)) (by omega)
      refine cond_d (fun hlt => ?_) (fun hge => ?_)
      · rw [wrap_i64 (by omega) (by omega)]
        exact ⟨rfl, by dsimp only; omega, by dsimp only; omega⟩
      · exact ⟨rfl, by dsimp only; omega, by dsimp only; omega⟩
    rintro ⟨at0, u25⟩ w15 ⟨hw15, hat0, hat1⟩ _
    dsimp only at hat0 hat1 ⊢
    rw [hw15]
    clear hw15 w15
    obtain ⟨at_, rfl⟩ : ∃ k : Nat, at0 = (k : Int) := ⟨at0.toNat, by omega⟩
    have Tx14 := Tx12.kp0 q14
    have hnib14 := hnib12.kp0 q14
    refine append_new er_u8 Tx14.rd (by rw [bvs_len]; omega) (fun hh => by subst hh; exact Tx.zero.1) bvs_one (by omega) (by omega) fun a8 c8 w16 hs16 k16 hf16 _ => ⟨a8, _, c8, rfl, ?_⟩
    have n16 : Kp no w w16 := n14.trans0 k16
    have old16 : ∀ {w' : World}, Kp (Is a8) w16 w' → Kp no w14 w' := fun k => k16.trans k (fun _ _ h => h) fun j hj hh => by have := hf16 j hh; omega
    refine loopN (fun s w' => Kp (Is a8) w16 w' ∧ ∃ i, i ≤ 32 ∧ s.1 = ((i : Nat) : Int) ∧ ∃ t : List UInt8, t.length = n ∧ Sl w' T_uint8 1 a8 n c8 (bvs t) ∧ ∀ p, p < 8 * n → bitAt t p = Bool.xor (bitAt X p) (decide (at_ ≤ p ∧ p < at_ + i) && m.testBit (p - at_)))
      (fun s _ => 32 - s.1.toNat) ⟨Kp.refl _ _, 0, by omega, rfl, X, hXl, hs16, fun p _ => ?_⟩ ?_
    · have : ¬ (at_ ≤ p ∧ p < at_ + 0) := by omega
      rw [decide_eq_false this, Bool.false_and, Bool.xor_false]
    rintro ⟨i0, u27⟩ w17 ⟨k17, i, hi, hi0, t, ht, hst, hbits⟩ _
    dsimp only at hi0 ⊢
    subst hi0
    refine cond_d (fun hlt => ?_) (fun hge => ?_)
    · refine ⟨fun _ w' => Kp (Is a8) w16 w' ∧ ∃ t : List UInt8, t.length = n ∧ Sl w' T_uint8 1 a8 n c8 (bvs t) ∧ ∀ p, p < 8 * n → bitAt t p = Bool.xor (bitAt X p) (decide (at_ ≤ p ∧ p < at_ + (i + 1)) && m.testBit (p - at_)), ?_, ?_⟩
      · refine ⟨by omega, ?_⟩
        rw [bit_code hm (by omega)]
        have e0 : IntKind.wrap .i64 ((at_ : Int) + (i : Int)) = ((at_ + i : Nat) : Int) := by rw [wrap_i64 (by omega) (by omega)]; omega
        have e1 : IntKind.wrap .i64 (Int.tdiv ((at_ + i : Nat) : Int) 8) = (((at_ + i) / 8 : Nat) : Int) := by
          rw [Int.tdiv_eq_ediv_of_nonneg (by omega), wrap_i64 (by omega) (by omega)]; omega
        have e2 : Int.tmod ((at_ + i : Nat) : Int) 8 = (((at_ + i) % 8 : Nat) : Int) := by
          rw [Int.tmod_eq_emod_of_nonneg (by omega)]; omega
        rw [e0, e1, e2]
        refine cond_b (fun hbit => ?_) (fun hbit => ?_)
        · refine ⟨by decide, by decide, ?_⟩
          have hq : (at_ + i) / 8 < t.length := by omega
          refine hst.rd.idx (by omega) (by omega) (by rw [bvs_len]; omega) fun b o hg hc => ?_
          refine ⟨((t[(at_ + i) / 8]).toNat : Int), ?_, by decide, by omega, ?_⟩
          · rw [Int.toNat_natCast, add_at]; exact hc _ _ (bvs_get hq)
          refine hst.rd.idx (by omega) (by omega) (by rw [bvs_len]; omega) fun b2 o2 hg2 _ => ?_
          rw [Int.toNat_natCast, add_at, xor_code (by omega)]
          refine (hst.kp0 (Kp.drew w17 1)).put (by omega) hg2 fun w18 hs18 k18 _ => ?_
          rw [bvs, ← List.map_set] at hs18
          refine ⟨k17.trans0 (((Kp.drew w17 1).of_no).trans0 k18), _, by rw [List.length_set]; exact ht, hs18, fun p hp => ?_⟩
          rw [bitAt_set hq (j := (at_ + i) % 8) (by omega) (xor_toNat (by omega)), hbits p hp, Nat.div_add_mod]
          by_cases hpe : p = at_ + i
          · subst hpe
            have h1 : ¬ (at_ ≤ at_ + i ∧ at_ + i < at_ + i) := by omega
            have h2 : at_ ≤ at_ + i ∧ at_ + i < at_ + (i + 1) := by omega
            have h3 : at_ + i - at_ = i := by omega
            rw [decide_eq_false h1, decide_eq_true h2, h3, hbit]
            simp
          · have h1 : (at_ ≤ p ∧ p < at_ + i) = (at_ ≤ p ∧ p < at_ + (i + 1)) := by apply propext; omega
            simp only [h1]
            rw [decide_eq_false hpe, Bool.xor_false]
        · refine ⟨k17, t, ht, hst, fun p hp => ?_⟩
          rw [hbits p hp]
          by_cases hpe : p = at_ + i
          · subst hpe
            have h3 : at_ + i - at_ = i := by omega
            rw [h3, hbit]
            simp
          · have h1 : (at_ ≤ p ∧ p < at_ + i) = (at_ ≤ p ∧ p < at_ + (i + 1)) := by apply propext; omega
            simp only [h1]
      · rintro u w18 ⟨k18, t, ht, hst, hbits⟩ _
        have hwi : IntKind.wrap .i64 ((i : Int) + 1) = ((i + 1 : Nat) : Int) := by rw [wrap_i64 (by omega) (by omega)]; omega
        rw [hwi]
        exact ⟨⟨k18, i + 1, by omega, rfl, t, ht, hst, hbits⟩, by simp only [Int.toNat_natCast]; omega⟩
    · have hi32 : i = 32 := by omega
      subst hi32
      have hne : sumN t ≠ sumN X := sum_turned (at_ := at_) (m := m) (by omega) (by omega) (by omega) hm (by rw [hXl]; exact hbits)
      have n17 : Kp no w14 w17 := old16 k17
      refine AlF.intro fun b1 w18 _ hblk1 k18 _ => ?_
      refine sum1_c hblk1 hst.rd ht hnl (hnib14.kp0 n17) k18 (Kp.refl _ _) ⟨_, rfl, ?_⟩
      refine AlF.intro fun b2 w19 _ hblk2 k19 _ => ?_
      refine sum1_c hblk2 Tx14.rd hXl hnl hnib14 ((n17.trans0 k18).trans0 k19) (Kp.refl _ _) ⟨_, rfl, ?_⟩
      have : (((sumN t : Nat) : Int) != ((sumN X : Nat) : Int)) = true := by simp only [bne_iff_ne, ne_eq]; omega
      rw [this]
      exact h _ (((n14.trans0 n17).trans0 k18).trans0 k19)
end Go.Proofs.YtplfoedgekdjgaaDoor
