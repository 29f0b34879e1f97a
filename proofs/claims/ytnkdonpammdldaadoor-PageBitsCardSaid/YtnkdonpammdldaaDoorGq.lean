/- The contract of the document's Decode. Conditions: none. -/
import Derived.Test.YtnkdonpammdldaaDoorGp
set_option linter.unusedVariables false
set_option linter.unusedSimpArgs false
namespace Go.Proofs.YtnkdonpammdldaaDoor
open Go Go.RowKit

theorem rdN_two {B : List UInt8} {i : Nat} (h : i + 1 < B.length) : rdN B i 2 = byteN B i + 256 * byteN B (i + 1) := by
  unfold rdN
  rw [List.drop_eq_getElem_cons (by omega : i < B.length), List.take_succ_cons, leN, List.drop_eq_getElem_cons h, List.take_succ_cons, leN, byteN_get (by omega), byteN_get h]
  rfl

theorem decode7_c {w : World} {a : Option Addr} {l c : Nat} {B : List UInt8} {num : Int} {R : Ending → World → Prop} (hr : Rd w a (bvs B)) (hl : B.length = l)
    (h0 : decF B num ≠ 0 → ∀ w', Kp no w w' → R (.returned (.tuple #[.agg pg0.cs, .int .i64 (decF B num : Int)])) w')
    (h1 : decF B num = 0 → ∀ (p : PgV) w', p.num = num → p.lsn = (dLsn B : Int) → p.Own w' (decCs B) (decGs B) → Kp no w w' → Fresh w p.ca → Fresh w p.ga → (p.ca = none ∨ p.ga = none) → R (.returned (.tuple #[.agg p.cs, .int .i64 0])) w') :
    GoC Tryd.prog F_ref07_Decode #[.slice a l c, .int .i64 num] w R := by
  refine S_ref07_Decode ?_
  unfold W_ref07_Decode
  refine AlF.intro fun b1 w1 hb1e hb1 k1 s1 => ?_
  have bad : ∀ (e : Nat) (ws : World), Kp no w1 ws → decF B num = e → e ≠ 0 → StF ws ⟨b1, 0, none⟩ (.int .i64 0) fun w1 => StF w1 (Addr.add ⟨b1, 0, none⟩ 1) (.int .i64 0) fun w2 => StF w2 (Addr.add ⟨b1, 0, none⟩ 2) (.slice none 0 0) fun w3 => StF w3 (Addr.add ⟨b1, 0, none⟩ 3) (.slice none 0 0) fun w4 =>
      ∃ (n2 : Int) (n3 : Int) (a2 : Option Addr) (l2 c2 : Nat) (a3 : Option Addr) (l3 c3 : Nat), (w4.cell? ⟨b1, 0, none⟩ = some (.int .i64 n2) ∧ w4.cell? (Addr.add ⟨b1, 0, none⟩ 1) = some (.int .i64 n3) ∧ w4.cell? (Addr.add ⟨b1, 0, none⟩ 2) = some (.slice a2 l2 c2) ∧ w4.cell? (Addr.add ⟨b1, 0, none⟩ 3) = some (.slice a3 l3 c3) ∧ True) ∧
        R (.returned (.tuple #[.agg #[.int .i64 n2, .int .i64 n3, .slice a2 l2 c2, .slice a3 l3 c3], .int .i64 (e : Int)])) w4 := by
    intro e ws ks he hne
    refine ret4 (K := fun q w' => R (.returned (.tuple #[.agg q, .int .i64 (e : Int)])) w') (ks.blk hb1 id) rfl fun w' _ k' _ => ?_
    have := h0 (by rw [he]; exact hne) w' (kp_blk (k1.trans0 ks) (by omega) k')
    rw [he] at this
    exact this
  have hk11 : Kp no w1 w1 := Kp.refl _ _
  refine ⟨fun _ w' => w' = w1 ∧ (0 ≤ num ∧ num ≤ 63), ?_, ?_⟩
  · refine cond_d (fun g1 => bad 4 w1 hk11 (by unfold decF; rw [if_pos (by omega)]) (by omega)) fun g1 => cond_d (fun g2 => bad 4 w1 hk11 (by unfold decF; rw [if_pos (by omega)]) (by omega)) fun g2 => ⟨rfl, by omega⟩
  rintro u3 w10 ⟨hw10, g1⟩ _
  rw [hw10]
  refine ⟨fun _ w' => w' = w1 ∧ B.length = 1024, ?_, ?_⟩
  · exact cond_ne (fun g2 => bad 42 w1 hk11 (by unfold decF; rw [if_neg (by omega), if_pos (by omega)]) (by omega)) fun g2 => ⟨rfl, by omega⟩
  rintro u5 w15 ⟨hw15, hB⟩ _
  rw [hw15]
  have hb : l < 70368744177664 := by omega
  have hr1 := hr.kp0 k1
  refine ⟨fun _ w' => w' = w1 ∧ allZ B = false, ?_, ?_⟩
  · refine zeros7_c hr1 hl hb (i := 0) rfl (by omega) ⟨_, rfl, ?_⟩
    rw [List.drop_zero]
    refine cond_b (fun g3 => ?_) (fun g3 => ⟨rfl, g3⟩)
    refine ret4 (K := fun q w' => R (.returned (.tuple #[.agg q, .int .i64 0])) w') hb1 rfl fun w' _ k' _ => ?_
    have e0 : decF B num = 0 := by unfold decF; rw [if_neg (by omega), if_neg (by omega), if_pos g3]
    have en : dN B = 0 := allZ_rd g3 4 2
    refine h1 e0 (PgV.zero num) w' rfl (by unfold dLsn; rw [allZ_rd g3]; rfl) ?_ (kp_blk k1 (by omega) k') (fresh_none _) (fresh_none _) (.inl rfl)
    unfold decCs decGs
    rw [en, csK_zero, gsK_zero]
    exact own_zero _ _
  rintro u7 w21 ⟨hw21, g3⟩ _
  rw [hw21]
  have dn := rdN_lt B 4 2
  have dl := rdN_lt B 8 4
  have dm := rdN_lt B 2 2
  have ds := rdN_lt B 12 4
  have hps : psumN B < 4294967296 := Nat.xor_lt_two_pow (n := 32) (fold_lt _ _ (by omega)) (by omega)
  change dN B < _ at dn
  change dLsn B < _ at dl
  change dNum B < _ at dm
  change dSum B < _ at ds
  have w1n : IntKind.wrap .i64 (dN B : Int) = (dN B : Int) := wrap_i64 (by omega) (by omega)
  have w2n : IntKind.wrap .i64 (dLsn B : Int) = (dLsn B : Int) := wrap_i64 (by omega) (by omega)
  refine get7_c hr1 hl hb (i := 4) (s := 2) rfl rfl (by omega) (by omega) ⟨_, rfl, ?_⟩
  refine get7_c hr1 hl hb (i := 8) (s := 4) rfl rfl (by omega) (by omega) ⟨_, rfl, ?_⟩
  change JoinF (S := Int × Unit) _ _
  have e1 : (rdN B 4 2) = dN B := rfl
  have e2 : (rdN B 8 4) = dLsn B := rfl
  rw [e1, e2, w1n, w2n]
  refine ⟨fun s w' => w' = w1 ∧ s.1 = 31, ⟨rfl, rfl⟩, ?_⟩
  rintro ⟨m10, u10⟩ w24 ⟨hw24, hm10⟩ _
  dsimp only at hm10
  subst hm10
  rw [hw24]
  refine ⟨fun s w' => w' = w1 ∧ s.1 = (dMost B : Int), ?_, ?_⟩
  · refine idxB hr1 hl (i := 1) (by omega) rfl (K := fun n8 => cond (n8 == 2) _ _) (cond_eq (fun g6 => ⟨rfl, ?_⟩) (fun g6 => ⟨rfl, ?_⟩))
    · unfold dMost; rw [if_pos (by omega)]; rfl
    · unfold dMost; rw [if_neg (by omega)]; rfl
  rintro ⟨m12, u12⟩ w25 ⟨hw25, hm12⟩ _
  dsimp only at hm12
  subst hm12
  rw [hw25]
  have hd : byteN B 0 = 113 → (byteN B 1 = 1 ∨ byteN B 1 = 2) → decF B num = if dSum B ≠ psumN B then 81 else if (dNum B : Int) ≠ num then 82 else if ¬ (1 ≤ dN B ∧ dN B ≤ dMost B) ∨ ¬ (1 ≤ dLsn B ∧ dLsn B ≤ 2147483647) then 23 else if contP (decCs B) (decGs B) ≠ 0 then contP (decCs B) (decGs B) else if dSp B ≠ 0 ∨ allZ (B.drop (16 + dN B * dWide B)) = false then 23 else 0 := by
    intro g4 g5
    unfold decF
    rw [if_neg (by omega), if_neg (by omega), if_neg (by rw [g3]; decide), if_neg (by omega), if_neg (by omega)]
  refine ⟨fun _ w' => w' = w1 ∧ byteN B 0 = 113 ∧ (byteN B 1 = 1 ∨ byteN B 1 = 2) ∧ dSum B = psumN B ∧ (dNum B : Int) = num ∧ (1 ≤ dN B ∧ dN B ≤ dMost B) ∧ (1 ≤ dLsn B ∧ dLsn B ≤ 2147483647), ?_, ?_⟩
  · refine idxB hr1 hl (i := 0) (by omega) rfl (K := fun n8 => cond (n8 != 113) _ _) (cond_ne (fun g4 => bad 80 w1 hk11 (by unfold decF; rw [if_neg (by omega), if_neg (by omega), if_neg (by rw [g3]; decide), if_pos (by omega)]) (by omega)) (fun g4 => ?_))
    refine idxB hr1 hl (i := 1) (by omega) rfl (K := fun n8 => cond (n8 != 1) _ _) (cond_ne (fun g5 => ?_) (fun g5 => ?_))
    · refine idxB hr1 hl (i := 1) (by omega) rfl (K := fun n8 => cond (n8 != 2) _ _) (cond_ne (fun g6 => bad 70 w1 hk11 (by unfold decF; rw [if_neg (by omega), if_neg (by omega), if_neg (by rw [g3]; decide), if_neg (by omega), if_pos (by omega)]) (by omega)) (fun g6 => ?_))
      have hkk : byteN B 1 = 1 ∨ byteN B 1 = 2 := by omega
      have hd := hd (by omega) hkk
      refine get7_c hr1 hl hb (i := 12) (s := 4) rfl rfl (by omega) (by omega) ⟨_, rfl, sum7_c hr1 hl (by omega) hb ⟨_, rfl, ?_⟩⟩
      rw [wrap_u64 (by omega) (by omega)]
      refine cond_ne (fun g7 => bad 81 w1 hk11 (by rw [hd, if_pos (fun hh => g7 (by unfold dSum at hh; omega))]) (by omega)) (fun g7 => ?_)
      have g7' : dSum B = psumN B := by unfold dSum; omega
      refine get7_c hr1 hl hb (i := 2) (s := 2) rfl rfl (by omega) (by omega) ⟨_, rfl, ?_⟩
      rw [wrap_u64 (by omega) (by omega)]
      refine cond_ne (fun g8 => bad 82 w1 hk11 (by rw [hd, if_neg (by omega), if_pos (show ((dNum B : Nat) : Int) ≠ num from g8)]) (by omega)) (fun g8 => ?_)
      have g8' : (dNum B : Int) = num := g8
      refine cond_d (fun g9 => bad 23 w1 hk11 (by rw [hd, if_neg (by omega), if_neg (by omega), if_pos (by omega)]) (by omega)) (fun g9 => ?_)
      refine cond_d (fun g10 => bad 23 w1 hk11 (by rw [hd, if_neg (by omega), if_neg (by omega), if_pos (by omega)]) (by omega)) (fun g10 => ?_)
      refine cond_d (fun g11 => bad 23 w1 hk11 (by rw [hd, if_neg (by omega), if_neg (by omega), if_pos (by omega)]) (by omega)) (fun g11 => ?_)
      refine cond_d (fun g12 => bad 23 w1 hk11 (by rw [hd, if_neg (by omega), if_neg (by omega), if_pos (by omega)]) (by omega)) (fun g12 => ?_)
      exact ⟨rfl, by omega, hkk, g7', g8', by omega, by omega⟩
    · have hkk : byteN B 1 = 1 ∨ byteN B 1 = 2 := by omega
      have hd := hd (by omega) hkk
      refine get7_c hr1 hl hb (i := 12) (s := 4) rfl rfl (by omega) (by omega) ⟨_, rfl, sum7_c hr1 hl (by omega) hb ⟨_, rfl, ?_⟩⟩
      rw [wrap_u64 (by omega) (by omega)]
      refine cond_ne (fun g7 => bad 81 w1 hk11 (by rw [hd, if_pos (fun hh => g7 (by unfold dSum at hh; omega))]) (by omega)) (fun g7 => ?_)
      have g7' : dSum B = psumN B := by unfold dSum; omega
      refine get7_c hr1 hl hb (i := 2) (s := 2) rfl rfl (by omega) (by omega) ⟨_, rfl, ?_⟩
      rw [wrap_u64 (by omega) (by omega)]
      refine cond_ne (fun g8 => bad 82 w1 hk11 (by rw [hd, if_neg (by omega), if_pos (show ((dNum B : Nat) : Int) ≠ num from g8)]) (by omega)) (fun g8 => ?_)
      have g8' : (dNum B : Int) = num := g8
      refine cond_d (fun g9 => bad 23 w1 hk11 (by rw [hd, if_neg (by omega), if_neg (by omega), if_pos (by omega)]) (by omega)) (fun g9 => ?_)
      refine cond_d (fun g10 => bad 23 w1 hk11 (by rw [hd, if_neg (by omega), if_neg (by omega), if_pos (by omega)]) (by omega)) (fun g10 => ?_)
      refine cond_d (fun g11 => bad 23 w1 hk11 (by rw [hd, if_neg (by omega), if_neg (by omega), if_pos (by omega)]) (by omega)) (fun g11 => ?_)
      refine cond_d (fun g12 => bad 23 w1 hk11 (by rw [hd, if_neg (by omega), if_neg (by omega), if_pos (by omega)]) (by omega)) (fun g12 => ?_)
      exact ⟨rfl, by omega, hkk, g7', g8', by omega, by omega⟩
  rintro u22 w88 ⟨hw88, g4, g5, g7, g8, g9, g10⟩ _
  rw [hw88]
  have hd := hd g4 g5
  rw [if_neg (by omega), if_neg (by omega), if_neg (by omega)] at hd
  have hdm : dN B ≤ 84 ∧ (byteN B 1 = 2 → dN B ≤ 84 ∧ dWide B = 12) ∧ (byteN B 1 ≠ 2 → dN B ≤ 31 ∧ dWide B = 32) := by
    have := g9.2
    unfold dMost at this
    unfold dWide
    split at this <;> rename_i hh
    · exact ⟨by omega, fun _ => ⟨by omega, if_pos hh⟩, fun h => absurd hh h⟩
    · exact ⟨by omega, fun h => absurd h hh, fun _ => ⟨by omega, if_neg hh⟩⟩
  refine AlF.intro fun b2 w48 hb2e hb2 k48 s48 => ?_
  refine st4 hb2 rfl fun w52 hb52 k52 s52 => ?_
  have hb1lt := hb1.lt
  have kk52 : Kp no w1 w52 := kp_blk k48 (by omega) k52
  have kw52 : Kp no w w52 := k1.trans0 kk52
  have hs52 : w52.heap.size = b2 + 1 := by omega
  refine ⟨fun s w' => s.1 = ((16 + dN B * dWide B : Nat) : Int) ∧ ∃ pg : PgV, Kp (fun j => j = b2) w52 w' ∧ Blk w' b2 pg.cs T_quotaref07_Page ∧ pg.num = num ∧ pg.lsn = (dLsn B : Int) ∧ pg.Own w' (decCs B) (decGs B) ∧ Fresh w52 pg.ca ∧ Fresh w52 pg.ga ∧ (pg.ca = none ∨ pg.ga = none), ?_, ?_⟩
  · refine ⟨fun s w' => w' = w52 ∧ s.1 = 0, ⟨rfl, rfl⟩, ?_⟩
    rintro ⟨s25, u25⟩ w94 ⟨hw94, hs25⟩ _
    dsimp only at hs25
    subst hs25
    rw [hw94]
    refine loopN (fun s w' => ∃ (k : Nat) (pg : PgV), k ≤ dN B ∧ s.2.1 = (k : Int) ∧ s.1 = ((16 + k * dWide B : Nat) : Int) ∧ Kp (fun j => j = b2) w52 w' ∧ Blk w' b2 pg.cs T_quotaref07_Page ∧ pg.num = num ∧ pg.lsn = (dLsn B : Int) ∧ pg.Own w' (csK B k) (gsK B k) ∧ Fresh w52 pg.ca ∧ Fresh w52 pg.ga ∧ (byteN B 1 = 2 → pg.ca = none) ∧ (byteN B 1 ≠ 2 → pg.ga = none)) (fun s _ => dN B - s.2.1.toNat)
      ⟨0, ⟨num, dLsn B, none, 0, 0, none, 0, 0⟩, Nat.zero_le _, rfl, by rw [Nat.zero_mul]; rfl, Kp.refl _ _, hb52, rfl, rfl, by rw [csK_zero, gsK_zero]; exact ⟨Sl.nil _ _ _, Nat.zero_lt_succ _, Sl.nil _ _ _, Nat.zero_lt_succ _⟩, fresh_none _, fresh_none _, fun _ => rfl, fun _ => rfl⟩ ?_
    rintro ⟨end0, k0, u⟩ w53 ⟨k, pg, hk, hk0, hend, k53, hb53, hnum, hlsn, hown, fca, fga, q2, qn2⟩ _
    dsimp only at hk0 hend ⊢
    subst hk0 hend
    refine ⟨fun _ w' => w' = w53 ∧ k < dN B, ?_, ?_⟩
    · refine cond_d (fun hlt => ⟨rfl, by omega⟩) (fun hge => ?_)
      have hke : k = dN B := by omega
      subst hke
      refine ⟨rfl, pg, k53, hb53, hnum, hlsn, hown, fca, fga, ?_⟩
      by_cases h2 : byteN B 1 = 2
      · exact .inl (q2 h2)
      · exact .inr (qn2 h2)
    rintro u27 w96 ⟨hw96, hkd⟩ _
    rw [hw96]
    have k2553 : Kp no w1 w53 := kk52.trans k53 (fun _ _ h => h) fun j hj hh => by omega
    have kw53 : Kp no w w53 := k1.trans0 k2553
    have e3 : IntKind.wrap .i64 ((k : Int) + 1) = ((k + 1 : Nat) : Int) := by rw [wrap_i64 (by omega) (by omega)]; omega
    rw [e3]
    have hown' := hown.cl
    have hown'' := hown.gl
    rw [csK_len] at hown'
    rw [gsK_len] at hown''
    have hr53 := hr.kp0 kw53
    refine idxB hr53 hl (i := 1) (by omega) rfl (K := fun n8 => cond (n8 == 1) _ _) (cond_eq (fun t2 => ?_) (fun t2 => ?_))
    · have t2' : byteN B 1 ≠ 2 := by omega
      obtain ⟨hd84, hw12⟩ := hdm.2.2 t2'
      rw [if_neg t2'] at hown' hown''
      rw [hw12]
      have f0 : ((16 + k * 32 : Nat) : Int) = ((16 + 32 * k : Nat) : Int) := by omega
      have f1 : IntKind.wrap .i64 (((16 + 32 * k : Nat) : Int) + 8) = ((16 + 32 * k + 8 : Nat) : Int) := by rw [wrap_i64 (by omega) (by omega)]; omega
      have f2 : IntKind.wrap .i64 (((16 + 32 * k : Nat) : Int) + 16) = ((16 + 32 * k + 16 : Nat) : Int) := by rw [wrap_i64 (by omega) (by omega)]; omega
      have f3 : IntKind.wrap .i64 (((16 + 32 * k : Nat) : Int) + 4) = ((16 + 32 * k + 4 : Nat) : Int) := by rw [wrap_i64 (by omega) (by omega)]; omega
      have f4 : IntKind.wrap .i64 (((16 + 32 * k : Nat) : Int) + 24) = ((16 + 32 * k + 24 : Nat) : Int) := by rw [wrap_i64 (by omega) (by omega)]; omega
      have f5 : IntKind.wrap .i64 (((16 + 32 * k : Nat) : Int) + 32) = ((16 + (k + 1) * 32 : Nat) : Int) := by rw [wrap_i64 (by omega) (by omega)]; omega
      rw [f0, f1, f2, f3, f4, f5]
      refine get7_c hr53 hl hb (i := 16 + 32 * k + 8) (s := 8) rfl rfl (by omega) (by omega) ⟨_, rfl, ?_⟩
      refine get7_c hr53 hl hb (i := 16 + 32 * k + 16) (s := 8) rfl rfl (by omega) (by omega) ⟨_, rfl, ?_⟩
      refine AlF.intro fun b3 w54 hb3e hb3 k54 s54 => ?_
      refine StF.intro hb3 (by simp) fun w55 hb55 k55 s55 => ?_
      rw [add_at b3 0 1]
      refine StF.intro hb55 (by simp) fun w56 hb56 k56 s56 => ?_
      have nin : ∀ j, Is pg.ca j → w52.heap.size ≤ j := fca
      have hgalt := hown.c.lt
      have k5356 : Kp no w53 w56 := kp_blk k54 (by omega) (k55.trans0 k56)
      have hb256 := k5356.blk hb53 id
      have kd : Kp no w56 w56.drew := Kp.drew w56 1
      refine ⟨fun w' => Kp (Is pg.ca) w56 w', kd.of_no, pg.ca, pg.cl, pg.cc, fun w' kz => pc2 (kz.blk hb256 fun hh => by have := nin _ hh; omega), ?_⟩
      refine ⟨i64 (rdN B (16 + 32 * k + 8) 8), i64 (rdN B (16 + 32 * k + 16) 8), fun w' kz => ?_, ?_⟩
      · have hz3 := kz.blk hb56 fun hh => by have := hgalt _ hh; omega
        exact ⟨hz3.cell 0, hz3.cell 1, trivial⟩
      have hr56 := hr53.kp0 (k5356.trans0 kd)
      refine get7_c hr56 hl hb (i := 16 + 32 * k) (s := 4) rfl rfl (by omega) (by omega) ⟨_, rfl, kd.of_no, ?_⟩
      refine get7_c hr56 hl hb (i := 16 + 32 * k + 4) (s := 4) rfl rfl (by omega) (by omega) ⟨_, rfl, kd.of_no, ?_⟩
      refine get7_c hr56 hl hb (i := 16 + 32 * k + 24) (s := 8) rfl rfl (by omega) (by omega) ⟨_, rfl, kd.of_no, ?_⟩
      refine AlF.intro fun b4 w57 hb4e hb4 k57 s57 => ⟨(kd.trans0 k57).of_no, ?_⟩
      have k5357 := (k5356.trans0 kd).trans0 k57
      have hn1 : Rd w57 (some ⟨b4, 0, none⟩) (ctrAt B k).cs := rd_cells hb4 rfl
      refine append_own er_ctr (hown.c.kp0 k5357) hn1 rfl (fun h => by cases h) (fun u hu => by simp only [CL.cs, List.mem_cons, List.not_mem_nil, or_false] at hu; rcases hu with rfl | rfl | rfl | rfl | rfl <;> rfl) (by omega) (by omega) fun a' c' w58 hs58 k58 hi58 _ _ => ⟨_, _, _, rfl, (kd.trans0 k57).of_no.trans0 k58, ?_⟩
      have hb58 : Blk w58 b2 pg.cs T_quotaref07_Page := k58.blk (k5357.blk hb53 id) fun hh => by have := nin _ hh; omega
      rw [add_at]
      refine StF.intro hb58 (by simp [PgV.cs]) fun w59 hb59 k59 s59 => ⟨⟨k + 1, { pg with ca := a', cl := pg.cl + 1, cc := c' }, by omega, rfl, rfl, ?_, hb59, hnum, hlsn, ?_, ?_, fga, fun h => absurd h t2', fun _ => qn2 t2'⟩, by simp only [Int.toNat_natCast]; omega⟩
      · exact (((k53.trans0 k5357.of_no).trans k58 (fun _ _ h => h) fun j hj hh => by have := nin j hh; omega).trans0 k59)
      · rw [csK_succ t2']
        have hcn := qn2 t2'
        have e0 : gsK B (k + 1) = gsK B k := by rw [gsK_succ2 t2', gsK_succ2 t2']
        rw [e0]
        refine Own_push_c (hs58.kp k59 fun j hj hh => ?_) (by omega) (((hown.g.kp0 k5357).kp k58 fun j hj => by rw [hcn] at hj; exact (is_none hj).elim).kp k59 fun j hj => by rw [hcn] at hj; exact (is_none hj).elim) hown.gb
        rcases hi58 j hj with h | h
        · have := nin j h; omega
        · have := k5357.size; have := k53.size; omega
      · intro j hj
        rcases hi58 j hj with h | h
        · exact nin j h
        · have := k5357.size; have := k53.size; omega
    · have t2' : byteN B 1 = 2 := by omega
      obtain ⟨hd84, hw12⟩ := hdm.2.1 t2'
      rw [if_pos t2'] at hown' hown''
      rw [hw12]
      have f0 : ((16 + k * 12 : Nat) : Int) = ((16 + 12 * k : Nat) : Int) := by omega
      have f3 : IntKind.wrap .i64 (((16 + 12 * k : Nat) : Int) + 4) = ((16 + 12 * k + 4 : Nat) : Int) := by rw [wrap_i64 (by omega) (by omega)]; omega
      have f5 : IntKind.wrap .i64 (((16 + 12 * k : Nat) : Int) + 12) = ((16 + (k + 1) * 12 : Nat) : Int) := by rw [wrap_i64 (by omega) (by omega)]; omega
      rw [f0, f3, f5]
      have nin : ∀ j, Is pg.ga j → w52.heap.size ≤ j := fga
      have hgalt := hown.g.lt
      have kd : Kp no w53 w53.drew := Kp.drew w53 1
      refine ⟨fun w' => Kp (Is pg.ga) w53 w', kd.of_no, pg.ga, pg.gl, pg.gc, fun w' kz => pc3 (kz.blk hb53 fun hh => by have := nin _ hh; omega), ?_⟩
      have hr56 := hr53.kp0 kd
      refine get7_c hr56 hl hb (i := 16 + 12 * k) (s := 4) rfl rfl (by omega) (by omega) ⟨_, rfl, kd.of_no, ?_⟩
      refine get7_c hr56 hl hb (i := 16 + 12 * k + 4) (s := 8) rfl rfl (by omega) (by omega) ⟨_, rfl, kd.of_no, ?_⟩
      refine AlF.intro fun b4 w57 hb4e hb4 k57 s57 => ⟨(kd.trans0 k57).of_no, ?_⟩
      have k5357 := kd.trans0 k57
      have hn1 : Rd w57 (some ⟨b4, 0, none⟩) (grpAt B k).cs := rd_cells hb4 rfl
      refine append_own er_grp (hown.g.kp0 k5357) hn1 rfl (fun h => by cases h) (fun u hu => by simp only [GL.cs, List.mem_cons, List.not_mem_nil, or_false] at hu; rcases hu with rfl | rfl <;> rfl) (by omega) (by omega) fun a' c' w58 hs58 k58 hi58 _ _ => ⟨_, _, _, rfl, (kd.trans0 k57).of_no.trans0 k58, ?_⟩
      have hb58 : Blk w58 b2 pg.cs T_quotaref07_Page := k58.blk (k5357.blk hb53 id) fun hh => by have := nin _ hh; omega
      rw [add_at]
      refine StF.intro hb58 (by simp [PgV.cs]) fun w59 hb59 k59 s59 => ⟨⟨k + 1, { pg with ga := a', gl := pg.gl + 1, gc := c' }, by omega, rfl, rfl, ?_, hb59, hnum, hlsn, ?_, fca, ?_, fun _ => q2 t2', fun h => absurd t2' h⟩, by simp only [Int.toNat_natCast]; omega⟩
      · exact (((k53.trans0 k5357.of_no).trans k58 (fun _ _ h => h) fun j hj hh => by have := nin j hh; omega).trans0 k59)
      · rw [gsK_succ t2']
        have hcn := q2 t2'
        have e0 : csK B (k + 1) = csK B k := by rw [csK_succ2 t2', csK_succ2 t2']
        rw [e0]
        refine Own_push_g (hs58.kp k59 fun j hj hh => ?_) (by omega) (((hown.c.kp0 k5357).kp k58 fun j hj => by rw [hcn] at hj; exact (is_none hj).elim).kp k59 fun j hj => by rw [hcn] at hj; exact (is_none hj).elim) hown.cb
        rcases hi58 j hj with h | h
        · have := nin j h; omega
        · have := k5357.size; have := k53.size; omega
      · intro j hj
        rcases hi58 j hj with h | h
        · exact nin j h
        · have := k5357.size; have := k53.size; omega
  rintro ⟨end0, u33⟩ w62 ⟨hend, pg, k62, hb62, hnum, hlsn, hown, fca, fga, hcg⟩ _
  dsimp only at hend
  subst hend
  refine rd4 (K := fun q => CallF Tryd.prog F_ref07_content #[.agg q] w62 _ _) hb62 ?_
  have k2562 : Kp no w1 w62 := kk52.trans k62 (fun _ _ h => h) fun j hj hh => by omega
  have kw62 : Kp no w w62 := k1.trans0 k2562
  refine content_c (p := pg) hown.to_in fun w63 k63 => ⟨_, rfl, ?_⟩
  have k163 := k2562.trans0 k63
  have kw63 := kw62.trans0 k63
  refine ⟨fun _ w' => w' = w63 ∧ contP (decCs B) (decGs B) = 0, ?_, ?_⟩
  · exact cond_ne (fun g11 => bad (contP (decCs B) (decGs B)) w63 k163 (by rw [hd, if_pos (by omega)]) (by omega)) (fun g11 => ⟨rfl, by omega⟩)
  rintro u36 w119 ⟨hw119, g11⟩ _
  rw [hw119]
  rw [if_neg (by omega)] at hd
  have hr63 := hr.kp0 kw63
  have hsp : dSp B = byteN B 6 + 256 * byteN B 7 := rdN_two (by omega)
  refine idxB hr63 hl (i := 6) (by omega) rfl (K := fun n8 => cond (n8 != 0) _ _) (cond_ne (fun g12 => bad 23 w63 k163 (by rw [hd, if_pos (.inl (by omega))]) (by omega)) (fun g12 => ?_))
  refine idxB hr63 hl (i := 7) (by omega) rfl (K := fun n8 => cond (n8 != 0) _ _) (cond_ne (fun g13 => bad 23 w63 k163 (by rw [hd, if_pos (.inl (by omega))]) (by omega)) (fun g13 => ?_))
  have hdw : dN B * dWide B ≤ 1008 := by
    by_cases h2 : byteN B 1 = 2
    · obtain ⟨x, y⟩ := hdm.2.1 h2; rw [y]; omega
    · obtain ⟨x, y⟩ := hdm.2.2 h2; rw [y]; omega
  refine zeros7_c hr63 hl hb (i := 16 + dN B * dWide B) rfl (by omega) ⟨_, rfl, ?_⟩
  refine cond_not (cond_b (fun g14 => ?_) (fun g14 => bad 23 w63 k163 (by rw [hd, if_pos (.inr g14)]) (by omega)))
  have hd0 : decF B num = 0 := by
    rw [hd, if_neg]
    rintro (h | h)
    · omega
    · rw [g14] at h; cases h
  have hb63 := k63.blk hb62 id
  refine ⟨pg.num, pg.lsn, pg.ca, pg.cl, pg.cc, pg.ga, pg.gl, pg.gc, ⟨pc0 hb63, pc1 hb63, pc2 hb63, pc3 hb63, trivial⟩, ?_⟩
  refine ret4 (K := fun q w' => R (.returned (.tuple #[.agg q, .int .i64 0])) w') (k163.blk hb1 id) rfl fun w' _ k' _ => ?_
  refine h1 hd0 pg w' hnum hlsn ((hown.kp0 k63).kp k' (fun j hj hh => ?_) (fun j hj hh => ?_)) (kp_blk kw63 (by omega) k') (fun j hj => ?_) (fun j hj => ?_) hcg
  · have := fca j hj; omega
  · have := fga j hj; omega
  · have := fca j hj; have := kw52.size; omega
  · have := fga j hj; have := kw52.size; omega
end Go.Proofs.YtnkdonpammdldaaDoor
