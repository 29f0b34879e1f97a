/- The contract of the package page's Decode. Conditions: the tables stand. -/
import Derived.Test.YtnkdonpammdldaaDoorGk
set_option linter.unusedVariables false
set_option linter.unusedSimpArgs false
namespace Go.Proofs.YtnkdonpammdldaaDoor
open Go Go.RowKit

theorem kp_blk {w w1 w2 : World} {b : Nat} (k : Kp no w w1) (h : w.heap.size ≤ b) (k' : Kp (fun j => j = b) w1 w2) : Kp no w w2 := k.trans k' (fun _ _ h => h) fun j hj hh => by omega

theorem Own_push_c {p : PgV} {w' : World} {cs : List CL} {gs : List GL} {c : CL} {a' : Option Addr} {c' : Nat} (h : Sl w' T_api_Counter 5 a' (p.cl + 1) c' (fC cs ++ c.cs)) (hb : p.cl + 1 < 70368744177664) (hg : Sl w' T_api_Group 2 p.ga p.gl p.gc (fG gs)) (hgb : p.gl < 70368744177664) :
    PgV.Own { p with ca := a', cl := p.cl + 1, cc := c' } w' (cs ++ [c]) gs :=
  ⟨by have e : fC (cs ++ [c]) = fC cs ++ c.cs := by rw [fC_app]; simp [fC, flatV]
      show Sl w' T_api_Counter 5 a' (p.cl + 1) c' (fC (cs ++ [c]))
      rw [e]; exact h, hb, hg, hgb⟩
theorem Own_push_g {p : PgV} {w' : World} {cs : List CL} {gs : List GL} {c : GL} {a' : Option Addr} {c' : Nat} (h : Sl w' T_api_Group 2 a' (p.gl + 1) c' (fG gs ++ c.cs)) (hb : p.gl + 1 < 70368744177664) (hg : Sl w' T_api_Counter 5 p.ca p.cl p.cc (fC cs)) (hgb : p.cl < 70368744177664) :
    PgV.Own { p with ga := a', gl := p.gl + 1, gc := c' } w' cs (gs ++ [c]) :=
  ⟨hg, hgb, by
      have e : fG (gs ++ [c]) = fG gs ++ c.cs := by rw [fG_app]; simp [fG, flatV]
      show Sl w' T_api_Group 2 a' (p.gl + 1) c' (fG (gs ++ [c]))
      rw [e]; exact h, hb⟩

theorem csK_succ {B : List UInt8} (h : byteN B 1 ≠ 2) (k : Nat) : csK B (k + 1) = csK B k ++ [ctrAt B k] := by unfold csK; rw [if_neg h, if_neg h, List.range_succ, List.map_append]; rfl
theorem csK_succ2 {B : List UInt8} (h : byteN B 1 = 2) (k : Nat) : csK B k = [] := by unfold csK; rw [if_pos h]
theorem gsK_succ {B : List UInt8} (h : byteN B 1 = 2) (k : Nat) : gsK B (k + 1) = gsK B k ++ [grpAt B k] := by unfold gsK; rw [if_pos h, if_pos h, List.range_succ, List.map_append]; rfl
theorem gsK_succ2 {B : List UInt8} (h : byteN B 1 ≠ 2) (k : Nat) : gsK B k = [] := by unfold gsK; rw [if_neg h]

theorem decode_c {w : World} {a : Option Addr} {l c : Nat} {B : List UInt8} {num : Int} {R : Ending → World → Prop} (hnib : Nib w) (hz : Szs w) (hr : Rd w a (bvs B)) (hl : B.length = l) (hlc : l ≤ c)
    (h0 : decF B num ≠ 0 → ∀ w', Kp no w w' → R (.returned (.tuple #[.agg pg0.cs, .int .i64 (decF B num : Int)])) w')
    (h1 : decF B num = 0 → ∀ (p : PgV) w', p.num = num → p.lsn = (dLsn B : Int) → p.Own w' (decCs B) (decGs B) → Kp no w w' → Fresh w p.ca → Fresh w p.ga → (p.ca = none ∨ p.ga = none) → R (.returned (.tuple #[.agg p.cs, .int .i64 0])) w') :
    GoC Tryd.prog F_page_Decode #[.slice a l c, .int .i64 num] w R := by
  refine S_page_Decode ?_
  unfold W_page_Decode
  refine AlF.intro fun b1 w1 hb1e hb1 k1 s1 => ?_
  have bad : ∀ (e : Nat) (ws : World), Kp no w1 ws → decF B num = e → e ≠ 0 → StF ws ⟨b1, 0, none⟩ (.int .i64 0) fun w1 => StF w1 (Addr.add ⟨b1, 0, none⟩ 1) (.int .i64 0) fun w2 => StF w2 (Addr.add ⟨b1, 0, none⟩ 2) (.slice none 0 0) fun w3 => StF w3 (Addr.add ⟨b1, 0, none⟩ 3) (.slice none 0 0) fun w4 =>
      ∃ (n2 : Int) (n3 : Int) (a2 : Option Addr) (l2 c2 : Nat) (a3 : Option Addr) (l3 c3 : Nat), (w4.cell? ⟨b1, 0, none⟩ = some (.int .i64 n2) ∧ w4.cell? (Addr.add ⟨b1, 0, none⟩ 1) = some (.int .i64 n3) ∧ w4.cell? (Addr.add ⟨b1, 0, none⟩ 2) = some (.slice a2 l2 c2) ∧ w4.cell? (Addr.add ⟨b1, 0, none⟩ 3) = some (.slice a3 l3 c3) ∧ True) ∧
        R (.returned (.tuple #[.agg #[.int .i64 n2, .int .i64 n3, .slice a2 l2 c2, .slice a3 l3 c3], .int .i64 (e : Int)])) w4 := by
    intro e ws ks he hne
    refine ret4 (K := fun q w' => R (.returned (.tuple #[.agg q, .int .i64 (e : Int)])) w') (ks.blk hb1 id) rfl fun w' _ k' _ => ?_
    have := h0 (by rw [he]; exact hne) w' (kp_blk (k1.trans0 ks) (by omega) k')
    rw [he] at this
    exact this
  refine ⟨fun _ w' => w' = w1 ∧ (0 ≤ num ∧ num ≤ 63) ∧ B.length = 1024 ∧ allZ B = false ∧ byteN B 0 = 113 ∧ (byteN B 1 = 1 ∨ byteN B 1 = 2), ?_, ?_⟩
  · refine in_c ⟨_, rfl, cond_not (cond_d (fun g1 => ?_) (fun g1 => bad 4 w1 (Kp.refl _ _) (by unfold decF; rw [if_pos g1]) (by omega)))⟩
    refine cond_ne (fun g2 => bad 42 w1 (Kp.refl _ _) (by unfold decF; rw [if_neg (by omega), if_pos (by omega)]) (by omega)) (fun g2 => ?_)
    have hB : B.length = 1024 := by omega
    have hb : l < 70368744177664 := by omega
    have hr1 := hr.kp0 k1
    refine zeros_c hr1 hl hb ⟨_, rfl, cond_b (fun g3 => ?_) (fun g3 => ?_)⟩
    · refine ret4 (K := fun q w' => R (.returned (.tuple #[.agg q, .int .i64 0])) w') hb1 rfl fun w' _ k' _ => ?_
      have e0 : decF B num = 0 := by unfold decF; rw [if_neg (by omega), if_neg (by omega), if_pos g3]
      have en : dN B = 0 := allZ_rd g3 4 2
      refine h1 e0 (PgV.zero num) w' rfl (by unfold dLsn; rw [allZ_rd g3]; rfl) ?_ (kp_blk k1 (by omega) k') (fresh_none _) (fresh_none _) (.inl rfl)
      unfold decCs decGs
      rw [en, csK_zero, gsK_zero]
      exact own_zero _ _
    refine idxB hr1 hl (i := 0) (by omega) rfl (K := fun n8 => cond (n8 != 113) _ _) (cond_ne (fun g4 => bad 80 w1 (Kp.refl _ _) (by unfold decF; rw [if_neg (by omega), if_neg (by omega), if_neg (by rw [g3]; decide), if_pos (by omega)]) (by omega)) (fun g4 => ?_))
    refine idxB hr1 hl (i := 1) (by omega) rfl (K := fun n8 => cond (n8 != 1) _ _) (cond_ne (fun g5 => ?_) (fun g5 => ⟨rfl, g1, hB, g3, by omega, .inl (by omega)⟩))
    refine idxB hr1 hl (i := 1) (by omega) rfl (K := fun n8 => cond (n8 != 2) _ _) (cond_ne (fun g6 => bad 70 w1 (Kp.refl _ _) (by unfold decF; rw [if_neg (by omega), if_neg (by omega), if_neg (by rw [g3]; decide), if_neg (by omega), if_pos (by omega)]) (by omega)) (fun g6 => ⟨rfl, g1, hB, g3, by omega, .inr (by omega)⟩))
  rintro u11 w24 ⟨hw24, g1, hB, g3, g4, g5⟩ _
  rw [hw24]
  have hd : decF B num = if dSum B ≠ psumN B then 81 else if (dNum B : Int) ≠ num then 82 else if ¬ (1 ≤ dN B ∧ dN B ≤ dMost B) ∨ ¬ (1 ≤ dLsn B ∧ dLsn B ≤ 2147483647) then 23 else if contP (decCs B) (decGs B) ≠ 0 then contP (decCs B) (decGs B) else if dSp B ≠ 0 ∨ allZ (B.drop (16 + dN B * dWide B)) = false then 23 else 0 := by
    unfold decF
    rw [if_neg (by omega), if_neg (by omega), if_neg (by rw [g3]; decide), if_neg (by omega), if_neg (by omega)]
  have hb : l < 70368744177664 := by omega
  obtain ⟨ah, ch, hch, hrh⟩ := hz.h
  have hr1 := hr.kp0 k1
  refine ⟨ah, 6, ch, k1.cell hch id, taken_c hr1 hl hb (hrh.kp0 k1) rfl (by decide) ⟨by omega, by omega⟩ (by decide) fun a13 c13 w25 hs13 k25 f13 => ⟨_, _, _, rfl, ?_⟩⟩
  rw [taken_head hB] at hs13
  have hr25 := hr1.kp0 k25
  refine get_l (x := (dSum B, 0)) hl (getR_in (a := 12) (s := 4) (by omega) (by omega) (by omega)) hr25 (by omega) ⟨_, _, rfl, ?_⟩
  refine ⟨fun s w' => w' = w25 ∧ s.1 = (dMost B : Int) ∧ s.2.1 = (dWide B : Int), ?_, ?_⟩
  · refine idxB hr25 hl (i := 1) (by omega) rfl (K := fun n8 => cond (n8 == 2) _ _) (cond_eq (fun g6 => ⟨rfl, ?_, ?_⟩) (fun g6 => ⟨rfl, ?_, ?_⟩))
    · unfold dMost; rw [if_pos (by omega)]; rfl
    · unfold dWide; rw [if_pos (by omega)]; rfl
    · unfold dMost; rw [if_neg (by omega)]; rfl
    · unfold dWide; rw [if_neg (by omega)]; rfl
  rintro ⟨m1, m2, u16⟩ w27 ⟨hw27, hm1, hm2⟩ _
  dsimp only at hm1 hm2
  rw [hw27]
  subst hm1 hm2
  have hns : Rd w25 a13 (u64s [rdN B 0 1, rdN B 1 1, dNum B, dN B, dSp B, dLsn B]) := hs13.rd
  have dn := rdN_lt B 4 2
  have dl := rdN_lt B 8 4
  have dm := rdN_lt B 2 2
  have ds := rdN_lt B 12 4
  have hps : psumN B < 4294967296 := Nat.xor_lt_two_pow (n := 32) (fold_lt _ _ (by omega)) (by omega)
  change dN B < _ at dn
  change dLsn B < _ at dl
  change dNum B < _ at dm
  change dSum B < _ at ds
  have w1n : IntKind.wrap .i64 (dN B : Int) = (dN B : Int) := wrap_i64 (by omega) (by omega)
  have w2n : IntKind.wrap .i64 (dLsn B : Int) = (dLsn B : Int) := wrap_i64 (by omega) (by omega)
  have w3n : IntKind.wrap .i64 (dNum B : Int) = (dNum B : Int) := wrap_i64 (by omega) (by omega)
  refine idxU hns rfl (i := 3) rfl rfl ?_
  rw [w1n]
  have k125 : Kp no w1 w25 := k25
  refine ⟨fun _ w' => Kp no w25 w' ∧ dSum B = psumN B ∧ (dNum B : Int) = num ∧ (1 ≤ dN B ∧ dN B ≤ dMost B) ∧ (1 ≤ dLsn B ∧ dLsn B ≤ 2147483647), ?_, ?_⟩
  · refine pgsum_c (hnib.kp0 (k1.trans0 k25)) hr25 hl hlc (by omega) hb fun w28 k28 => ⟨_, rfl, ?_⟩
    have k128 := k25.trans0 k28
    rw [wrap_u64 (by omega) (by omega)]
    refine cond_ne (fun g7 => bad 81 w28 k128 (by rw [hd, if_pos (by omega)]) (by omega)) (fun g7 => ?_)
    have g7' : dSum B = psumN B := by have := g7; dsimp only at this; omega
    refine idxU (hns.kp0 k28) rfl (i := 2) rfl rfl ?_
    rw [w3n]
    refine cond_ne (fun g8 => bad 82 w28 k128 (by rw [hd, if_neg (by omega), if_pos g8]) (by omega)) (fun g8 => ?_)
    refine in_c ⟨_, rfl, cond_not (cond_d (fun g9 => ?_) (fun g9 => bad 23 w28 k128 (by rw [hd, if_neg (by omega), if_neg (by omega), if_pos (.inl (by omega))]) (by omega)))⟩
    refine idxU (hns.kp0 k28) rfl (i := 5) rfl rfl ?_
    rw [w2n]
    refine in_c ⟨_, rfl, cond_not (cond_d (fun g10 => ?_) (fun g10 => bad 23 w28 k128 (by rw [hd, if_neg (by omega), if_neg (by omega), if_pos (.inr (by omega))]) (by omega)))⟩
    exact ⟨k28, g7', g8, by omega, by omega⟩
  rintro u23 w47 ⟨k47, g7, g8, g9, g10⟩ _
  rw [if_neg (by omega), if_neg (by omega), if_neg (by omega)] at hd
  refine idxU (hns.kp0 k47) rfl (i := 5) rfl rfl ?_
  rw [w2n]
  refine AlF.intro fun b2 w48 hb2e hb2 k48 s48 => ?_
  refine st4 hb2 rfl fun w52 hb52 k52 s52 => ?_
  have s25 := k25.size
  have s47 := k47.size
  have hb1lt := hb1.lt
  have kk52 : Kp no w25 w52 := kp_blk (k47.trans0 k48) (by omega) k52
  have kw52 : Kp no w w52 := (k1.trans0 k25).trans0 kk52
  have hdm : dN B ≤ 84 ∧ (byteN B 1 = 2 → dN B ≤ 84 ∧ dWide B = 12) ∧ (byteN B 1 ≠ 2 → dN B ≤ 31 ∧ dWide B = 32) := by
    have := g9.2
    unfold dMost at this
    unfold dWide
    split at this <;> rename_i hh
    · exact ⟨by omega, fun _ => ⟨by omega, if_pos hh⟩, fun h => absurd hh h⟩
    · exact ⟨by omega, fun h => absurd h hh, fun _ => ⟨by omega, if_neg hh⟩⟩
  have hs52 : w52.heap.size = b2 + 1 := by omega
  refine ⟨fun _ w' => ∃ pg : PgV, Kp (fun j => j = b2) w52 w' ∧ Blk w' b2 pg.cs T_page_Page ∧ pg.num = num ∧ pg.lsn = (dLsn B : Int) ∧ pg.Own w' (decCs B) (decGs B) ∧ Fresh w52 pg.ca ∧ Fresh w52 pg.ga ∧ (pg.ca = none ∨ pg.ga = none), ?_, ?_⟩
  · refine loopN (fun s w' => ∃ (k : Nat) (pg : PgV), k ≤ dN B ∧ s.1 = (k : Int) ∧ Kp (fun j => j = b2) w52 w' ∧ Blk w' b2 pg.cs T_page_Page ∧ pg.num = num ∧ pg.lsn = (dLsn B : Int) ∧ pg.Own w' (csK B k) (gsK B k) ∧ Fresh w52 pg.ca ∧ Fresh w52 pg.ga ∧ (byteN B 1 = 2 → pg.ca = none) ∧ (byteN B 1 ≠ 2 → pg.ga = none)) (fun s _ => dN B - s.1.toNat)
      ⟨0, ⟨num, dLsn B, none, 0, 0, none, 0, 0⟩, Nat.zero_le _, rfl, Kp.refl _ _, hb52, rfl, rfl, by rw [csK_zero, gsK_zero]; exact ⟨Sl.nil _ _ _, Nat.zero_lt_succ _, Sl.nil _ _ _, Nat.zero_lt_succ _⟩, fresh_none _, fresh_none _, fun _ => rfl, fun _ => rfl⟩ ?_
    rintro ⟨k0, u⟩ w53 ⟨k, pg, hk, hk0, k53, hb53, hnum, hlsn, hown, fca, fga, q2, qn2⟩ _
    dsimp only at hk0 ⊢
    subst hk0
    have k2553 : Kp no w25 w53 := kk52.trans k53 (fun _ _ h => h) fun j hj hh => by omega
    have kw53 : Kp no w w53 := (k1.trans0 k25).trans0 k2553
    refine cond_d (fun hlt => ?_) (fun hge => ?_)
    · have hkd : k < dN B := by omega
      have e3 : IntKind.wrap .i64 ((k : Int) + 1) = ((k + 1 : Nat) : Int) := by rw [wrap_i64 (by omega) (by omega)]; omega
      rw [e3]
      have hown' := hown.cl
      have hown'' := hown.gl
      rw [csK_len] at hown'
      rw [gsK_len] at hown''
      have hr53 := hr.kp0 kw53
      refine idxB hr53 hl (i := 1) (by omega) rfl (K := fun n8 => cond (n8 == 2) _ _) (cond_eq (fun t2 => ?_) (fun t2 => ?_))
      · have t2' : byteN B 1 = 2 := by omega
        obtain ⟨hd84, hw12⟩ := hdm.2.1 t2'
        rw [if_pos t2'] at hown' hown''
        obtain ⟨ag, cg, hcg, hrg⟩ := hz.g
        rw [hw12]
        have e1 : IntKind.wrap .i64 ((k : Int) * ((12 : Nat) : Int)) = ((12 * k : Nat) : Int) := by rw [wrap_i64 (by omega) (by omega)]; omega
        have e2 : IntKind.wrap .i64 (16 + ((12 * k : Nat) : Int)) = ((16 + 12 * k : Nat) : Int) := by rw [wrap_i64 (by omega) (by omega)]; omega
        rw [e1, e2]
        refine ⟨ag, 2, cg, kw53.cell hcg id, taken_c hr53 hl hb (hrg.kp0 kw53) rfl (by decide) ⟨by omega, by omega⟩ (by decide) fun a23 c23 w54 hs23 k54 f23 => ⟨_, _, _, rfl, ?_⟩⟩
        rw [taken_grp (by omega)] at hs23
        have hb54 := k54.blk hb53 id
        have nin : ∀ j, Is pg.ga j → w52.heap.size ≤ j := fga
        have hgalt := hown.g.lt
        refine ⟨fun w' => Kp (Is pg.ga) w54 w', (Kp.drew w54 1).of_no, pg.ga, pg.gl, pg.gc, fun w' kz => by rw [add_at]; exact (kz.blk hb54 fun hh => by have := nin _ hh; omega).cell 3, ?_⟩
        have hr23 : ∀ w', Kp (Is pg.ga) w54 w' → Rd w' a23 (u64s [rdN B (16 + 12 * k) 4, rdN B (16 + 12 * k + 4) 8]) := fun w' kz => hs23.rd.kp kz fun j hj hh => by have := f23 j hj; have := hgalt j hh; omega
        refine idxUS hs23.rd hr23 rfl (i := 0) rfl rfl (idxUS hs23.rd hr23 rfl (i := 1) rfl rfl ?_)
        have kd : Kp no w54 w54.drew := Kp.drew w54 1
        refine AlF.intro fun b3 w55 hb3e hb3 k55 s55 => ⟨(kd.trans0 k55).of_no, ?_⟩
        have k5355 := (k54.trans0 kd).trans0 k55
        have hn1 : Rd w55 (some ⟨b3, 0, none⟩) (grpAt B k).cs := rd_cells hb3 rfl
        refine append_own er_grp (hown.g.kp0 k5355) hn1 rfl (fun h => by cases h) (fun u hu => by simp only [GL.cs, List.mem_cons, List.not_mem_nil, or_false] at hu; rcases hu with rfl | rfl <;> rfl) (by omega) (by omega) fun a' c' w56 hs56 k56 hi56 _ _ => ⟨_, _, _, rfl, (kd.trans0 k55).of_no.trans0 k56, ?_⟩
        have hb56 : Blk w56 b2 pg.cs T_page_Page := k56.blk (k5355.blk hb53 id) fun hh => by have := nin _ hh; omega
        rw [add_at]
        refine StF.intro hb56 (by simp [PgV.cs]) fun w57 hb57 k57 s57 => ⟨⟨k + 1, { pg with ga := a', gl := pg.gl + 1, gc := c' }, by omega, rfl, ?_, hb57, hnum, hlsn, ?_, fca, ?_, fun _ => q2 t2', fun h => absurd t2' h⟩, by simp only [Int.toNat_natCast]; omega⟩
        · exact (((k53.trans0 k5355.of_no).trans k56 (fun _ _ h => h) fun j hj hh => by have := nin j hh; omega).trans0 k57)
        · rw [gsK_succ t2']
          have hcn := q2 t2'
          have e0 : csK B (k + 1) = csK B k := by rw [csK_succ2 t2', csK_succ2 t2']
          rw [e0]
          refine Own_push_g (hs56.kp k57 fun j hj hh => ?_) (by omega) (((hown.c.kp0 k5355).kp k56 fun j hj => by rw [hcn] at hj; exact (is_none hj).elim).kp k57 fun j hj => by rw [hcn] at hj; exact (is_none hj).elim) hown.cb
          rcases hi56 j hj with h | h
          · have := nin j h; omega
          · have := k5355.size; have := k53.size; omega
        · intro j hj
          rcases hi56 j hj with h | h
          · exact nin j h
          · have := k5355.size; have := k53.size; omega
      · have t2' : byteN B 1 ≠ 2 := by omega
        obtain ⟨hd84, hw12⟩ := hdm.2.2 t2'
        rw [if_neg t2'] at hown' hown''
        obtain ⟨ag, cg, hcg, hrg⟩ := hz.c
        rw [hw12]
        have e1 : IntKind.wrap .i64 ((k : Int) * ((32 : Nat) : Int)) = ((32 * k : Nat) : Int) := by rw [wrap_i64 (by omega) (by omega)]; omega
        have e2 : IntKind.wrap .i64 (16 + ((32 * k : Nat) : Int)) = ((16 + 32 * k : Nat) : Int) := by rw [wrap_i64 (by omega) (by omega)]; omega
        rw [e1, e2]
        refine ⟨ag, 5, cg, kw53.cell hcg id, taken_c hr53 hl hb (hrg.kp0 kw53) rfl (by decide) ⟨by omega, by omega⟩ (by decide) fun a23 c23 w54 hs23 k54 f23 => ⟨_, _, _, rfl, ?_⟩⟩
        rw [taken_ctr (by omega)] at hs23
        have hb54 := k54.blk hb53 id
        have nin : ∀ j, Is pg.ca j → w52.heap.size ≤ j := fca
        have hgalt := hown.c.lt
        refine ⟨fun w' => Kp (Is pg.ca) w54 w', (Kp.drew w54 1).of_no, pg.ca, pg.cl, pg.cc, fun w' kz => by rw [add_at]; exact (kz.blk hb54 fun hh => by have := nin _ hh; omega).cell 2, ?_⟩
        have hr23 : ∀ w', Kp (Is pg.ca) w54 w' → Rd w' a23 (u64s [rdN B (16 + 32 * k) 4, rdN B (16 + 32 * k + 4) 4, rdN B (16 + 32 * k + 8) 8, rdN B (16 + 32 * k + 16) 8, rdN B (16 + 32 * k + 24) 8]) := fun w' kz => hs23.rd.kp kz fun j hj hh => by have := f23 j hj; have := hgalt j hh; omega
        refine idxUS hs23.rd hr23 rfl (i := 0) rfl rfl (idxUS hs23.rd hr23 rfl (i := 1) rfl rfl (idxUS hs23.rd hr23 rfl (i := 2) rfl rfl (idxUS hs23.rd hr23 rfl (i := 3) rfl rfl (idxUS hs23.rd hr23 rfl (i := 4) rfl rfl ?_))))
        have kd : Kp no w54 w54.drew := Kp.drew w54 1
        refine AlF.intro fun b3 w55 hb3e hb3 k55 s55 => ⟨(kd.trans0 k55).of_no, ?_⟩
        have k5355 := (k54.trans0 kd).trans0 k55
        have hn1 : Rd w55 (some ⟨b3, 0, none⟩) (ctrAt B k).cs := rd_cells hb3 rfl
        refine append_own er_ctr (hown.c.kp0 k5355) hn1 rfl (fun h => by cases h) (fun u hu => by simp only [CL.cs, List.mem_cons, List.not_mem_nil, or_false] at hu; rcases hu with rfl | rfl | rfl | rfl | rfl <;> rfl) (by omega) (by omega) fun a' c' w56 hs56 k56 hi56 _ _ => ⟨_, _, _, rfl, (kd.trans0 k55).of_no.trans0 k56, ?_⟩
        have hb56 : Blk w56 b2 pg.cs T_page_Page := k56.blk (k5355.blk hb53 id) fun hh => by have := nin _ hh; omega
        rw [add_at]
        refine StF.intro hb56 (by simp [PgV.cs]) fun w57 hb57 k57 s57 => ⟨⟨k + 1, { pg with ca := a', cl := pg.cl + 1, cc := c' }, by omega, rfl, ?_, hb57, hnum, hlsn, ?_, ?_, fga, fun h => absurd h t2', fun _ => qn2 t2'⟩, by simp only [Int.toNat_natCast]; omega⟩
        · exact (((k53.trans0 k5355.of_no).trans k56 (fun _ _ h => h) fun j hj hh => by have := nin j hh; omega).trans0 k57)
        · rw [csK_succ t2']
          have hcn := qn2 t2'
          have e0 : gsK B (k + 1) = gsK B k := by rw [gsK_succ2 t2', gsK_succ2 t2']
          rw [e0]
          refine Own_push_c (hs56.kp k57 fun j hj hh => ?_) (by omega) (((hown.g.kp0 k5355).kp k56 fun j hj => by rw [hcn] at hj; exact (is_none hj).elim).kp k57 fun j hj => by rw [hcn] at hj; exact (is_none hj).elim) hown.gb
          rcases hi56 j hj with h | h
          · have := nin j h; omega
          · have := k5355.size; have := k53.size; omega
        · intro j hj
          rcases hi56 j hj with h | h
          · exact nin j h
          · have := k5355.size; have := k53.size; omega
    · have hke : k = dN B := by omega
      subst hke
      refine ⟨pg, k53, hb53, hnum, hlsn, hown, fca, fga, ?_⟩
      by_cases h2 : byteN B 1 = 2
      · exact .inl (q2 h2)
      · exact .inr (qn2 h2)
  rintro u33 w62 ⟨pg, k62, hb62, hnum, hlsn, hown, fca, fga, hcg⟩ _
  refine rd4 (K := fun q => CallF Tryd.prog F_page_Page_contents #[.agg q] w62 _ _) hb62 ?_
  have k2562 : Kp no w25 w62 := kk52.trans k62 (fun _ _ h => h) fun j hj hh => by omega
  have kw62 : Kp no w w62 := (k1.trans0 k25).trans0 k2562
  refine contents_c (p := pg) hown.to_in fun w63 k63 => ⟨_, rfl, ?_⟩
  have k163 := (k25.trans0 k2562).trans0 k63
  refine cond_ne (fun g11 => bad (contP (decCs B) (decGs B)) w63 k163 (by rw [hd, if_pos (by omega)]) (by omega)) (fun g11 => ?_)
  rw [if_neg (by omega)] at hd
  refine idxU (hns.kp0 (k2562.trans0 k63)) rfl (i := 4) rfl rfl ?_
  refine cond_ne (fun g12 => bad 23 w63 k163 (by rw [hd, if_pos (.inl (by omega))]) (by omega)) (fun g12 => ?_)
  have hdw : dN B * dWide B ≤ 1008 := by
    by_cases h2 : byteN B 1 = 2
    · obtain ⟨x, y⟩ := hdm.2.1 h2; rw [y]; omega
    · obtain ⟨x, y⟩ := hdm.2.2 h2; rw [y]; omega
  have e1 : IntKind.wrap .i64 ((dN B : Int) * (dWide B : Int)) = ((dN B * dWide B : Nat) : Int) := by
    rw [← Int.natCast_mul, wrap_i64 (by omega) (by omega)]
  have e2 : IntKind.wrap .i64 (16 + ((dN B * dWide B : Nat) : Int)) = ((16 + dN B * dWide B : Nat) : Int) := by rw [wrap_i64 (by omega) (by omega)]; omega
  rw [e1, e2, Int.toNat_natCast]
  refine ⟨trivial, ⟨by omega, by simp only [hiOf]; omega⟩, ?_⟩
  refine zeros_c (rd_drop (hr.kp0 (kw62.trans0 k63)) (by omega)) (by rw [List.length_drop]; omega) (by omega) ⟨_, rfl, ?_⟩
  refine cond_not (cond_b (fun g13 => ?_) (fun g13 => bad 23 w63 k163 (by rw [hd, if_pos (.inr g13)]) (by omega)))
  have hd0 : decF B num = 0 := by
    rw [hd, if_neg]
    rintro (h | h)
    · omega
    · rw [g13] at h; cases h
  have hb63 := k63.blk hb62 id
  refine ⟨pg.num, pg.lsn, pg.ca, pg.cl, pg.cc, pg.ga, pg.gl, pg.gc, ⟨hb63.cell 0, by rw [add_at]; exact hb63.cell 1, by rw [add_at]; exact hb63.cell 2, by rw [add_at]; exact hb63.cell 3, trivial⟩, ?_⟩
  refine ret4 (K := fun q w' => R (.returned (.tuple #[.agg q, .int .i64 0])) w') (k163.blk hb1 id) rfl fun w' _ k' _ => ?_
  refine h1 hd0 pg w' hnum hlsn ((hown.kp0 k63).kp k' (fun j hj hh => ?_) (fun j hj hh => ?_)) (kp_blk (kw62.trans0 k63) (by omega) k') (fun j hj => ?_) (fun j hj => ?_) hcg
  · have := fca j hj; omega
  · have := fga j hj; omega
  · have := fca j hj; have := kw52.size; omega
  · have := fga j hj; have := kw52.size; omega
end Go.Proofs.YtnkdonpammdldaaDoor
