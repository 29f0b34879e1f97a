/- Layer 4: master, Format, Point, Open. Conditions: the disk's queue and its loss's list are short. -/
import Derived.Test.YtaehmogilimmfaaKc
set_option linter.unusedVariables false
set_option linter.unusedSimpArgs false
namespace Go.Proofs.Ytaehmogilimmfaa
open Go Go.RowKit

def bestS (v : Dv) (x : SlV) (i : Nat) : SlV := if (rdSlot (v.read (i : Int)).1 (i : Int) (v.n : Int)).2 = true ∧ x.st < (rdSlot (v.read (i : Int)).1 (i : Int) (v.n : Int)).1.st then (rdSlot (v.read (i : Int)).1 (i : Int) (v.n : Int)).1 else x
def bestN (v : Dv) : Nat → SlV
  | 0 => SlV.z
  | k + 1 => bestS v (bestN v k) k
/-- The master of a disk, or why there is none. -/
def mstR (v : Dv) : SlV × Nat := if v.down then (SlV.z, 40) else if bestN v (min 2 v.n) = SlV.z then (SlV.z, 50) else (bestN v (min 2 v.n), 0)
theorem rdSlot_ok {bs : List UInt8} {i n : Int} (h : (rdSlot bs i n).2 = true) : (rdSlot bs i n).1.right i n := by
  unfold rdSlot at *
  split
  · assumption
  · rename_i hn
    rw [if_neg hn] at h
    cases h
theorem bestN_ok (v : Dv) : ∀ k, bestN v k = SlV.z ∨ ((bestN v k).s.may ∧ (bestN v k).st ≤ 4611686018427387904)
  | 0 => .inl rfl
  | k + 1 => by
    rw [bestN, bestS]
    split
    · rename_i h
      have := rdSlot_ok h.1
      exact .inr ⟨this.1, this.2.2.2.1⟩
    · exact bestN_ok v k
theorem mstR_ok {v : Dv} (h : (mstR v).2 = 0) : (mstR v).1.s.may ∧ (mstR v).1.st ≤ 4611686018427387904 := by
  unfold mstR at *
  split at h
  · cases h
  split at h
  · cases h
  rename_i h1 h2
  rw [if_neg h1, if_neg h2]
  rcases bestN_ok v (min 2 v.n) with hh | hh
  · exact absurd hh h2
  · exact hh

theorem wk4 {k n : Nat} (h : k < n) (hn : n ≤ 100000) : IntKind.wrap .i64 ((k : Int) + 1) = ((k + 1 : Nat) : Int) := by rw [wrap_i64 (by omega) (by omega)]; omega

set_option maxRecDepth 100000 in
set_option maxHeartbeats 1000000 in
theorem mmaster_c {w : World} {ow : Nat → Nat} {t b : Nat} {v : Dv} {R : Ending → World → Prop} (h : DX w ow t b v) (hs : v.Sm 1000000)
    (hK : ∀ w', Kp no w w' → R (.returned (.tuple #[(mstR v).1.v, .int .i64 ((mstR v).2 : Int)])) w') : GoC Try.prog F_master_master #[.pointer (some ⟨b, 0, none⟩)] w R := by
  refine S_master_master ?_
  unfold W_master_master
  refine AlF.intro fun b1 w1 hb1e hb1 k1 _ => cond_f rfl ?_
  have fin : ∀ (x : SlV) (e : Nat) (w4 : World), mstR v = (x, e) → Kp no w w4 → Blk w4 b1 #[.int .u64 0, .int .i64 0, .int .i64 0, .int .i64 0, .int .i64 0] T_master_slot →
      StF w4 ⟨b1, 0, none⟩ (.int .u64 (x.st : Int)) fun w5 => StF w5 (Addr.add ⟨b1, 0, none⟩ 1) (.int .i64 x.s.pg) fun w6 => StF w6 (Addr.add ⟨b1, 0, none⟩ 2) (.int .i64 x.s.lg) fun w7 => StF w7 (Addr.add ⟨b1, 0, none⟩ 3) (.int .i64 x.s.fr) fun w8 => StF w8 (Addr.add ⟨b1, 0, none⟩ 4) (.int .i64 x.pt) fun w9 =>
        ∃ (n1 : Int) (n2 : Int) (n3 : Int) (n4 : Int) (n5 : Int), (w9.cell? ⟨b1, 0, none⟩ = some (.int .u64 n1) ∧ w9.cell? (Addr.add ⟨b1, 0, none⟩ 1) = some (.int .i64 n2) ∧ w9.cell? (Addr.add ⟨b1, 0, none⟩ 2) = some (.int .i64 n3) ∧ w9.cell? (Addr.add ⟨b1, 0, none⟩ 3) = some (.int .i64 n4) ∧ w9.cell? (Addr.add ⟨b1, 0, none⟩ 4) = some (.int .i64 n5) ∧ True) ∧
          R (.returned (.tuple #[.agg #[.int .u64 n1, .int .i64 n2, .int .i64 n3, .int .i64 n4, .int .i64 n5], .int .i64 (e : Int)])) w9 := fun x e w4 he k4 hb4 =>
    slot_st x hb4 fun w9 hb9 k9 => slot_rd (x := x) hb9 (by
      have := hK w9 (kp_blk k4 (by omega) k9)
      rw [he] at this
      exact this)
  refine down_c (h.kp0 k1) ⟨_, rfl, cond_b (fun hd => ?_) (fun hd => ?_)⟩
  · exact fin SlV.z 40 w1 (by unfold mstR; rw [if_pos hd]) k1 hb1
  refine slot_al SlV.z fun b2 w2 hb2 k2 hge => ?_
  have b1w2 := k2.blk hb1 id
  have k02 := k1.trans0 k2
  have lt1 := hb1.lt
  have s1 := k1.size
  have ne : b1 ≠ b2 := by omega
  have hok := h.ok
  refine size_c (h.kp0 k02) ⟨_, rfl, ?_⟩
  have emin : (if (v.n : Int) < 2 then (v.n : Int) else 2) = ((min 2 v.n : Nat) : Int) := by split <;> omega
  rw [emin]
  clear emin
  refine loopN (fun s w' => ∃ k : Nat, k ≤ min 2 v.n ∧ s.1 = (k : Int) ∧ Kp no w w' ∧ Blk w' b2 #[.int .u64 ((bestN v k).st : Int), .int .i64 (bestN v k).s.pg, .int .i64 (bestN v k).s.lg, .int .i64 (bestN v k).s.fr, .int .i64 (bestN v k).pt] T_master_slot ∧ Blk w' b1 #[.int .u64 0, .int .i64 0, .int .i64 0, .int .i64 0, .int .i64 0] T_master_slot)
    (fun s _ => min 2 v.n - s.1.toNat) ⟨0, Nat.zero_le _, rfl, k02, hb2, b1w2⟩ ?_
  rintro ⟨k0, u⟩ w3 ⟨k, hkn, hk0, k03, x2, x1⟩ _
  dsimp only at hk0 ⊢
  subst hk0
  refine cond_d (fun hlt => ?_) (fun hge2 => ?_)
  · refine mread_c (h.kp0 k03) hs hd ⟨by omega, by omega⟩ fun w4 k4 => ⟨_, _, _, _, _, _, rfl, ?_⟩
    have eb : bestN v (k + 1) = bestS v (bestN v k) k := rfl
    unfold bestS at eb
    generalize rdSlot (v.read (k : Int)).1 (k : Int) (v.n : Int) = rr at *
    refine slot_al rr.1 fun b3 w5 hb3 k5 hge3 => ?_
    have x2' := (k4.trans0 k5).blk x2 id
    have x1' := (k4.trans0 k5).blk x1 id
    have k05 := (k03.trans0 k4).trans0 k5
    have wk : IntKind.wrap .i64 ((k : Int) + 1) = ((k + 1 : Nat) : Int) := wk4 (n := 2) (by omega) (by omega)
    rw [wk]
    clear wk
    refine cond_b (fun hq => ⟨_, hb3.at rfl rfl, _, x2'.at rfl rfl, cond_d (fun hgt => slot_rd (x := rr.1) hb3 ?_) (fun hgt => ?_)⟩) (fun hq => ?_)
    · rw [if_pos ⟨hq, by omega⟩] at eb
      refine slot_st rr.1 x2' fun w6 hb6 k6 => ⟨⟨k + 1, by omega, rfl, kp_blk k05 (by have := k1.size; omega) k6, by rw [eb]; exact hb6, k6.blk x1' ne⟩, by simp only [Int.toNat_natCast]; omega⟩
    · rw [if_neg (by intro hh; omega)] at eb
      exact ⟨⟨k + 1, by omega, rfl, k05, by rw [eb]; exact x2', x1'⟩, by simp only [Int.toNat_natCast]; omega⟩
    · rw [if_neg (by intro hh; rw [hq] at hh; cases hh.1)] at eb
      exact ⟨⟨k + 1, by omega, rfl, k05, by rw [eb]; exact x2', x1'⟩, by simp only [Int.toNat_natCast]; omega⟩
  have hke : k = min 2 v.n := by omega
  subst hke
  have hm : mstR v = if bestN v (min 2 v.n) = SlV.z then (SlV.z, 50) else (bestN v (min 2 v.n), 0) := by unfold mstR; rw [if_neg (by rw [hd]; simp)]
  generalize bestN v (min 2 v.n) = x at *
  refine slot_rd (x := x) x2 ?_
  have ez : (((x.st : Int) == 0) && (((x.s.pg == 0) && ((x.s.lg == 0) && ((x.s.fr == 0) && true))) && ((x.pt == 0) && true))) = decide (x = SlV.z) := by
    by_cases hx : x = SlV.z
    · subst hx
      rfl
    · rw [decide_eq_false hx]
      refine Bool.eq_false_iff.2 fun hh => hx ?_
      simp only [Bool.and_eq_true, beq_iff_eq, Bool.and_true] at hh
      obtain ⟨h1, ⟨h2, h3, h4⟩, h5⟩ := hh
      obtain ⟨a, ⟨p, q, r⟩, c⟩ := x
      dsimp only at *
      have : a = 0 := by omega
      subst this h2 h3 h4 h5
      rfl
  rw [ez]
  refine cond_d (fun hx => ?_) (fun hx => slot_rd (x := x) x2 ?_)
  · rw [if_pos hx] at hm
    exact fin SlV.z 50 w3 hm k03 x1
  · rw [if_neg hx] at hm
    exact fin x 0 w3 hm k03 x1
theorem mmaster_nil {w : World} {R : Ending → World → Prop} (hK : ∀ w', Kp no w w' → R (.returned (.tuple #[SlV.z.v, .int .i64 3])) w') : GoC Try.prog F_master_master #[.pointer none] w R := by
  refine S_master_master ?_
  unfold W_master_master
  refine AlF.intro fun b1 w1 hb1e hb1 k1 _ => cond_t rfl ?_
  exact slot_st SlV.z hb1 fun w9 hb9 k9 => slot_rd (x := SlV.z) hb9 (hK w9 (kp_blk k1 (by omega) k9))

/-! ### Format -/
def zF : ByteArray := ByteArray.mk #[70, 111, 114, 109, 97, 116]
def zP : ByteArray := ByteArray.mk #[80, 111, 105, 110, 116]
def zO : ByteArray := ByteArray.mk #[79, 112, 101, 110]
def formatR (v : Dv) (s : Sh) : Nat × Dv :=
  if ¬ (s.may ∧ s.need = (v.n : Int)) then (2, v) else if v.down then (40, v) else if (v.put 0 (List.replicate 512 0)).1 ≠ 0 then v.put 0 (List.replicate 512 0) else (v.put 0 (List.replicate 512 0)).2.put 1 (slotB 1 s 0)
theorem fro_r {T : Nat → Prop} (w : World) (ow : Nat → Nat) : Fro T w ow w ow := ⟨Kp.refl _ _, fun _ _ _ => rfl⟩

set_option maxRecDepth 100000 in
theorem mformat_cF {w : World} {ow : Nat → Nat} {t b : Nat} {v : Dv} {s : Sh} {R : Ending → World → Prop} (h : DX w ow t b v) (hs : v.Sm 800000)
    (hK : ∀ e w' ow', DX w' ow' t b (formatR v s).2 → Fro (Td t) w ow w' ow' → ErrV w' e zF ((formatR v s).1 : Int) → ErrF w e → R (.returned e) w') : GoC Try.prog F_master_Format #[.pointer (some ⟨b, 0, none⟩), s.v] w R := by
  refine S_master_Format ?_
  unfold W_master_Format
  refine AlF.intro fun b1 w1 hb1e hb1 k1 _ => cond_f rfl ?_
  have f1 : Fro (fun _ => True) w ow w1 (ext ow w.heap.size (t + 5)) := Fro.of_kp0 (t + 5) k1
  have t1 : ext ow w.heap.size (t + 5) b1 = t + 5 := ext_new (by omega)
  have h1 := h.fr f1 trivial trivial trivial trivial
  have F1 := f1.mono fun u (_ : Td t u) => trivial
  generalize ext ow w.heap.size (t + 5) = ow1 at *
  refine ⟨_, _, _, ⟨hb1.at rfl rfl, hb1.at rfl rfl, hb1.at rfl rfl, trivial⟩, need_c (s := s) fun w2 k2 => ⟨_, _, rfl, ?_⟩⟩
  have h2 := h1.kp0 k2
  have F2 := F1.trans (Fro.kp0 k2 |>.mono fun u (_ : Td t u) => trivial)
  have x2 := k2.blk hb1 id
  have bad : ∀ (e : Nat) w3, (e : Int) ≠ 0 → formatR v s = (e, v) → Kp no w2 w3 → GoC Try.prog F_master_fail #[.string zF, .int .i64 (e : Int)] w3 fun en w4 => match en with
      | .returned r1 => ∃ v1 : Value, r1 = v1 ∧ R (.returned v1) w4
      | .panicked ch => R (.panicked ch) w4
      | .outgrown => False := fun e w3 he hf k3 =>
    fail_cF he fun v' w4 k4 hv hfr => ⟨v', rfl, by
      have hk := hK v' w4 ow1
      rw [hf] at hk
      exact hk (h2.kp0 (k3.trans0 k4)) (F2.trans (Fro.kp0 (k3.trans0 k4) |>.mono fun u (_ : Td t u) => trivial)) hv (hfr.mono (Nat.le_trans F2.kp.size k3.size))⟩
  unfold needR
  by_cases hm : s.may
  case neg =>
    rw [if_neg hm]
    exact cond_t rfl (bad 2 w2 (by decide) (by unfold formatR; rw [if_pos (fun hh => hm hh.1)]) (Kp.refl _ _))
  rw [if_pos hm]
  refine cond_f rfl (size_c h2 ⟨_, rfl, ?_⟩)
  refine cond_ne (fun hne => bad 2 w2 (by decide) (by unfold formatR; rw [if_pos (fun hh => hne hh.2)]) (Kp.refl _ _)) (fun heq => ?_)
  refine down_c h2 ⟨_, rfl, cond_b (fun hd => bad 40 w2 (by decide) (by unfold formatR; rw [if_neg (fun hh => hh ⟨hm, heq⟩), if_pos hd]) (Kp.refl _ _)) (fun hd => ?_)⟩
  have e0 : List.replicate 512 (Value.int .u8 (0 : Int)) = bvs (List.replicate 512 0) := by
    unfold bvs
    rw [List.map_replicate]
    rfl
  have hf : formatR v s = if (v.put 0 (List.replicate 512 0)).1 ≠ 0 then v.put 0 (List.replicate 512 0) else (v.put 0 (List.replicate 512 0)).2.put 1 (slotB 1 s 0) := by
    unfold formatR
    rw [if_neg (fun hh => hh ⟨hm, heq⟩), if_neg (by simp [hd])]
  rw [hf] at hK
  rw [e0]
  refine mput_c h2 ⟨by have := hs.q; omega, hs.k⟩ (by rw [List.length_replicate]) fun w3 ow3 h3 f3 => ⟨_, rfl, ?_⟩
  have hsm := Dv.put_sm (i := 0) (b := List.replicate 512 0) hs
  have y3 := (blk_fr x2 (by exact t1) f3 (by exact ⟨by omega, by omega, by omega⟩)).1
  have F3 := F2.trans f3
  generalize v.put 0 (List.replicate 512 0) = a at *
  refine cond_ne (fun hne => ?_) (fun hz => ?_)
  · rw [if_pos (by omega)] at hK
    exact fail_cF hne fun v' w4 k4 hv hfr => ⟨v', rfl, hK v' w4 ow3 (h3.kp0 k4) (F3.trans (Fro.kp0 k4 |>.mono fun u (_ : Td t u) => trivial)) hv (hfr.mono F3.kp.size)⟩
  rw [if_neg (by omega)] at hK
  refine ⟨_, _, _, ⟨y3.at rfl rfl, y3.at rfl rfl, y3.at rfl rfl, trivial⟩, ?_⟩
  refine sbytes_c (st := 1) (s := s) (pt := 0) (by omega) hm ⟨by omega, by omega⟩ fun w4 k4 => ⟨bvs (slotB 1 s 0), by rw [bvs_len, slotB_len], rfl, ?_⟩
  refine mput_c (h3.kp0 k4) ⟨by have := hsm.q; omega, hsm.k⟩ (slotB_len _ _ _) fun w5 ow5 h5 f5 => ⟨_, rfl, ?_⟩
  have F5 := (F3.trans (Fro.kp0 k4 |>.mono fun u (_ : Td t u) => trivial)).trans f5
  refine cond_ne (fun hne => ?_) (fun hz => ?_)
  · exact fail_cF hne fun v' w6 k6 hv hfr => ⟨v', rfl, hK v' w6 ow5 (h5.kp0 k6) (F5.trans (Fro.kp0 k6 |>.mono fun u (_ : Td t u) => trivial)) hv (hfr.mono F5.kp.size)⟩
  · exact hK _ w5 ow5 h5 F5 (.inl ⟨hz, rfl⟩) (ErrF.nil _)
theorem mformat_c {w : World} {ow : Nat → Nat} {t b : Nat} {v : Dv} {s : Sh} {R : Ending → World → Prop} (h : DX w ow t b v) (hs : v.Sm 800000)
    (hK : ∀ e w' ow', DX w' ow' t b (formatR v s).2 → Fro (Td t) w ow w' ow' → ErrV w' e zF ((formatR v s).1 : Int) → R (.returned e) w') : GoC Try.prog F_master_Format #[.pointer (some ⟨b, 0, none⟩), s.v] w R :=
  mformat_cF h hs fun e w' ow' hd f he _ => hK e w' ow' hd f he
theorem mformat_nil {w : World} {s : Sh} {R : Ending → World → Prop} (hK : ∀ e w', Kp no w w' → ErrV w' e zF 3 → R (.returned e) w') : GoC Try.prog F_master_Format #[.pointer none, s.v] w R := by
  refine S_master_Format ?_
  unfold W_master_Format
  refine AlF.intro fun b1 w1 hb1e hb1 k1 _ => cond_t rfl (fail_c (by decide) fun v' w4 k4 hv => ⟨v', rfl, hK v' w4 (k1.trans0 k4) hv⟩)
end Go.Proofs.Ytaehmogilimmfaa
