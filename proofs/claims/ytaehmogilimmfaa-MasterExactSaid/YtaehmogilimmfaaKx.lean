/- Several texts as one. Conditions: none. -/
import Derived.Test.YtaehmogilimmfaaKh
import Derived.Test.YtaehmogilimmfaaHq
import Derived.Test.YtaehmogilimmfaaUf
import Derived.Test.YtaehmogilimmfaaKi
import Derived.Test.YtaehmogilimmfaaUa2
/- Layer 4, the document's: Slot, Right, Master, Stands. Conditions: none. -/
set_option linter.unusedVariables false
set_option linter.unusedSimpArgs false
namespace Go.Proofs.Ytaehmogilimmfaa
open Go Go.RowKit

theorem kp_is {w w1 w2 : World} {b o : Nat} (k : Kp no w w1) (h : w.heap.size ≤ b) (k' : Kp (Is (some ⟨b, o, none⟩)) w1 w2) : Kp no w w2 :=
  k.trans k' (fun _ _ h => h) fun j hj hh => by
    obtain ⟨ad, h1, h2⟩ := hh
    cases h1
    dsimp only at h2
    omega
theorem sl_is {w w' : World} {e : TypeId} {b l c b1 : Nat} {xs : List Value} {cs : Array Value} {T : TypeId} (hb : Blk w b1 cs T) (hne : b1 ≠ b) (k : Kp (Is (some ⟨b, 0, none⟩)) w w') : Blk w' b1 cs T := k.blk hb fun hh => by
  obtain ⟨ad, h1, h2⟩ := hh
  cases h1
  exact hne h2.symm

theorem sl_of {w : World} {b n : Nat} {cur : Array Value} {bs : List UInt8} (hl : bs.length = n) (hb : Blk w b cur T_uint8) (hc : cur.toList = bvs bs) : Sl w T_uint8 1 (some ⟨b, 0, none⟩) n n (bvs bs) := by
  have h1 : cur.size = n := by rw [← Array.length_toList, hc, bvs_len, hl]
  refine ⟨by rw [bvs_len, hl, Nat.mul_one], Nat.le_refl _, .inr ⟨b, cur, rfl, hb, by rw [h1, Nat.mul_one], ?_⟩⟩
  rw [← hc]
  exact List.take_of_length_le (by rw [Array.length_toList, h1]; omega)
set_option maxRecDepth 100000 in
theorem rslot_c {w : World} {st : Nat} {s : Sh} {pt : Int} {R : Ending → World → Prop} (hst : st < 18446744073709551616) (hs : s.may) (hp : 0 ≤ pt ∧ pt ≤ 2147483647)
    (h : ∀ b c w', Sl w' T_uint8 1 (some ⟨b, 0, none⟩) 512 c (bvs (slotB st s pt)) → Kp no w w' → w.heap.size ≤ b → R (.returned (.slice (some ⟨b, 0, none⟩) 512 c)) w') :
    GoC Try.prog F_ref04_Slot #[.int .u64 (st : Int), s.v, .int .i64 pt] w R := by
  refine S_ref04_Slot ?_
  unfold W_ref04_Slot
  have hs' := hs
  unfold Sh.may at hs'
  refine AlF.intro fun b1 w1 hb1e hb1 k1 _ => ?_
  have z1 := k1.size
  have lt1 := hb1.lt
  refine make_u8 (n := 512) (by omega) fun b w2 cur hb2 hcur k2 hb2e => ⟨_, _, _, rfl, ?_⟩
  have hge : w.heap.size ≤ b := by omega
  have s2 : Sl w2 T_uint8 1 (some ⟨b, 0, none⟩) 512 512 (bvs (List.replicate 512 0)) := sl_of (List.length_replicate ..) hb2 hcur
  have x2 := k2.blk hb1 id
  have k02 := k1.trans0 k2
  refine ⟨by omega, by omega, _, rfl, s2.put (i := 0) (by omega) rfl fun w3 s3 k3 _ => ?_⟩
  have e1 : (bvs (List.replicate 512 (0 : UInt8))).set 0 (bv 77) = bvs ([77] ++ List.replicate 511 0) := rfl
  have s3 : Sl w3 T_uint8 1 (some ⟨b, 0, none⟩) 512 512 (bvs ([77] ++ List.replicate 511 0)) := by rw [← e1]; exact s3
  have k03 := kp_is k02 hge k3
  have x3 := k3.blk x2 fun hh => by obtain ⟨ad, h1, h2⟩ := hh; cases h1; dsimp only at h2; omega
  have step : ∀ (wa : World) (p : List UInt8) (k i size n : Nat) (R' : Ending → World → Prop), Sl wa T_uint8 1 (some ⟨b, 0, none⟩) 512 512 (bvs (p ++ List.replicate k 0)) → Blk wa b1 #[.int .i64 s.pg, .int .i64 s.lg, .int .i64 s.fr] T_api_Shape → Kp no w wa → i = p.length → p.length + k = 512 → size ≤ k → 1 ≤ size → size ≤ 8 → n < 256 ^ size → n < 18446744073709551616 →
      (∀ wb, Sl wb T_uint8 1 (some ⟨b, 0, none⟩) 512 512 (bvs ((p ++ leB8 size n) ++ List.replicate (k - size) 0)) → Blk wb b1 #[.int .i64 s.pg, .int .i64 s.lg, .int .i64 s.fr] T_api_Shape → Kp no w wb → R' (.returned (.int .i64 0)) wb) →
      GoC Try.prog F_ref02_Put #[.slice (some ⟨b, 0, none⟩) 512 512, .int .i64 (i : Int), .int .i64 (size : Int), .int .u64 (n : Int)] wa R' := fun wa p k i size n R' hsl hx hk hi hpk hsk h1 h8 hn hn64 hR => by
    have e : putR (p ++ List.replicate k 0) (i : Int) (size : Int) n = (over (p ++ List.replicate k 0) i (leB8 size n), 0) := by
      have hfit : fits (p ++ List.replicate k (0 : UInt8)).length (i : Int) (size : Int) := by unfold fits; simp; omega
      unfold putR
      rw [if_pos hfit, Int.toNat_natCast, Int.toNat_natCast, if_pos hn]
    refine refPut_c hsl (by omega) hn64 fun wb hsb kb => ?_
    rw [e] at hsb ⊢
    rw [over_pre hi (by rw [leB8_len]; exact hsk), leB8_len] at hsb
    exact hR wb hsb (kb.blk hx fun hh => by obtain ⟨ad, h1, h2⟩ := hh; cases h1; dsimp only at h2; omega) (kp_is hk hge kb)
  refine step w3 [77] 511 1 8 st _ s3 x3 k03 rfl rfl (by omega) (by omega) (by omega) hst hst fun w4 s4 x4 k4 => ⟨_, rfl, s.pg, x4.at rfl rfl, ?_⟩
  rw [wru (by omega) (by omega)]
  refine step w4 _ 503 9 1 s.pg.toNat _ s4 x4 k4 (by simp [leB8_len]) (by simp [leB8_len]) (by omega) (by omega) (by omega) (by omega) (by omega) fun w5 s5 x5 k5 => ⟨_, rfl, s.lg, x5.at rfl rfl, ?_⟩
  rw [wru (by omega) (by omega)]
  refine step w5 _ 502 10 2 s.lg.toNat _ s5 x5 k5 (by simp [leB8_len]) (by simp [leB8_len]) (by omega) (by omega) (by omega) (by omega) (by omega) fun w6 s6 x6 k6 => ⟨_, rfl, s.fr, x6.at rfl rfl, ?_⟩
  rw [wru (by omega) (by omega)]
  refine step w6 _ 500 12 1 s.fr.toNat _ s6 x6 k6 (by simp [leB8_len]) (by simp [leB8_len]) (by omega) (by omega) (by omega) (by omega) (by omega) fun w7 s7 x7 k7 => ⟨_, rfl, ?_⟩
  rw [wru (by omega) (by omega)]
  refine step w7 _ 499 13 4 pt.toNat _ s7 x7 k7 (by simp [leB8_len]) (by simp [leB8_len]) (by omega) (by omega) (by omega) (by omega) (by omega) fun w8 s8 x8 k8 => ⟨_, rfl, ?_⟩
  have hc1 : w8.cell? ((⟨b, 0, none⟩ : Addr).add (Int.toNat 1)) = some (.int .u8 ((UInt8.ofNat (st % 256)).toNat : Int)) := by
    obtain ⟨b', o', ha, hcc⟩ := s8.rd 1 (bv (UInt8.ofNat (st % 256))) rfl
    cases ha
    exact hcc
  refine ⟨by omega, by omega, _, rfl, _, hc1, by omega, by omega, _, rfl, s8.put (i := 511) (by omega) rfl fun w9 s9 k9 _ => ?_⟩
  have e10 : (bvs ((((((([77] ++ leB8 8 st) ++ leB8 1 s.pg.toNat) ++ leB8 2 s.lg.toNat) ++ leB8 1 s.fr.toNat) ++ leB8 4 pt.toNat) ++ List.replicate (499 - 4) 0))).set 511 (bv (UInt8.ofNat (st % 256))) = bvs (slotB st s pt) := by
    rw [bvs_set]
    congr 1
  have s9 : Sl w9 T_uint8 1 (some ⟨b, 0, none⟩) 512 512 (bvs (slotB st s pt)) := by rw [← e10]; exact s9
  exact h b 512 w9 s9 (kp_is k8 hge k9) hge

/-- A store of what a slot says, and its load. -/
theorem told_st {w : World} {b : Nat} {u0 u1 u2 u3 u4 : Value} {T : TypeId} (x : SlV) (h : Blk w b #[u0, u1, u2, u3, u4] T) {K : World → Prop} (hk : ∀ w', Blk w' b #[.int .u64 (x.st : Int), .int .i64 x.s.pg, .int .i64 x.s.lg, .int .i64 x.s.fr, .int .i64 x.pt] T → Kp (fun j => j = b) w w' → K w') :
    StF w ⟨b, 0, none⟩ (.int .u64 (x.st : Int)) fun w2 => StF w2 (Addr.add ⟨b, 0, none⟩ 1) (.int .i64 x.s.pg) fun w3 => StF w3 (Addr.add ⟨b, 0, none⟩ 2) (.int .i64 x.s.lg) fun w4 => StF w4 (Addr.add ⟨b, 0, none⟩ 3) (.int .i64 x.s.fr) fun w5 => StF w5 (Addr.add ⟨b, 0, none⟩ 4) (.int .i64 x.pt) K :=
  slot_st x h hk

theorem beq_dec (a b : List UInt8) : (b == a) = decide (a = b) := by
  rw [Bool.eq_iff_iff, beq_iff_eq, decide_eq_true_eq]
  exact eq_comm

set_option maxRecDepth 100000 in
set_option maxHeartbeats 2000000 in
theorem rright_c {w : World} {a : Option Addr} {l c n : Nat} {i : Nat} {bs : List UInt8} {R : Ending → World → Prop} (hr : Rd w a (bvs bs)) (hl : bs.length = l) (h512 : l = 512) (hi : i < 2)
    (hK : ∀ w', Kp no w w' → R (.returned (.tuple #[(rdSlot bs (i : Int) (n : Int)).1.v, .bool (rdSlot bs (i : Int) (n : Int)).2])) w') :
    GoC Try.prog F_ref04_Right #[.slice a l c, .int .i64 (i : Int), .int .i64 (n : Int)] w R := by
  refine S_ref04_Right ?_
  unfold W_ref04_Right
  refine AlF.intro fun b1 w1 hb1e hb1 k1 _ => ?_
  have z1 := k1.size
  have lt1 := hb1.lt
  refine cond_ne (fun hne => absurd (by omega) hne) (fun _ => ?_)
  refine AlF.intro fun b2 w7 hb2e hb2 k2 _ => ?_
  have k07 := k1.trans0 k2
  have x1 := k2.blk hb1 id
  have lt2 := hb2.lt
  have g9 := gt_lt bs 9 1
  have g10 := gt_lt bs 10 2
  have g12 := gt_lt bs 12 1
  have g13 := gt_lt bs 13 4
  have g1 := gt_lt bs 1 8
  have get : ∀ (wa : World) (at_ size : Nat) (R' : Ending → World → Prop), Kp no w wa → at_ + size ≤ 512 → 1 ≤ size → size ≤ 8 → R' (.returned (.tuple #[.int .u64 (gt bs at_ size : Int), .int .i64 0])) wa → GoC Try.prog F_ref02_Get #[.slice a l c, .int .i64 (at_ : Int), .int .i64 (size : Int)] wa R' := fun wa at_ size R' k h1 h2 h3 hR => by
    refine refGet_c (hr.kp0 k) hl (by omega) ?_
    have e : getR bs (at_ : Int) (size : Int) = (gt bs at_ size, 0) := by
      unfold getR gt
      rw [if_pos (by unfold fits; omega), Int.toNat_natCast, Int.toNat_natCast]
    rw [e]
    exact hR
  refine get w7 1 8 _ k07 (by omega) (by omega) (by omega) ⟨_, _, rfl, ?_⟩
  refine StF.at rfl hb2 (by simp) fun w9 hb9 k9 _ => ?_
  have k09 := kp_blk k07 (by omega) k9
  have x9 := k9.blk x1 (by omega)
  refine get w9 9 1 _ k09 (by omega) (by omega) (by omega) ⟨_, _, rfl, get w9 10 2 _ k09 (by omega) (by omega) (by omega) ⟨_, _, rfl, get w9 12 1 _ k09 (by omega) (by omega) (by omega) ⟨_, _, rfl, get w9 13 4 _ k09 (by omega) (by omega) (by omega) ⟨_, _, rfl, ?_⟩⟩⟩⟩
  rw [wrap_i64 (x := ((gt bs 9 1 : Nat) : Int)) (by omega) (by omega), wrap_i64 (x := ((gt bs 10 2 : Nat) : Int)) (by omega) (by omega), wrap_i64 (x := ((gt bs 12 1 : Nat) : Int)) (by omega) (by omega), wrap_i64 (x := ((gt bs 13 4 : Nat) : Int)) (by omega) (by omega)]
  refine StF.at (i := 1) rfl hb9 (by simp) fun w14 hb14 k14 _ => StF.at (i := 2) rfl hb14 (by simp) fun w15 hb15 k15 _ => StF.at (i := 3) rfl hb15 (by simp) fun w16 hb16 k16 _ => StF.at (i := 4) rfl hb16 (by simp) fun w17 hb17 k17 _ => ?_
  have kb : Kp (fun j => j = b2) w9 w17 := ((k14.trans0 k15).trans0 k16).trans0 k17
  have k017 := kp_blk k09 (by omega) kb
  have x17 := kb.blk x9 (by omega)
  have hb17 : Blk w17 b2 #[.int .u64 ((slotOf bs).st : Int), .int .i64 (slotOf bs).s.pg, .int .i64 (slotOf bs).s.lg, .int .i64 (slotOf bs).s.fr, .int .i64 (slotOf bs).pt] T_quotaref04_Told := hb17
  clear hb14 hb15 hb16 hb9 hb2
  unfold rdSlot at hK
  have hx : slotOf bs = ⟨gt bs 1 8, ⟨(gt bs 9 1 : Int), (gt bs 10 2 : Int), (gt bs 12 1 : Int)⟩, (gt bs 13 4 : Int)⟩ := rfl
  have xst : (slotOf bs).st < 18446744073709551616 := by rw [hx]; dsimp only; omega
  have xpt : 0 ≤ (slotOf bs).pt := by rw [hx]; dsimp only; omega
  generalize slotOf bs = x at *
  clear hx
  refine ⟨_, _, _, ⟨hb17.at rfl rfl, hb17.at rfl rfl, hb17.at rfl rfl, trivial⟩, rneed_c (s := x.s) fun w18 k18 => ⟨_, _, rfl, ?_⟩⟩
  have k018 := k017.trans0 k18
  have x18 := k18.blk x17 id
  have y18 := k18.blk hb17 id
  have out : ¬ x.right (i : Int) (n : Int) →
      StF w18 ⟨b1, 0, none⟩ (.int .u64 0) fun w5 => StF w5 (Addr.add ⟨b1, 0, none⟩ 1) (.int .i64 0) fun w6 => StF w6 (Addr.add ⟨b1, 0, none⟩ 2) (.int .i64 0) fun w7 => StF w7 (Addr.add ⟨b1, 0, none⟩ 3) (.int .i64 0) fun w8 => StF w8 (Addr.add ⟨b1, 0, none⟩ 4) (.int .i64 0) fun w9 =>
        ∃ (n1 : Int) (n2 : Int) (n3 : Int) (n4 : Int) (n5 : Int), (w9.cell? ⟨b1, 0, none⟩ = some (.int .u64 n1) ∧ w9.cell? (Addr.add ⟨b1, 0, none⟩ 1) = some (.int .i64 n2) ∧ w9.cell? (Addr.add ⟨b1, 0, none⟩ 2) = some (.int .i64 n3) ∧ w9.cell? (Addr.add ⟨b1, 0, none⟩ 3) = some (.int .i64 n4) ∧ w9.cell? (Addr.add ⟨b1, 0, none⟩ 4) = some (.int .i64 n5) ∧ True) ∧
          R (.returned (.tuple #[.agg #[.int .u64 n1, .int .i64 n2, .int .i64 n3, .int .i64 n4, .int .i64 n5], .bool false])) w9 := fun hn =>
    slot_st SlV.z x18 fun w9 hb9 k9 => slot_rd (x := SlV.z) hb9 (by
      have := hK w9 (kp_blk k018 (by omega) k9)
      rw [if_neg hn] at this
      exact this)
  unfold needR
  unfold SlV.right at out
  by_cases hm : x.s.may
  case neg =>
    rw [if_neg hm]
    exact cond_t rfl (out fun hh => hm hh.1)
  rw [if_pos hm]
  refine cond_f rfl ?_
  refine cond_ne (fun hne => out fun hh => hne hh.2.1) (fun heq => ?_)
  refine ⟨_, y18.at rfl rfl, cond_d (fun h0 => out fun hh => by omega) (fun h0 => ⟨_, y18.at rfl rfl, cond_d (fun h0 => out fun hh => by omega) (fun h62 => ⟨_, y18.at rfl rfl, by decide, ?_⟩)⟩)⟩
  have ew : IntKind.wrap .u64 (i : Int) = (i : Int) := wrap_u64 (by omega) (by omega)
  rw [ew]
  clear ew
  have et : Int.tmod (x.st : Int) 2 = ((x.st % 2 : Nat) : Int) := rfl
  rw [et]
  refine cond_ne (fun hne => out fun hh => hne hh.2.2.2.2.1) (fun hst => ⟨_, y18.at rfl rfl, ?_⟩)
  refine cond_d (fun hp => out fun hh => by omega) (fun hp => ?_)
  have hright : x.right (i : Int) (n : Int) := by
    unfold SlV.right
    exact ⟨hm, heq, by omega, by omega, hst, by omega⟩
  have hK := fun w' k => hK w' k
  rw [if_pos hright] at hK
  have lt18 := x18.lt
  -- the parts
  have kd : Kp (fun j => j = b1) w18 w18.drew := (Kp.drew w18 1).of_no
  have S9 : ∀ w', Kp (fun j => j = b1) w18 w' → Blk w' b2 #[.int .u64 (x.st : Int), .int .i64 x.s.pg, .int .i64 x.s.lg, .int .i64 x.s.fr, .int .i64 x.pt] T_quotaref04_Told := fun w' k => k.blk y18 (by omega)
  have conv1 : ∀ w' (K : Value → World → Prop), Kp (fun j => j = b1) w18 w' → (∀ z : ByteArray, z.toList = bs → K (.string z) w') → RunF Try.prog (convert T_s_uint8 T_string (.slice a l c)) w' K := fun w' K k hk =>
    convert_bytes (e := T_uint8) (by kernel_rfl) (by kernel_rfl) (by kernel_rfl) (hr.kp0 (kp_blk k018 (by omega) k)) hl (fun hh => by
      have hh2 := hr 0 (bv (bs[0]'(by omega))) (by rw [List.getElem?_eq_getElem (by rw [bvs_len]; omega)]; simp [bvs])
      obtain ⟨b, o, ha, _⟩ := hh2
      rw [hh] at ha
      cases ha) hk
  have conv2 : ∀ w' (b' c' : Nat) (K : Value → World → Prop), Sl w' T_uint8 1 (some ⟨b', 0, none⟩) 512 c' (bvs (slotB x.st x.s x.pt)) → (∀ z : ByteArray, z.toList = slotB x.st x.s x.pt → K (.string z) w') → RunF Try.prog (convert T_s_uint8 T_string (.slice (some ⟨b', 0, none⟩) 512 c')) w' K := fun w' b' c' K s hk =>
    convert_bytes (e := T_uint8) (by kernel_rfl) (by kernel_rfl) (by kernel_rfl) s.rd (slotB_len _ _ _) (fun hh => by cases hh) hk
  have fin : ∀ w' (z z' : ByteArray), Kp (fun j => j = b1) w18 w' → Blk w' b1 #[.int .u64 (x.st : Int), .int .i64 x.s.pg, .int .i64 x.s.lg, .int .i64 x.s.fr, .int .i64 x.pt] T_quotaref04_Told → z.toList = bs → z'.toList = slotB x.st x.s x.pt →
      ∃ (n1 : Int) (n2 : Int) (n3 : Int) (n4 : Int) (n5 : Int), (w'.cell? ⟨b1, 0, none⟩ = some (.int .u64 n1) ∧ w'.cell? (Addr.add ⟨b1, 0, none⟩ 1) = some (.int .i64 n2) ∧ w'.cell? (Addr.add ⟨b1, 0, none⟩ 2) = some (.int .i64 n3) ∧ w'.cell? (Addr.add ⟨b1, 0, none⟩ 3) = some (.int .i64 n4) ∧ w'.cell? (Addr.add ⟨b1, 0, none⟩ 4) = some (.int .i64 n5) ∧ True) ∧
          R (.returned (.tuple #[.agg #[.int .u64 n1, .int .i64 n2, .int .i64 n3, .int .i64 n4, .int .i64 n5], .bool (ByteArray.toList z == ByteArray.toList z')])) w' := fun w' z z' k hb h1 h2 =>
    slot_rd (x := x) hb (by
      rw [h1, h2, beq_dec]
      exact hK w' (kp_blk k018 (by omega) k))
  -- behind the other slot: both orders
  have two : ∀ w50 (b' c' : Nat), Kp (fun j => j = b1) w18 w50 → Blk w50 b1 #[.int .u64 0, .int .i64 0, .int .i64 0, .int .i64 0, .int .i64 0] T_quotaref04_Told → Sl w50 T_uint8 1 (some ⟨b', 0, none⟩) 512 c' (bvs (slotB x.st x.s x.pt)) → b' ≠ b1 → ∀ (K : World → Prop),
      (∀ w56, Kp (fun j => j = b1) w18 w56 → Blk w56 b1 #[.int .u64 (x.st : Int), .int .i64 x.s.pg, .int .i64 x.s.lg, .int .i64 x.s.fr, .int .i64 x.pt] T_quotaref04_Told → Sl w56 T_uint8 1 (some ⟨b', 0, none⟩) 512 c' (bvs (slotB x.st x.s x.pt)) → K w56) →
      StF w50 ⟨b1, 0, none⟩ (.int .u64 (x.st : Int)) fun w2 => StF w2 (Addr.add ⟨b1, 0, none⟩ 1) (.int .i64 x.s.pg) fun w3 => StF w3 (Addr.add ⟨b1, 0, none⟩ 2) (.int .i64 x.s.lg) fun w4 => StF w4 (Addr.add ⟨b1, 0, none⟩ 3) (.int .i64 x.s.fr) fun w5 => StF w5 (Addr.add ⟨b1, 0, none⟩ 4) (.int .i64 x.pt) K := fun w50 b' c' k hb s hne K hk =>
    slot_st x hb fun w56 hb56 k56 => hk w56 (k.trans0 k56) hb56 (s.kp k56 fun j hj hh => by
      obtain ⟨ad, h1, h2⟩ := hj
      cases h1
      dsimp only at h2
      omega)
  refine ⟨fun w' => Kp (fun j => j = b1) w18 w', kd, _, _, _, _, _, fun w' k => ⟨(S9 w' k).at rfl rfl, (S9 w' k).at rfl rfl, (S9 w' k).at rfl rfl, (S9 w' k).at rfl rfl, (S9 w' k).at rfl rfl, trivial⟩, _, fun w' k => (S9 w' k).at rfl rfl, _, _, _, fun w' k => ⟨(S9 w' k).at rfl rfl, (S9 w' k).at rfl rfl, (S9 w' k).at rfl rfl, trivial⟩, _, fun w' k => (S9 w' k).at rfl rfl, ?_, ?_⟩
  · refine conv1 _ _ kd fun z1 hz1 => ⟨_, rfl, kd, ?_⟩
    refine rslot_c (s := x.s) xst hm ⟨xpt, by omega⟩ fun b' c' w50 s50 k50 hge => ⟨_, _, _, rfl, kd.trans0 k50.of_no, ?_⟩
    have kk := kd.trans0 (k50.of_no (S := fun j => j = b1))
    have xx := k50.blk ((Kp.drew w18 1).blk x18 id) id
    have hgd : w18.heap.size ≤ w18.drew.heap.size := (Kp.drew w18 1).size
    have hne : b' ≠ b1 := by omega
    refine ⟨?_, ?_⟩
    · refine conv2 _ _ _ _ s50 fun z2 hz2 => ⟨_, rfl, kk, ?_⟩
      exact two w50 b' c' kk xx s50 hne _ fun w56 k56 hb56 s56 => ⟨k56, fin w56 z1 z2 k56 hb56 hz1 hz2⟩
    · exact two w50 b' c' kk xx s50 hne _ fun w56 k56 hb56 s56 => ⟨k56, conv2 _ _ _ _ s56 fun z2 hz2 => ⟨_, rfl, k56, fin w56 z1 z2 k56 hb56 hz1 hz2⟩⟩
  · refine rslot_c (s := x.s) xst hm ⟨xpt, by omega⟩ fun b' c' w50 s50 k50 hge => ⟨_, _, _, rfl, kd.trans0 k50.of_no, ?_⟩
    have kk := kd.trans0 (k50.of_no (S := fun j => j = b1))
    have xx := k50.blk ((Kp.drew w18 1).blk x18 id) id
    have hgd : w18.heap.size ≤ w18.drew.heap.size := (Kp.drew w18 1).size
    have hne : b' ≠ b1 := by omega
    refine ⟨?_, ?_, ?_⟩
    · refine conv1 _ _ kk fun z1 hz1 => ⟨_, rfl, kk, ?_, ?_⟩
      · refine conv2 _ _ _ _ s50 fun z2 hz2 => ⟨_, rfl, kk, ?_⟩
        exact two w50 b' c' kk xx s50 hne _ fun w56 k56 hb56 s56 => ⟨k56, fin w56 z1 z2 k56 hb56 hz1 hz2⟩
      · exact two w50 b' c' kk xx s50 hne _ fun w56 k56 hb56 s56 => ⟨k56, conv2 _ _ _ _ s56 fun z2 hz2 => ⟨_, rfl, k56, fin w56 z1 z2 k56 hb56 hz1 hz2⟩⟩
    · refine conv2 _ _ _ _ s50 fun z2 hz2 => ⟨_, rfl, kk, ?_, ?_⟩
      · refine conv1 _ _ kk fun z1 hz1 => ⟨_, rfl, kk, ?_⟩
        exact two w50 b' c' kk xx s50 hne _ fun w56 k56 hb56 s56 => ⟨k56, fin w56 z1 z2 k56 hb56 hz1 hz2⟩
      · exact two w50 b' c' kk xx s50 hne _ fun w56 k56 hb56 s56 => ⟨k56, conv1 _ _ k56 fun z1 hz1 => ⟨_, rfl, k56, fin w56 z1 z2 k56 hb56 hz1 hz2⟩⟩
    · refine two w50 b' c' kk xx s50 hne _ fun w56 k56 hb56 s56 => ⟨k56, ?_, ?_⟩
      · exact conv1 _ _ k56 fun z1 hz1 => ⟨_, rfl, k56, conv2 _ _ _ _ s56 fun z2 hz2 => ⟨_, rfl, k56, fin w56 z1 z2 k56 hb56 hz1 hz2⟩⟩
      · exact conv2 _ _ _ _ s56 fun z2 hz2 => ⟨_, rfl, k56, conv1 _ _ k56 fun z1 hz1 => ⟨_, rfl, k56, fin w56 z1 z2 k56 hb56 hz1 hz2⟩⟩
end Go.Proofs.Ytaehmogilimmfaa

/- Layer 4, the document's: Master, Stands, Format, Open, Point. Conditions: the disk's queue and its loss's list are short. -/
set_option linter.unusedVariables false
set_option linter.unusedSimpArgs false
namespace Go.Proofs.Ytaehmogilimmfaa
open Go Go.RowKit

theorem told_al {w : World} (x : SlV) {K : Nat → World → Prop} (hk : ∀ b w', Blk w' b #[.int .u64 (x.st : Int), .int .i64 x.s.pg, .int .i64 x.s.lg, .int .i64 x.s.fr, .int .i64 x.pt] T_quotaref04_Told → Kp no w w' → w.heap.size ≤ b → K b w') :
    AlF w (.cells #[.int .u64 0, .int .i64 0, .int .i64 0, .int .i64 0, .int .i64 0] T_quotaref04_Told) fun b w0 => StF w0 ⟨b, 0, none⟩ (.int .u64 (x.st : Int)) fun w1 => StF w1 (Addr.add ⟨b, 0, none⟩ 1) (.int .i64 x.s.pg) fun w2 => StF w2 (Addr.add ⟨b, 0, none⟩ 2) (.int .i64 x.s.lg) fun w3 => StF w3 (Addr.add ⟨b, 0, none⟩ 3) (.int .i64 x.s.fr) fun w4 => StF w4 (Addr.add ⟨b, 0, none⟩ 4) (.int .i64 x.pt) fun w5 => K b w5 :=
  AlF.intro fun b w0 hbe hb k0 _ => slot_st x hb fun w' hb' k' => hk b w' hb' (kp_blk k0 (by omega) k') (by omega)
/-- The better of two. -/
def mst2 (x y : SlV × Bool) : SlV × Bool := if y.2 = true ∧ (x.2 = false ∨ x.1.st < y.1.st) then (y.1, true) else x
theorem mst2_best {v : Dv} (hd : v.down = false) (hn : 2 ≤ v.n) : mstR v = if (mst2 (rdSlot (v.read 0).1 0 (v.n : Int)) (rdSlot (v.read 1).1 1 (v.n : Int))).2 = true then ((mst2 (rdSlot (v.read 0).1 0 (v.n : Int)) (rdSlot (v.read 1).1 1 (v.n : Int))).1, 0) else (SlV.z, 50) := by
  have ok0 := fun h => (rdSlot_ok (bs := (v.read 0).1) (i := 0) (n := (v.n : Int)) h).2.2.1
  have ok1 := fun h => (rdSlot_ok (bs := (v.read 1).1) (i := 1) (n := (v.n : Int)) h).2.2.1
  have e : bestN v 2 = bestS v (bestS v SlV.z 0) 1 := rfl
  have nz : ∀ x : SlV, 1 ≤ x.st → x ≠ SlV.z := fun x h hh => by rw [hh] at h; exact absurd h (by decide)
  unfold mstR
  rw [hd, if_neg (by simp), show min 2 v.n = 2 by omega, e]
  unfold bestS
  rw [show ((0 : Nat) : Int) = 0 from rfl, show ((1 : Nat) : Int) = 1 from rfl]
  generalize rdSlot (v.read 0).1 0 (v.n : Int) = x at *
  generalize rdSlot (v.read 1).1 1 (v.n : Int) = y at *
  obtain ⟨x, q⟩ := x
  obtain ⟨y, r⟩ := y
  dsimp only at *
  unfold mst2
  dsimp only
  have z0 : SlV.z.st = 0 := rfl
  cases q with
  | true =>
    have h0 := ok0 rfl
    have p0 : 0 < x.st := h0
    cases r with
    | true =>
      have h1 := ok1 rfl
      by_cases hlt : x.st < y.st
      · simp [z0, p0, hlt, nz y h1]
      · simp [z0, p0, hlt, nz x h0]
    | false => simp [z0, p0, nz x h0]
  | false =>
    cases r with
    | true =>
      have h1 := ok1 rfl
      have p1 : 0 < y.st := h1
      simp [z0, p1, nz y h1]
    | false => simp

set_option maxRecDepth 100000 in
theorem rmaster_c {w : World} {a1 a2 : Option Addr} {l1 c1 l2 c2 n : Nat} {bs1 bs2 : List UInt8} {R : Ending → World → Prop} (hr1 : Rd w a1 (bvs bs1)) (hl1 : bs1.length = l1) (h1 : l1 = 512) (hr2 : Rd w a2 (bvs bs2)) (hl2 : bs2.length = l2) (h2 : l2 = 512)
    (hK : ∀ w', Kp no w w' → R (.returned (.tuple #[(mst2 (rdSlot bs1 0 (n : Int)) (rdSlot bs2 1 (n : Int))).1.v, .bool (mst2 (rdSlot bs1 0 (n : Int)) (rdSlot bs2 1 (n : Int))).2])) w') :
    GoC Try.prog F_ref04_Master #[.slice a1 l1 c1, .slice a2 l2 c2, .int .i64 (n : Int)] w R := by
  refine S_ref04_Master ?_
  unfold W_ref04_Master
  refine AlF.intro fun b1 w1 hb1e hb1 k1 _ => ?_
  have z1 := k1.size
  have lt1 := hb1.lt
  refine rright_c (i := 0) (n := n) (hr1.kp0 k1) hl1 h1 (by omega) fun w2 k2 => ⟨_, _, _, _, _, _, rfl, ?_⟩
  have k02 := k1.trans0 k2
  refine told_al (rdSlot bs1 (0 : Nat) n).1 fun b2 w8 hb2 k8 hge2 => ?_
  have k08 := k02.trans0 k8
  refine rright_c (i := 1) (n := n) (hr2.kp0 k08) hl2 h2 (by omega) fun w9 k9 => ⟨_, _, _, _, _, _, rfl, ?_⟩
  refine told_al (rdSlot bs2 (1 : Nat) n).1 fun b3 w15 hb3 k15 hge3 => ?_
  have k015 := (k08.trans0 k9).trans0 k15
  have x2 := (k9.trans0 k15).blk hb2 id
  have x1 := (((k2.trans0 k8).trans0 k9).trans0 k15).blk hb1 id
  have e0 : ((0 : Nat) : Int) = 0 := rfl
  have e1 : ((1 : Nat) : Int) = 1 := rfl
  rw [e0] at x2 ⊢
  rw [e1] at hb3 ⊢
  generalize rdSlot bs1 0 (n : Int) = x at *
  generalize rdSlot bs2 1 (n : Int) = y at *
  obtain ⟨x, q⟩ := x
  obtain ⟨y, r⟩ := y
  dsimp only at *
  unfold mst2 at hK
  dsimp only at hK
  have outY : r = true → (q = false ∨ x.st < y.st) → ∃ (n1 : Int) (n2 : Int) (n3 : Int) (n4 : Int) (n5 : Int), (w15.cell? ⟨b3, 0, none⟩ = some (.int .u64 n1) ∧ w15.cell? (Addr.add ⟨b3, 0, none⟩ 1) = some (.int .i64 n2) ∧ w15.cell? (Addr.add ⟨b3, 0, none⟩ 2) = some (.int .i64 n3) ∧ w15.cell? (Addr.add ⟨b3, 0, none⟩ 3) = some (.int .i64 n4) ∧ w15.cell? (Addr.add ⟨b3, 0, none⟩ 4) = some (.int .i64 n5) ∧ True) ∧
      (StF w15 ⟨b1, 0, none⟩ (.int .u64 n1) fun w1 => StF w1 (Addr.add ⟨b1, 0, none⟩ 1) (.int .i64 n2) fun w2 => StF w2 (Addr.add ⟨b1, 0, none⟩ 2) (.int .i64 n3) fun w3 => StF w3 (Addr.add ⟨b1, 0, none⟩ 3) (.int .i64 n4) fun w4 => StF w4 (Addr.add ⟨b1, 0, none⟩ 4) (.int .i64 n5) fun w' =>
      ∃ (n1 : Int) (n2 : Int) (n3 : Int) (n4 : Int) (n5 : Int), (w'.cell? ⟨b1, 0, none⟩ = some (.int .u64 n1) ∧ w'.cell? (Addr.add ⟨b1, 0, none⟩ 1) = some (.int .i64 n2) ∧ w'.cell? (Addr.add ⟨b1, 0, none⟩ 2) = some (.int .i64 n3) ∧ w'.cell? (Addr.add ⟨b1, 0, none⟩ 3) = some (.int .i64 n4) ∧ w'.cell? (Addr.add ⟨b1, 0, none⟩ 4) = some (.int .i64 n5) ∧ True) ∧
          R (.returned (.tuple #[.agg #[.int .u64 n1, .int .i64 n2, .int .i64 n3, .int .i64 n4, .int .i64 n5], .bool true])) w') := fun h1 h2 =>
    slot_rd (x := y) hb3 (slot_st y x1 fun w' hb' k' => slot_rd (x := y) hb' (by
      have := hK w' (kp_blk k015 (by omega) k')
      rw [if_pos ⟨h1, h2⟩] at this
      exact this))
  have outX : ¬ (r = true ∧ (q = false ∨ x.st < y.st)) → ∃ (n1 : Int) (n2 : Int) (n3 : Int) (n4 : Int) (n5 : Int), (w15.cell? ⟨b2, 0, none⟩ = some (.int .u64 n1) ∧ w15.cell? (Addr.add ⟨b2, 0, none⟩ 1) = some (.int .i64 n2) ∧ w15.cell? (Addr.add ⟨b2, 0, none⟩ 2) = some (.int .i64 n3) ∧ w15.cell? (Addr.add ⟨b2, 0, none⟩ 3) = some (.int .i64 n4) ∧ w15.cell? (Addr.add ⟨b2, 0, none⟩ 4) = some (.int .i64 n5) ∧ True) ∧
      (StF w15 ⟨b1, 0, none⟩ (.int .u64 n1) fun w1 => StF w1 (Addr.add ⟨b1, 0, none⟩ 1) (.int .i64 n2) fun w2 => StF w2 (Addr.add ⟨b1, 0, none⟩ 2) (.int .i64 n3) fun w3 => StF w3 (Addr.add ⟨b1, 0, none⟩ 3) (.int .i64 n4) fun w4 => StF w4 (Addr.add ⟨b1, 0, none⟩ 4) (.int .i64 n5) fun w' =>
      ∃ (n1 : Int) (n2 : Int) (n3 : Int) (n4 : Int) (n5 : Int), (w'.cell? ⟨b1, 0, none⟩ = some (.int .u64 n1) ∧ w'.cell? (Addr.add ⟨b1, 0, none⟩ 1) = some (.int .i64 n2) ∧ w'.cell? (Addr.add ⟨b1, 0, none⟩ 2) = some (.int .i64 n3) ∧ w'.cell? (Addr.add ⟨b1, 0, none⟩ 3) = some (.int .i64 n4) ∧ w'.cell? (Addr.add ⟨b1, 0, none⟩ 4) = some (.int .i64 n5) ∧ True) ∧
          R (.returned (.tuple #[.agg #[.int .u64 n1, .int .i64 n2, .int .i64 n3, .int .i64 n4, .int .i64 n5], .bool q])) w') := fun h =>
    slot_rd (x := x) x2 (slot_st x x1 fun w' hb' k' => slot_rd (x := x) hb' (by
      have := hK w' (kp_blk k015 (by omega) k')
      rw [if_neg h] at this
      exact this))
  refine cond_b (fun hr => ?_) (fun hr => outX fun hh => by rw [hr] at hh; cases hh.1)
  refine cond_b (fun hq => outY hr (.inl (by simpa using hq))) (fun hq => ?_)
  have hq : q = true := by simpa using hq
  refine ⟨_, hb3.at rfl rfl, _, x2.at rfl rfl, cond_d (fun hlt => outY hr (.inr (by omega))) (fun hlt => outX fun hh => ?_)⟩
  rcases hh.2 with h | h
  · rw [hq] at h; cases h
  · omega

theorem readS_len {v : Dv} (hok : v.Ok) (hd : v.down = false) {i : Int} (hi : v.there i) : (v.read i).1.length = 512 := by
  unfold Dv.read
  rw [hd, if_neg (by simp), if_neg (by simpa using hi)]
  have hq := hok.q
  have h0 : (v.sect i.toNat).length = 512 := sect_len hok (by obtain ⟨i0, i1⟩ := hi; omega)
  dsimp only
  generalize v.sect i.toNat = x at *
  generalize v.q = q at *
  induction q generalizing x with
  | nil => exact h0
  | cons p r ih =>
    rw [readL]
    refine ih _ ?_ (fun p hp => hq p (by simp [hp]))
    split
    · exact (hq p (by simp)).2.2
    · exact h0

set_option maxRecDepth 100000 in
theorem rstands_c {w : World} {ow : Nat → Nat} {t b : Nat} {v : Dv} {R : Ending → World → Prop} (h : RX w ow t b v) (hs : v.Sm 1000000) (hn : 2 ≤ v.n)
    (hK : ∀ w', Kp no w w' → R (.returned (.tuple #[(mstR v).1.v, .int .i64 ((mstR v).2 : Int)])) w') : GoC Try.prog F_ref04_Stands #[.pointer (some ⟨b, 0, none⟩)] w R := by
  refine S_ref04_Stands ?_
  unfold W_ref04_Stands
  refine AlF.intro fun b1 w1 hb1e hb1 k1 _ => ?_
  have z1 := k1.size
  have lt1 := hb1.lt
  have h1 := h.kp0 k1
  refine cond_f rfl (rdown_c h1 ⟨_, rfl, cond_b (fun hd => ?_) (fun hd => ?_)⟩)
  · have e : mstR v = (SlV.z, 40) := by unfold mstR; rw [if_pos hd]
    rw [e] at hK
    exact slot_st SlV.z hb1 fun w9 hb9 k9 => slot_rd (x := SlV.z) hb9 (hK w9 (kp_blk k1 (by omega) k9))
  have l0 := readS_len h.ok hd (i := 0) ⟨by omega, by omega⟩
  have l1 := readS_len h.ok hd (i := 1) ⟨by omega, by omega⟩
  have e := mst2_best hd hn
  refine rread_c h1 hs.q fun a2 l2 c2 w2 k2 s2 _ => ⟨_, _, _, _, rfl, ?_⟩
  refine rread_c (h1.kp0 k2) hs.q fun a3 l3 c3 w3 k3 s3 _ => ⟨_, _, _, _, rfl, ?_⟩
  have e2 : (v.read 0).1.length = l2 := by have := s2.1; rw [bvs_len] at this; omega
  have e3 : (v.read 1).1.length = l3 := by have := s3.1; rw [bvs_len] at this; omega
  refine rsize_c ((h1.kp0 k2).kp0 k3) ⟨_, rfl, ?_⟩
  refine rmaster_c (n := v.n) (s2.rd.kp0 k3) e2 (by omega) s3.rd e3 (by omega) fun w4 k4 => ⟨_, _, _, _, _, _, rfl, ?_⟩
  generalize mst2 (rdSlot (v.read 0).1 0 (v.n : Int)) (rdSlot (v.read 1).1 1 (v.n : Int)) = x at *
  obtain ⟨x, q⟩ := x
  dsimp only at *
  refine told_al x fun b2 w5 hb2 k5 hge2 => ?_
  have k15 := ((k2.trans0 k3).trans0 k4).trans0 k5
  have x1 := k15.blk hb1 id
  have k05 := k1.trans0 k15
  refine cond_b (fun hq => ?_) (fun hq => ?_)
  · have hq : q = false := by simpa using hq
    rw [e, hq, if_neg (by simp)] at hK
    exact slot_st SlV.z x1 fun w9 hb9 k9 => slot_rd (x := SlV.z) hb9 (hK w9 (kp_blk k05 (by omega) k9))
  · have hq : q = true := by simpa using hq
    rw [e, hq, if_pos rfl] at hK
    exact slot_rd (x := x) hb2 (slot_st x x1 fun w9 hb9 k9 => slot_rd (x := x) hb9 (hK w9 (kp_blk k05 (by omega) k9)))

theorem bs_new {w w' : World} {ow : Nat → Nat} {t b l c : Nat} {bs : List UInt8} (k : Kp no w w') (s : Sl w' T_uint8 1 (some ⟨b, 0, none⟩) l c (bvs bs)) (hge : w.heap.size ≤ b) (hl : bs.length ≤ 100000) : Bs w' (ext ow w.heap.size (t + 5)) t (some ⟨b, 0, none⟩) bs :=
  ⟨fun i v hv => by
    obtain ⟨b', o, ha, hc⟩ := s.rd i v hv
    cases ha
    exact ⟨b, 0, rfl, hc, by rw [ext_new hge]; exact ⟨by omega, by omega, by omega⟩⟩, by omega, fun hh => by cases hh⟩
theorem rwritten_c {w : World} {ow : Nat → Nat} {t b l c : Nat} {v : Dv} {i : Int} {a : Option Addr} {bs : List UInt8} {R : Ending → World → Prop} (h : RX w ow t b v) (hs : v.Sm 900000) (hr : Bs w ow t a bs) (hl : bs.length = l)
    (hK : ∀ w' ow', RX w' ow' t b (v.put i bs).2 → Fro (Td t) w ow w' ow' → R (.returned (.int .i64 ((v.put i bs).1 : Int))) w') : GoC Try.prog F_ref04_written #[.pointer (some ⟨b, 0, none⟩), .int .i64 i, .slice a l c] w R := by
  refine S_ref04_written ?_
  unfold W_ref04_written
  unfold Dv.put at hK
  refine rwrite_c h hr hl (by have := hs.q; omega) hs.k fun w2 ow2 h2 f2 => ⟨_, rfl, cond_ne (fun hne => ?_) (fun he => ?_)⟩
  · rw [if_pos (by omega)] at hK
    exact hK w2 ow2 h2 f2
  · rw [if_neg (by omega)] at hK
    have hs2 := Dv.write_sm (i := i) (b := bs) hs
    exact rsync_c h2 (by have := hs2.q; omega) hs2.k fun w3 ow3 h3 f3 => ⟨_, rfl, hK w3 ow3 h3 (f2.trans f3)⟩

set_option maxRecDepth 100000 in
theorem rformat_c {w : World} {ow : Nat → Nat} {t b : Nat} {v : Dv} {s : Sh} {R : Ending → World → Prop} (h : RX w ow t b v) (hs : v.Sm 800000)
    (hK : ∀ w' ow', RX w' ow' t b (formatR v s).2 → Fro (Td t) w ow w' ow' → R (.returned (.int .i64 ((formatR v s).1 : Int))) w') : GoC Try.prog F_ref04_Format #[.pointer (some ⟨b, 0, none⟩), s.v] w R := by
  refine S_ref04_Format ?_
  unfold W_ref04_Format
  refine AlF.intro fun b1 w1 hb1e hb1 k1 _ => cond_f rfl (sh_rd (x := s) hb1 (rneed_c (s := s) fun w2 k2 => ⟨_, _, rfl, ?_⟩))
  have x2 := k2.blk hb1 id
  have k02 := k1.trans0 k2
  have same : ∀ (n : Nat), formatR v s = (n, v) → R (.returned (.int .i64 (n : Int))) w2 := fun n e => by
    have := hK w2 ow (by rw [e]; exact h.kp0 k02) (by exact (Fro.kp0 k02).mono fun _ _ => trivial)
    rw [e] at this
    exact this
  unfold needR
  by_cases hm : s.may
  case neg =>
    rw [if_neg hm]
    exact cond_t rfl (same 2 (by unfold formatR; rw [if_pos (fun hh => hm hh.1)]))
  rw [if_pos hm]
  refine cond_f rfl (rsize_c (h.kp0 k02) ⟨_, rfl, cond_ne (fun hne => same 2 (by unfold formatR; rw [if_pos (fun hh => hne hh.2)])) (fun hn => ?_)⟩)
  refine rdown_c (h.kp0 k02) ⟨_, rfl, cond_b (fun hd => same 40 (by unfold formatR; rw [if_neg (fun hh => hh ⟨hm, hn⟩), if_pos hd])) (fun hd => ?_)⟩
  have e : formatR v s = if (v.put 0 (List.replicate 512 0)).1 ≠ 0 then v.put 0 (List.replicate 512 0) else (v.put 0 (List.replicate 512 0)).2.put 1 (slotB 1 s 0) := by
    unfold formatR
    rw [if_neg (fun hh => hh ⟨hm, hn⟩), hd, if_neg (by simp)]
  rw [e] at hK
  refine make_u8 (n := 512) (by omega) fun b3 w3 cur hb3 hcur k3 hb3e => ⟨_, _, _, rfl, ?_⟩
  have k03 := k02.trans0 k3
  have s3 := sl_of (List.length_replicate ..) hb3 hcur
  have z02 := k02.size
  have hB := bs_new (ow := ow) (t := t) k03 s3 (by omega) (by rw [List.length_replicate]; omega)
  have f3 : Fro (fun _ => True) w ow w3 (ext ow w.heap.size (t + 5)) := Fro.of_kp0 (t + 5) k03
  have h3 := h.fr f3 trivial trivial trivial trivial
  have x3 := k3.blk x2 id
  have t3 : ext ow w.heap.size (t + 5) b1 = t + 5 := ext_new (by omega)
  have F3 : Fro (Td t) w ow w3 (ext ow w.heap.size (t + 5)) := f3.mono fun _ _ => trivial
  generalize ext ow w.heap.size (t + 5) = ow3 at *
  have sm1 := Dv.put_sm (i := 0) (b := List.replicate 512 0) hs
  refine rwritten_c h3 (hs.mono (by omega)) hB (List.length_replicate ..) fun w4 ow4 h4 f4 => ⟨_, rfl, cond_ne (fun hne => ?_) (fun he => ?_)⟩
  · rw [if_pos (by omega)] at hK
    exact hK w4 ow4 h4 (F3.trans f4)
  rw [if_neg (by omega)] at hK
  obtain ⟨x4, t4⟩ := blk_fr x3 t3 f4 ⟨by omega, by omega, by omega⟩
  refine sh_rd (x := s) x4 (rslot_c (st := 1) (by omega) hm (by omega) fun b5 c5 w5 s5 k5 hge5 => ⟨_, _, _, rfl, ?_⟩)
  have hB5 := bs_new (ow := ow4) (t := t) k5 s5 hge5 (by rw [slotB_len]; omega)
  have f5 : Fro (fun _ => True) w4 ow4 w5 (ext ow4 w4.heap.size (t + 5)) := Fro.of_kp0 (t + 5) k5
  exact rwritten_c (h4.fr f5 trivial trivial trivial trivial) (sm1.mono (by omega)) hB5 (slotB_len _ _ _) fun w6 ow6 h6 f6 => ⟨_, rfl, hK w6 ow6 h6 ((F3.trans f4).trans ((f5.mono fun _ _ => trivial).trans f6))⟩

set_option maxRecDepth 100000 in
theorem ropen_c {w : World} {ow : Nat → Nat} {t b : Nat} {v : Dv} {R : Ending → World → Prop} (h : RX w ow t b v) (hs : v.Sm 1000000) (hn : 2 ≤ v.n)
    (hK : ∀ w', Kp no w w' → R (.returned (.tuple #[(openR v).1.v, .int .i64 (openR v).2.1, .int .i64 ((openR v).2.2 : Int)])) w') : GoC Try.prog F_ref04_Open #[.pointer (some ⟨b, 0, none⟩)] w R := by
  refine S_ref04_Open ?_
  unfold W_ref04_Open
  refine AlF.intro fun b1 w1 hb1e hb1 k1 _ => ?_
  have z1 := k1.size
  have lt1 := hb1.lt
  refine rstands_c (h.kp0 k1) hs hn fun w2 k2 => ⟨_, _, _, _, _, _, rfl, ?_⟩
  have hz : (mstR v).2 ≠ 0 → (mstR v).1 = SlV.z := fun hh => by
    unfold mstR at *
    split
    · rfl
    · split
      · rfl
      · rename_i h1 h2
        rw [if_neg h1, if_neg h2] at hh
        exact absurd rfl hh
  have e : openR v = ((mstR v).1.s, (mstR v).1.pt, (mstR v).2) := by
    unfold openR
    split
    · rename_i hh
      rw [hz hh]
      rfl
    · rename_i hh
      have : (mstR v).2 = 0 := by omega
      rw [this]
  rw [e] at hK
  generalize mstR v = m at *
  obtain ⟨x, n⟩ := m
  dsimp only at *
  refine told_al x fun b2 w3 hb2 k3 hge2 => ?_
  have k23 := k2.trans0 k3
  have s2 := k2.size
  have x1 := k23.blk hb1 id
  have k03 := k1.trans0 k23
  have kd : Kp no w3 w3.drew := Kp.drew w3 1
  have S : ∀ w', Kp (fun j => j = b1) w3 w' → Blk w' b2 #[.int .u64 (x.st : Int), .int .i64 x.s.pg, .int .i64 x.s.lg, .int .i64 x.s.fr, .int .i64 x.pt] T_quotaref04_Told := fun w' k => k.blk hb2 (by omega)
  refine ⟨fun w' => Kp (fun j => j = b1) w3 w', kd.of_no, _, _, _, fun w' k => ⟨(S w' k).at rfl rfl, (S w' k).at rfl rfl, (S w' k).at rfl rfl, trivial⟩, _, fun w' k => (S w' k).at rfl rfl, ?_⟩
  exact sh_st x.s (kd.blk x1 id) fun w5 hb5 k5 => ⟨kd.of_no.trans0 k5, sh_rd (x := x.s) hb5 (hK w5 (kp_blk (k03.trans0 kd) (by omega) k5))⟩

set_option maxRecDepth 100000 in
theorem rpoint_c {w : World} {ow : Nat → Nat} {t b : Nat} {v : Dv} {lsn : Int} {R : Ending → World → Prop} (h : RX w ow t b v) (hs : v.Sm 800000) (hn : 2 ≤ v.n)
    (hK : ∀ w' ow', RX w' ow' t b (pointR v lsn).2 → Fro (Td t) w ow w' ow' → R (.returned (.int .i64 ((pointR v lsn).1 : Int))) w') : GoC Try.prog F_ref04_Point #[.pointer (some ⟨b, 0, none⟩), .int .i64 lsn] w R := by
  refine S_ref04_Point ?_
  unfold W_ref04_Point
  have same : ∀ (n : Nat) w2, Kp no w w2 → pointR v lsn = (n, v) → R (.returned (.int .i64 (n : Int))) w2 := fun n w2 k2 e => by
    have := hK w2 ow (by rw [e]; exact h.kp0 k2) ((Fro.kp0 k2).mono fun _ _ => trivial)
    rw [e] at this
    exact this
  refine cond_f rfl (cond_d (fun h0 => same 4 w (Kp.refl _ _) (by unfold pointR; rw [if_pos (.inl h0)])) (fun h0 => cond_d (fun h1 => same 4 w (Kp.refl _ _) (by unfold pointR; rw [if_pos (.inr (by omega))])) (fun h1 => ?_)))
  have hlsn : ¬ (lsn < 0 ∨ 2147483647 < lsn) := by omega
  refine rstands_c h (hs.mono (by omega)) hn fun w2 k2 => ⟨_, _, _, _, _, _, rfl, ?_⟩
  refine told_al (mstR v).1 fun b1 w3 hb1 k3 hge1 => ?_
  have k03 := k2.trans0 k3
  refine cond_ne (fun hne => same _ w3 k03 (by unfold pointR; rw [if_neg hlsn, if_pos (by omega)])) (fun he => ?_)
  have hm0 : (mstR v).2 = 0 := by omega
  have hmo := mstR_ok hm0
  refine ⟨_, hb1.at rfl rfl, cond_eq (fun hst => same 6 w3 k03 (by unfold pointR; rw [if_neg hlsn, if_neg (by omega), if_pos (by omega)])) (fun hst => ?_)⟩
  have e : pointR v lsn = v.put ((((mstR v).1.st + 1) % 2 : Nat) : Int) (slotB ((mstR v).1.st + 1) (mstR v).1.s lsn) := by
    unfold pointR
    rw [if_neg hlsn, if_neg (by omega), if_neg (by omega)]
  rw [e] at hK
  generalize (mstR v).1 = x at *
  have kd : Kp no w3 w3.drew := Kp.drew w3 1
  have bx := kd.blk hb1 id
  refine ⟨fun w' => Blk w' b1 #[.int .u64 (x.st : Int), .int .i64 x.s.pg, .int .i64 x.s.lg, .int .i64 x.s.fr, .int .i64 x.pt] T_quotaref04_Told, bx, _, fun w' k => k.at rfl rfl, by decide, _, fun w' k => k.at rfl rfl, _, _, _, fun w' k => ⟨k.at rfl rfl, k.at rfl rfl, k.at rfl rfl, trivial⟩, ?_⟩
  have w1 : IntKind.wrap .u64 ((x.st : Int) + 1) = ((x.st + 1 : Nat) : Int) := by rw [wrap_u64 (by omega) (by omega)]; omega
  have w2' : IntKind.wrap .i64 (Int.tmod (((x.st + 1 : Nat)) : Int) 2) = (((x.st + 1) % 2 : Nat) : Int) := by
    rw [show Int.tmod (((x.st + 1 : Nat)) : Int) 2 = (((x.st + 1) % 2 : Nat) : Int) from rfl, wrap_i64 (by omega) (by omega)]
  rw [w1, w2']
  have k0d := k03.trans0 kd
  have sz2 := k2.size
  refine rslot_c (st := x.st + 1) (s := x.s) (by omega) hmo.1 (by omega) fun b5 c5 w5 s5 k5 hge5 => ⟨_, _, _, rfl, k5.blk bx id, ?_⟩
  have k05 := k0d.trans0 k5
  have szd := k0d.size
  have hB5 := bs_new (ow := ow) (t := t) k05 s5 (by omega) (by rw [slotB_len]; omega)
  have f5 : Fro (fun _ => True) w ow w5 (ext ow w.heap.size (t + 5)) := Fro.of_kp0 (t + 5) k05
  have t5 : ext ow w.heap.size (t + 5) b1 = t + 5 := ext_new (by omega)
  exact rwritten_c (h.fr f5 trivial trivial trivial trivial) (hs.mono (by omega)) hB5 (slotB_len _ _ _) fun w6 ow6 h6 f6 => ⟨_, rfl, (blk_fr (k5.blk bx id) t5 f6 ⟨by omega, by omega, by omega⟩).1, hK w6 ow6 h6 ((f5.mono fun _ _ => trivial).trans f6)⟩
end Go.Proofs.Ytaehmogilimmfaa

/- Layer 4's scripts, as they are handed in. Conditions: none. -/
set_option linter.unusedVariables false
set_option linter.unusedSimpArgs false
namespace Go.Proofs.Ytaehmogilimmfaa
open Go Go.RowKit Go.ChangeShapes Go.WideShapes

/-- Bytes, handed in. -/
structure BytesOk (W : World) (a : Option Addr) (l : Nat) (bs : List UInt8) : Prop where
  n : bs.length = l
  rd : Rd W a (bvs bs)
  ln : l ≤ 140737488351232
  nn : a = none → l = 0
theorem bytes_open' {W : World} {cs : List Value} (h : ClW Try.prog W T_s_uint8 cs) : ∃ a l c bs, cs = [.slice a l c] ∧ BytesOk W a l bs := by
  obtain ⟨a, l, c, h0⟩ := h.cl.slc (e := T_uint8) (by kernel_rfl)
  cases h0
  have hln := h.len (e := T_uint8) (by kernel_rfl)
  have b1 : Try.prog.bytesOf T_uint8 = 1 := by kernel_rfl
  have hreach : reachBytes = 140737488351232 := by decide
  rw [b1, hreach] at hln
  obtain ⟨hl, hm, hz, css, g1, g2⟩ := h.cl.cells (e := T_uint8) (s := 1) (by kernel_rfl) (by kernel_rfl) (by omega)
  have each : ∀ i, i < l → ∃ x : UInt8, css i = [bv x] := fun i hi => by
    obtain ⟨n, hn, wn⟩ := (g1 i hi).2.int (k := .u8) (by kernel_rfl)
    obtain ⟨m, rfl⟩ := u8_wf wn
    exact ⟨m, hn⟩
  obtain ⟨f, hf⟩ := Deep.choose_lt (α := UInt8) (p := fun i x => css i = [bv x]) each
  refine ⟨a, l, c, (List.range l).map f, rfl, by simp, fun i v hv => ?_, by omega, fun h0 => ?_⟩
  · unfold bvs at hv
    have hil : i < l := by have := (List.getElem?_eq_some_iff.1 hv).1; simpa using this
    have hv' : v = bv (f i) := by
      rw [List.getElem?_map, List.getElem?_map, List.getElem?_range hil] at hv
      simpa using hv.symm
    subst hv'
    obtain ⟨b, o, ha, hc⟩ := g2 i hil 0 (bv (f i)) (by rw [hf i hil]; rfl)
    exact ⟨b, o, ha, by simpa using hc⟩
  · by_cases hl0 : l = 0
    · exact hl0
    · obtain ⟨b, o, ha, _⟩ := g2 0 (by omega) 0 (bv (f 0)) (by rw [hf 0 (by omega)]; rfl)
      rw [h0] at ha
      cases ha

/-- One call. -/
structure Op4 where
  kind : Int
  s : Sh
  n : Int
  la : Option Addr
  lc : Nat
  keep : List Nat
  torn : Int
  off : Int
  ba : Option Addr
  bc : Nat
  bs : List UInt8
  little : Bool
def Op4.cs (o : Op4) : List Value := [.int .i64 o.kind, .int .i64 o.s.pg, .int .i64 o.s.lg, .int .i64 o.s.fr, .int .i64 o.n, .slice o.la o.keep.length o.lc, .int .i64 o.torn, .int .i64 o.off, .slice o.ba o.bs.length o.bc, .bool o.little]
theorem Op4.cs_len (o : Op4) : o.cs.length = 10 := rfl
def fO4 : List Op4 → List Value := flatV Op4.cs
instance : Inhabited Op4 := ⟨⟨0, ⟨0, 0, 0⟩, 0, none, 0, [], 0, 0, none, 0, [], false⟩⟩
structure Op4.Ok (W : World) (o : Op4) : Prop where
  n : -9223372036854775808 ≤ o.n ∧ o.n ≤ 9223372036854775807
  l : LossOk W o.la o.keep.length o.keep o.torn o.off
  b : BytesOk W o.ba o.bs.length o.bs
theorem op4_open {W : World} {cs : List Value} (h : ClW Try.prog W T_quotalaw04_Op cs) : ∃ x : Op4, cs = x.cs ∧ x.Ok W := by
  have hl := h.cl.slen (s := 10) (by kernel_rfl)
  have f0 := h.cl.field 0 (e := T_int) (o := 0) (s := 1) (by kernel_rfl)
  have f1 := h.cl.field 1 (e := T_api_Shape) (o := 1) (s := 3) (by kernel_rfl)
  have f4 := h.cl.field 2 (e := T_int) (o := 4) (s := 1) (by kernel_rfl)
  have f5 := h.field 3 (e := T_api_Loss) (o := 5) (s := 3) (by kernel_rfl)
  have f8 := h.field 4 (e := T_s_uint8) (o := 8) (s := 1) (by kernel_rfl)
  have f9 := h.cl.field 5 (e := T_bool) (o := 9) (s := 1) (by kernel_rfl)
  match cs, hl with
  | [x0, x1, x2, x3, x4, x5, x6, x7, x8, x9], _ =>
    simp only [List.drop_zero, List.drop_succ_cons, List.take_succ_cons, List.take_zero] at f0 f1 f4 f5 f8 f9
    obtain ⟨k, h0, w0⟩ := f0.int (k := .i64) (by kernel_rfl)
    have g0 := f1.field 0 (e := T_int) (o := 0) (s := 1) (by kernel_rfl)
    have g1 := f1.field 1 (e := T_int) (o := 1) (s := 1) (by kernel_rfl)
    have g2 := f1.field 2 (e := T_int) (o := 2) (s := 1) (by kernel_rfl)
    simp only [List.drop_zero, List.drop_succ_cons, List.take_succ_cons, List.take_zero] at g0 g1 g2
    obtain ⟨p, e0, _⟩ := g0.int (k := .i64) (by kernel_rfl)
    obtain ⟨q, e1, _⟩ := g1.int (k := .i64) (by kernel_rfl)
    obtain ⟨r, e2, _⟩ := g2.int (k := .i64) (by kernel_rfl)
    obtain ⟨n, h4, w4⟩ := f4.int (k := .i64) (by kernel_rfl)
    obtain ⟨a, l, c, keep, torn, off, h5, hL⟩ := loss_open' f5
    obtain ⟨ba, bl, bc, bs, h8, hB⟩ := bytes_open' f8
    obtain ⟨t, h9⟩ := f9.bool (by kernel_rfl)
    cases h0; cases e0; cases e1; cases e2; cases h4; cases h5; cases h8; cases h9
    have hn := hL.n
    subst hn
    have hn := hB.n
    subst hn
    exact ⟨⟨k, ⟨p, q, r⟩, n, a, c, keep, torn, off, ba, bc, bs, t⟩, rfl, i64_wf w4, hL, hB⟩
structure Ops4Ok (W : World) (a : Option Addr) (l c : Nat) (L : List Op4) : Prop where
  n : L.length = l
  rd : Rd W a (fO4 L)
  ok : ∀ x ∈ L, x.Ok W
theorem rd_flat4 {W : World} {a : Option Addr} {L : List Op4} (h : ∀ (i : Nat) (hi : i < L.length) (q : Nat) (v : Value), (L[i]).cs[q]? = some v → ∃ b o, a = some ⟨b, o, none⟩ ∧ W.cell? ⟨b, o + i * 10 + q, none⟩ = some v) : Rd W a (fO4 L) := by
  intro j v hv
  have hj : j < L.length * 10 := by have := (List.getElem?_eq_some_iff.1 hv).1; rwa [fO4, flatV_len Op4.cs_len] at this
  have hq : j % 10 < 10 := Nat.mod_lt _ (by omega)
  have hi : j / 10 < L.length := by omega
  have e : j / 10 * 10 + j % 10 = j := by omega
  have hg := flatV_get Op4.cs_len L (j / 10) hi (j % 10) hq
  rw [e] at hg
  unfold fO4 at hv
  rw [hv] at hg
  obtain ⟨b, o, ha, hc⟩ := h (j / 10) hi (j % 10) v hg.symm
  refine ⟨b, o, ha, ?_⟩
  rwa [Nat.add_assoc, e] at hc
theorem ops4_open {W : World} {v : Value} (h : ArgW Try.prog W T_s_quotalaw04_Op v) : ∃ a l c L, v = .slice a l c ∧ Ops4Ok W a l c L := by
  obtain ⟨a, l, c, rfl, hc⟩ := h.arg.slice (e := T_quotalaw04_Op) (by kernel_rfl)
  have hw : ClW Try.prog W T_s_quotalaw04_Op [.slice a l c] := h.clw
  obtain ⟨css, h1, h2⟩ := hw.cells (e := T_quotalaw04_Op) (s := 10) (by kernel_rfl) (by kernel_rfl) (by omega)
  have each : ∀ i, i < l → ∃ x : Op4, css i = x.cs ∧ x.Ok W := fun i hi => op4_open (h1 i hi)
  obtain ⟨f, hf⟩ := Deep.choose_lt (α := Op4) (p := fun i x => css i = x.cs ∧ x.Ok W) each
  refine ⟨a, l, c, (List.range l).map f, rfl, by simp, rd_flat4 fun i hi q v hv => ?_, fun x hx => ?_⟩
  · have hil : i < l := by simpa using hi
    have e : ((List.range l).map f)[i] = f i := by simp
    rw [e] at hv
    exact h2 i hil q v (by rw [(hf i hil).1]; exact hv)
  · simp only [List.mem_map, List.mem_range] at hx
    obtain ⟨i, hi, rfl⟩ := hx
    exact (hf i hi).2

/-- Bytes of any number, into owned bytes. -/
theorem copy_any {w : World} {b c n : Nat} {sa : Option Addr} {sc : Nat} {cur : Array Value} {img bs : List UInt8} (hl : img.length = n) (hblk : Blk w b cur T_uint8) (hcur : cur.toList = bvs img) (hs : Rd w sa (bvs bs)) (hs0 : sa = none → bs.length = 0) {K : Value → World → Prop}
    (hK : ∀ w' cur', Blk w' b cur' T_uint8 → cur'.toList = bvs (ovr img 0 (bs.take n)) → Kp (fun j => j = b) w w' → K (.int .i64 ((min n bs.length : Nat) : Int)) w') :
    RunF Try.prog (Builtin.copy_ #[T_s_uint8, T_s_uint8] T_int #[.slice (some ⟨b, 0, none⟩) n c, .slice sa bs.length sc]) w K := by
  by_cases hb0 : bs = []
  · subst hb0
    refine ⟨_, _, run_copy_none (P := Try.prog) w T_s_uint8 T_s_uint8 T_int T_uint8 _ _ n c 0 sc (by kernel_rfl) (by kernel_rfl) (Nat.zero_min _), ?_⟩
    have := hK w cur hblk (by rw [List.take_nil, ovr_nil]; exact hcur) (Kp.refl _ _)
    have this : K (.int .i64 0) w := by simpa using this
    exact this
  by_cases hn0 : n = 0
  · subst hn0
    refine ⟨_, _, run_copy_none (P := Try.prog) w T_s_uint8 T_s_uint8 T_int T_uint8 _ _ 0 c bs.length sc (by kernel_rfl) (by kernel_rfl) (Nat.min_zero _), ?_⟩
    have := hK w cur hblk (by rw [List.take_zero, ovr_nil]; exact hcur) (Kp.refl _ _)
    have this : K (.int .i64 0) w := by simpa using this
    exact this
  obtain ⟨bs', os, hsa, _, hsc⟩ := hs.addr (fun h0 => by have := congrArg List.length h0; rw [bvs_len] at this; simp at this; exact hb0 this)
  subst hsa
  have htl : (bs.take n).length = min n bs.length := List.length_take ..
  have hsz : cur.size = n := by rw [← Array.length_toList, hcur, bvs_len, hl]
  refine ⟨_, _, run_copy_row (P := Try.prog) w T_s_uint8 T_s_uint8 T_int T_uint8 b 0 n c ⟨bs', os, none⟩ bs.length sc cur T_uint8 (bvs (bs.take n)) (by kernel_rfl) (by kernel_rfl) hblk (by rw [bvs_len, htl]; exact Nat.min_comm _ _) (fun j v hv => by
    rw [add_at]
    refine hsc j v ?_
    unfold bvs at hv ⊢
    rw [List.getElem?_map, List.getElem?_take] at hv
    rw [List.getElem?_map]
    split at hv
    · exact hv
    · cases hv) (by rw [bvs_len, htl]; omega) bvs_one, ?_⟩
  have e : goInt (bvs (bs.take n)).length = .int .i64 ((min n bs.length : Nat) : Int) := by rw [bvs_len, htl]; rfl
  rw [e]
  refine hK _ _ (setRow_blk hblk) ?_ (Kp.setRow.mono fun k _ hk => hk)
  show List.take 0 cur.toList ++ bvs (bs.take n) ++ cur.toList.drop (0 + (bvs (bs.take n)).length) = _
  rw [hcur]
  unfold ovr
  rw [bvs_app, bvs_app, List.take_zero, List.take_zero, bvs_len, bvs_drop]
  rfl
end Go.Proofs.Ytaehmogilimmfaa

/- Layer 4: two disks side by side. Conditions: none. -/
set_option linter.unusedVariables false
set_option linter.unusedSimpArgs false
namespace Go.Proofs.Ytaehmogilimmfaa
open Go Go.RowKit

/-- Two disks that are alike, and the shape for which they were made. -/
structure Pr (w : World) (ow : Nat → Nat) (t u p r pb : Nat) (S : Sh) (v : Dv) : Prop where
  d : DX w ow t p v
  e : RX w ow u r v
  x : Blk w pb #[.pointer (some ⟨p, 0, none⟩), .pointer (some ⟨r, 0, none⟩), .int .i64 S.pg, .int .i64 S.lg, .int .i64 S.fr] T_quotalaw04_Pair
  tx : ow pb = 1
  o : 10 ≤ t ∧ t + 10 ≤ u
section
variable {T : Nat → Prop} {w w' : World} {ow ow' : Nat → Nat} {t u p r pb : Nat} {S : Sh} {v : Dv}
theorem Pr.fr (h : Pr w ow t u p r pb S v) (f : Fro T w ow w' ow') (h1 : T 1) (ht : ∀ k, k ≤ 3 → T (t + k)) (hu : ∀ k, k ≤ 3 → T (u + k)) : Pr w' ow' t u p r pb S v := by
  have g := blk_fr h.x h.tx f h1
  exact ⟨h.d.fr f (ht 0 (by omega)) (ht 1 (by omega)) (ht 2 (by omega)) (ht 3 (by omega)), h.e.fr f (hu 0 (by omega)) (hu 1 (by omega)) (hu 2 (by omega)) (hu 3 (by omega)), g.1, g.2, h.o⟩
theorem Pr.kp0 (h : Pr w ow t u p r pb S v) (k : Kp no w w') : Pr w' ow t u p r pb S v := h.fr (Fro.kp0 k) trivial (fun _ _ => trivial) fun _ _ => trivial
theorem Pr.frT (h : Pr w ow t u p r pb S v) (f : Fro (fun _ => True) w ow w' ow') : Pr w' ow' t u p r pb S v := h.fr f trivial (fun _ _ => trivial) fun _ _ => trivial
/-- A step of the program's, and then one of the document's. -/
theorem Pr.st {w2 : World} {ow2 : Nat → Nat} {v' : Dv} (h : Pr w ow t u p r pb S v) (hd : DX w' ow' t p v') (f : Fro (Td t) w ow w' ow') (he : RX w2 ow2 u r v') (f2 : Fro (Td u) w' ow' w2 ow2) : Pr w2 ow2 t u p r pb S v' := by
  have o := h.o
  have g := blk_fr h.x h.tx f ⟨by omega, by omega, by omega⟩
  have g2 := blk_fr g.1 g.2 f2 ⟨by omega, by omega, by omega⟩
  exact ⟨hd.fr f2 ⟨by omega, by omega, by omega⟩ ⟨by omega, by omega, by omega⟩ ⟨by omega, by omega, by omega⟩ ⟨by omega, by omega, by omega⟩, he, g2.1, g2.2, o⟩
theorem Pr.e1 (h : Pr w ow t u p r pb S v) (f : Fro (Td t) w ow w' ow') : RX w' ow' u r v := by
  have o := h.o
  exact h.e.fr f ⟨by omega, by omega, by omega⟩ ⟨by omega, by omega, by omega⟩ ⟨by omega, by omega, by omega⟩ ⟨by omega, by omega, by omega⟩
theorem Pr.x1 (h : Pr w ow t u p r pb S v) (f : Fro (Td t) w ow w' ow') : Blk w' pb #[.pointer (some ⟨p, 0, none⟩), .pointer (some ⟨r, 0, none⟩), .int .i64 S.pg, .int .i64 S.lg, .int .i64 S.fr] T_quotalaw04_Pair := by
  have o := h.o
  exact (blk_fr h.x h.tx f ⟨by omega, by omega, by omega⟩).1
end
/-- What a step on both keeps. -/
def Tb (t u : Nat) : Nat → Prop := fun x => Td t x ∧ Td u x
theorem tb_fr {w w' w2 : World} {ow ow' ow2 : Nat → Nat} {t u : Nat} (f : Fro (Td t) w ow w' ow') (f2 : Fro (Td u) w' ow' w2 ow2) : Fro (Tb t u) w ow w2 ow2 := (f.mono fun _ h => h.1).trans (f2.mono fun _ h => h.2)

set_option maxRecDepth 100000 in
theorem samePending_c {w : World} {a1 a2 : Option Addr} {c1 c2 l1 l2 : Nat} {X Y : List PD} {R : Ending → World → Prop} (e1 : X.length = l1) (e2 : Y.length = l2) (h1 : Rd w a1 (fP X)) (h2 : Rd w a2 (fP Y)) (hx : ∀ x ∈ X, Rd w x.a (bvs x.bs) ∧ (x.a = none → x.bs.length = 0)) (hy : ∀ x ∈ Y, Rd w x.a (bvs x.bs) ∧ (x.a = none → x.bs.length = 0)) (he : X.map PD.v = Y.map PD.v) (hl : X.length ≤ 1000000)
    (h : ∀ w', Kp no w w' → R (.returned (.bool true)) w') : GoC Try.prog F_law04_samePending #[.slice a1 l1 c1, .slice a2 l2 c2] w R := by
  subst e1 e2
  have hlen : X.length = Y.length := by have := congrArg List.length he; simpa using this
  refine S_law04_samePending ?_
  unfold W_law04_samePending
  refine cond_f (by rw [hlen]; simp) ?_
  refine loopN (fun s w' => Kp no w w' ∧ ∃ k : Nat, s.1 = (k : Int)) (fun s _ => X.length - s.1.toNat) ⟨Kp.refl _ _, 0, rfl⟩ ?_
  rintro ⟨k0, u⟩ w1 ⟨k1, k, hk0⟩ _
  dsimp only at hk0 ⊢
  subst hk0
  refine cond_d (fun hlt => ?_) (fun hge => h w1 k1)
  have hk : k < X.length := by omega
  have hk' : k < Y.length := by omega
  have hkw : IntKind.wrap .i64 ((k : Int) + 1) = ((k + 1 : Nat) : Int) := by rw [wrap_i64 (by omega) (by omega)]; omega
  rw [hkw]
  have hv : (X[k]).v = (Y[k]).v := by
    have := congrArg (fun l => l[k]?) he
    simpa [hk, hk'] using this
  have hs : (X[k]).sec = (Y[k]).sec := congrArg Prod.fst hv
  have hb : (X[k]).bs = (Y[k]).bs := congrArg Prod.snd hv
  have kd := k1.trans0 (Kp.drew w1 1)
  have ex : ∀ {w' : World} {a : Option Addr} {Z : List PD}, Rd w' a (fP Z) → ∀ (hz : k < Z.length), ∃ b o, a = some ⟨b, o, none⟩ ∧ w'.cell? ((⟨b, o, none⟩ : Addr).add (k * 2)) = some (.int .i64 (Z[k]).sec) ∧ w'.cell? (Addr.add ((⟨b, o, none⟩ : Addr).add (k * 2)) 1) = some (.slice (Z[k]).a (Z[k]).bs.length (Z[k]).c) := fun {w' a Z} hr hz => by
    have g0 := flatV_get PD.cs_len Z k hz 0 (by omega)
    have g1 := flatV_get PD.cs_len Z k hz 1 (by omega)
    obtain ⟨b, o, ha, hc0⟩ := hr (k * 2 + 0) (.int .i64 (Z[k]).sec) (by unfold fP; rw [g0]; rfl)
    obtain ⟨b', o', ha', hc1⟩ := hr (k * 2 + 1) (.slice (Z[k]).a (Z[k]).bs.length (Z[k]).c) (by unfold fP; rw [g1]; rfl)
    rw [ha] at ha'
    cases ha'
    exact ⟨b, o, ha, by rw [add_at]; exact hc0, by rw [add_at, add_at, Nat.add_assoc]; exact hc1⟩
  obtain ⟨bx, ox, hax, _, _⟩ := ex (h1.kp0 kd) hk
  obtain ⟨by_, oy, hay, _, _⟩ := ex (h2.kp0 kd) hk'
  obtain ⟨rx, nx⟩ := hx _ (List.getElem_mem hk)
  obtain ⟨ry, ny⟩ := hy _ (List.getElem_mem hk')
  have cx : ∀ w', Kp no w w' → w'.cell? ((⟨bx, ox, none⟩ : Addr).add (Int.toNat (k : Int) * 2)) = some (.int .i64 (X[k]).sec) ∧ w'.cell? (Addr.add ((⟨bx, ox, none⟩ : Addr).add (Int.toNat (k : Int) * 2)) 1) = some (.slice (X[k]).a (X[k]).bs.length (X[k]).c) := fun w' kw => by
    obtain ⟨b, o, ha, g⟩ := ex (h1.kp0 kw) hk
    rw [hax] at ha
    cases ha
    rw [Int.toNat_natCast]
    exact g
  have cy : ∀ w', Kp no w w' → w'.cell? ((⟨by_, oy, none⟩ : Addr).add (Int.toNat (k : Int) * 2)) = some (.int .i64 (Y[k]).sec) ∧ w'.cell? (Addr.add ((⟨by_, oy, none⟩ : Addr).add (Int.toNat (k : Int) * 2)) 1) = some (.slice (Y[k]).a (Y[k]).bs.length (Y[k]).c) := fun w' kw => by
    obtain ⟨b, o, ha, g⟩ := ex (h2.kp0 kw) hk'
    rw [hay] at ha
    cases ha
    rw [Int.toNat_natCast]
    exact g
  have convX : ∀ w' (K : Value → World → Prop), Kp no w w' → (∀ z : ByteArray, z.toList = (X[k]).bs → K (.string z) w') → RunF Try.prog (convert T_s_uint8 T_string (.slice (X[k]).a (X[k]).bs.length (X[k]).c)) w' K := fun w' K kw hk2 =>
    convert_bytes (e := T_uint8) (by kernel_rfl) (by kernel_rfl) (by kernel_rfl) (rx.kp0 kw) rfl nx hk2
  have convY : ∀ w' (K : Value → World → Prop), Kp no w w' → (∀ z : ByteArray, z.toList = (Y[k]).bs → K (.string z) w') → RunF Try.prog (convert T_s_uint8 T_string (.slice (Y[k]).a (Y[k]).bs.length (Y[k]).c)) w' K := fun w' K kw hk2 =>
    convert_bytes (e := T_uint8) (by kernel_rfl) (by kernel_rfl) (by kernel_rfl) (ry.kp0 kw) rfl ny hk2
  refine ⟨fun w' => Kp no w w', kd, by omega, hlt, _, hax, _, fun w' kw => (cx w' kw).1, by omega, by omega, _, hay, _, fun w' kw => (cy w' kw).1, cond_f (by rw [hs]; simp) ⟨by omega, hlt, _, hax, _, _, _, fun w' kw => (cx w' kw).2, by omega, by omega, _, hay, _, _, _, fun w' kw => (cy w' kw).2, ?_, ?_⟩⟩
  · refine convX _ _ kd fun z1 hz1 => ⟨_, rfl, kd, convY _ _ kd fun z2 hz2 => ⟨_, rfl, kd, cond_f (by rw [hz1, hz2, hb]; simp) ⟨⟨kd, k + 1, rfl⟩, by simp only [Int.toNat_natCast]; omega⟩⟩⟩
  · refine convY _ _ kd fun z1 hz1 => ⟨_, rfl, kd, convX _ _ kd fun z2 hz2 => ⟨_, rfl, kd, cond_f (by rw [hz1, hz2, hb]; simp) ⟨⟨kd, k + 1, rfl⟩, by simp only [Int.toNat_natCast]; omega⟩⟩⟩

theorem sl_nn {w : World} {a : Option Addr} {l c : Nat} {bs : List UInt8} (s : Sl w T_uint8 1 a l c (bvs bs)) : a = none → l = 0 := fun ha => by
  rcases s.2.2 with ⟨_, h0⟩ | ⟨b, cur, h, _⟩
  · have := s.2.1; omega
  · rw [ha] at h; cases h

set_option maxRecDepth 100000 in
set_option maxHeartbeats 2000000 in
theorem alike_c {w : World} {ow : Nat → Nat} {t u p r pb : Nat} {S : Sh} {v : Dv} {R : Ending → World → Prop} (h : Pr w ow t u p r pb S v) (hq : v.q.length ≤ 1000000) (hK : ∀ w', Kp no w w' → R (.returned (.bool true)) w') :
    GoC Try.prog F_law04_Pair_alike #[.pointer (some ⟨pb, 0, none⟩)] w R := by
  refine S_law04_Pair_alike ?_
  unfold W_law04_Pair_alike
  let B : World → Prop := fun w' => Blk w' pb #[.pointer (some ⟨p, 0, none⟩), .pointer (some ⟨r, 0, none⟩), .int .i64 S.pg, .int .i64 S.lg, .int .i64 S.fr] T_quotalaw04_Pair
  have cd : ∀ w', B w' → w'.cell? ⟨pb, 0, none⟩ = some (.pointer (some ⟨p, 0, none⟩)) := fun w' hb => hb.at rfl rfl
  have ce : ∀ w', B w' → w'.cell? (Addr.add ⟨pb, 0, none⟩ 1) = some (.pointer (some ⟨r, 0, none⟩)) := fun w' hb => hb.at rfl rfl
  have kd : Kp no w w.drew := Kp.drew w 1
  have bk : ∀ w', Kp no w w' → B w' := fun w' k => k.blk h.x id
  have fin : ∀ w8, Kp no w w8 → NilF (some ⟨pb, 0, none⟩) fun d7 => ∃ (p8 : Option Addr), (∀ w, B w → w.cell? d7 = some (.pointer p8)) ∧ (NilF (some ⟨pb, 0, none⟩) fun d8 => (∃ (p9 : Option Addr), (∀ w, B w → w.cell? (Addr.add d8 1) = some (.pointer p9)) ∧ (CallF Try.prog F_sectors_Device_Cache #[(.pointer p8)] w8 (fun r9 w9 => ∃ (a3 : Option Addr) (l3 c3 : Nat), r9 = (.slice a3 l3 c3) ∧ (B w9 ∧ (CallF Try.prog F_ref03_Device_Cache #[(.pointer p9)] w9 (fun r10 w10 => ∃ (a4 : Option Addr) (l4 c4 : Nat), r10 = (.slice a4 l4 c4) ∧ (B w10 ∧ (CallF Try.prog F_law04_samePending #[(.slice a3 l3 c3), (.slice a4 l4 c4)] w10 (fun r11 w11 => ∃ (q3 : Bool), r11 = (.bool q3) ∧ (B w11 ∧ (R (.returned (.bool q3)) w11))) (PanF R)))) (PanF R)))) (PanF R)))) := fun w8 k8 => by
    refine NilF.intro rfl ⟨_, cd, NilF.intro rfl ⟨_, ce, ?_⟩⟩
    refine cache_c (h.d.kp0 k8) hq fun a5 c5 X w9 hX hXv => ⟨_, _, _, rfl, bk _ (k8.trans0 hX.k), ?_⟩
    refine rcache_c ((h.e.kp0 k8).kp0 hX.k) hq fun a6 c6 Y w10 hY hYv => ⟨_, _, _, rfl, bk _ ((k8.trans0 hX.k).trans0 hY.k), ?_⟩
    have k10 := (k8.trans0 hX.k).trans0 hY.k
    refine samePending_c hX.n hY.n (hX.s.rd.kp0 hY.k) hY.s.rd (fun x hx => ⟨(hX.x x hx).1.rd.kp0 hY.k, sl_nn (hX.x x hx).1⟩) (fun x hx => ⟨(hY.x x hx).1.rd, sl_nn (hY.x x hx).1⟩) (by rw [hXv, hYv]) (by rw [hX.n]; exact hq) fun w11 k11 => ⟨_, rfl, bk _ (k10.trans0 k11), hK _ (k10.trans0 k11)⟩
  refine ⟨B, bk _ kd, NilF.intro rfl ⟨_, cd, NilF.intro rfl ⟨_, ce, ?_⟩⟩⟩
  refine down_c (h.d.kp0 kd) ⟨_, rfl, bk _ kd, rdown_c (h.e.kp0 kd) ⟨_, rfl, bk _ kd, cond_t (by simp) ?_⟩⟩
  refine NilF.intro rfl ⟨_, cd, NilF.intro rfl ⟨_, ce, ?_⟩⟩
  refine calls_c (h.d.kp0 kd) ⟨_, rfl, bk _ kd, rcalls_c (h.e.kp0 kd) ⟨_, rfl, bk _ kd, cond_t (by simp) ?_⟩⟩
  refine NilF.intro rfl ⟨_, cd, NilF.intro rfl ⟨_, ce, ?_⟩⟩
  refine image_c (h.d.kp0 kd) fun a1 c1 w5 s5 k5 fr5 => ⟨_, _, _, rfl, bk _ (kd.trans0 k5), ?_, ?_⟩
  · have k05 := kd.trans0 k5
    refine convert_bytes (e := T_uint8) (by kernel_rfl) (by kernel_rfl) (by kernel_rfl) s5.rd rfl (sl_nn s5) fun z1 hz1 => ⟨_, rfl, bk _ k05, ?_⟩
    refine rimage_c (h.e.kp0 k05) fun a2 c2 w7 s7 k7 fr7 => ⟨_, _, _, rfl, bk _ (k05.trans0 k7), ?_⟩
    refine convert_bytes (e := T_uint8) (by kernel_rfl) (by kernel_rfl) (by kernel_rfl) s7.rd rfl (sl_nn s7) fun z2 hz2 => ⟨_, rfl, bk _ (k05.trans0 k7), cond_t (by rw [hz1, hz2]; exact beq_self_eq_true _) ?_⟩
    exact fin _ (k05.trans0 k7)
  · have k05 := kd.trans0 k5
    refine rimage_c (h.e.kp0 k05) fun a2 c2 w7 s7 k7 fr7 => ⟨_, _, _, rfl, bk _ (k05.trans0 k7), ?_, ?_⟩
    · refine convert_bytes (e := T_uint8) (by kernel_rfl) (by kernel_rfl) (by kernel_rfl) (s5.rd.kp0 k7) rfl (sl_nn s5) fun z1 hz1 => ⟨_, rfl, bk _ (k05.trans0 k7), ?_⟩
      refine convert_bytes (e := T_uint8) (by kernel_rfl) (by kernel_rfl) (by kernel_rfl) s7.rd rfl (sl_nn s7) fun z2 hz2 => ⟨_, rfl, bk _ (k05.trans0 k7), cond_t (by rw [hz1, hz2]; exact beq_self_eq_true _) ?_⟩
      exact fin _ (k05.trans0 k7)
    · refine convert_bytes (e := T_uint8) (by kernel_rfl) (by kernel_rfl) (by kernel_rfl) s7.rd rfl (sl_nn s7) fun z2 hz2 => ⟨_, rfl, bk _ (k05.trans0 k7), ?_⟩
      refine convert_bytes (e := T_uint8) (by kernel_rfl) (by kernel_rfl) (by kernel_rfl) (s5.rd.kp0 k7) rfl (sl_nn s5) fun z1 hz1 => ⟨_, rfl, bk _ (k05.trans0 k7), cond_t (by rw [hz1, hz2]; exact beq_self_eq_true _) ?_⟩
      exact fin _ (k05.trans0 k7)

theorem both_c {w : World} {n : Int} {R : Ending → World → Prop} (h : R (.returned (.bool true)) w) : GoC Try.prog F_law04_both #[.int .i64 n, .int .i64 n] w R := by
  refine S_law04_both ?_
  unfold W_law04_both
  refine num_c ⟨_, rfl, ?_⟩
  rw [beq_self_eq_true]
  exact h

/-- The bytes of a sector that is written. -/
def ownB (bs : List UInt8) : List UInt8 := ovr (List.replicate 512 0) 0 (bs.take 512)
theorem ownB_len (bs : List UInt8) : (ownB bs).length = 512 := by
  unfold ownB
  rw [ovr_len (by rw [List.length_take, List.length_replicate]; omega), List.length_replicate]
set_option maxRecDepth 100000 in
theorem writes_c {w : World} {ow : Nat → Nat} {t u p r pb l c : Nat} {S : Sh} {v : Dv} {i : Int} {a : Option Addr} {bs : List UInt8} {R : Ending → World → Prop} (h : Pr w ow t u p r pb S v) (hs : v.Sm 900000) (hl : bs.length = l) (hr : Rd w a (bvs bs)) (hnn : a = none → l = 0)
    (hK : ∀ w' ow', Pr w' ow' t u p r pb S (v.write i (ownB bs)).2 → Fro (Tb t u) w ow w' ow' → R (.returned (.bool true)) w') : GoC Try.prog F_law04_Pair_writes #[.pointer (some ⟨pb, 0, none⟩), .int .i64 i, .slice a l c] w R := by
  subst hl
  refine S_law04_Pair_writes ?_
  unfold W_law04_Pair_writes
  refine make_u8 (n := 512) (by omega) fun b w1 cur hb1 hcur k1 hb1e => ⟨_, _, _, rfl, ?_⟩
  refine copy_any (List.length_replicate ..) hb1 hcur (hr.kp0 k1) hnn fun w2 cur2 hb2 hcur2 k2 => ⟨_, rfl, ?_⟩
  have k02 := kp_blk k1 (by omega) k2
  have kd : Kp no w2 w2.drew := Kp.drew w2 1
  have k0d := k02.trans0 kd
  have s2 := sl_of (ownB_len bs) (kd.blk hb2 id) hcur2
  have o := h.o
  have f2 : Fro (fun _ => True) w ow w2.drew (ext ow w.heap.size 5) := Fro.of_kp0 5 k0d
  have t2 : ext ow w.heap.size 5 b = 5 := ext_new (by omega)
  have h2 := h.frT f2
  have F2 : Fro (Tb t u) w ow w2.drew (ext ow w.heap.size 5) := f2.mono fun _ _ => trivial
  generalize ext ow w.heap.size 5 = ow2 at *
  have hB : ∀ tt, 10 ≤ tt → Bs w2.drew ow2 tt (some ⟨b, 0, none⟩) (ownB bs) := fun tt htt => ⟨fun i v hv => by
    obtain ⟨b', o, ha, hc⟩ := s2.rd i v hv
    cases ha
    exact ⟨b, 0, rfl, hc, by rw [t2]; exact ⟨by omega, by omega, by omega⟩⟩, by rw [ownB_len]; omega, fun hh => by cases hh⟩
  have cd : ∀ w', Blk w' pb #[.pointer (some ⟨p, 0, none⟩), .pointer (some ⟨r, 0, none⟩), .int .i64 S.pg, .int .i64 S.lg, .int .i64 S.fr] T_quotalaw04_Pair → w'.cell? ⟨pb, 0, none⟩ = some (.pointer (some ⟨p, 0, none⟩)) := fun w' hb => hb.at rfl rfl
  have ce : ∀ w', Blk w' pb #[.pointer (some ⟨p, 0, none⟩), .pointer (some ⟨r, 0, none⟩), .int .i64 S.pg, .int .i64 S.lg, .int .i64 S.fr] T_quotalaw04_Pair → w'.cell? (Addr.add ⟨pb, 0, none⟩ 1) = some (.pointer (some ⟨r, 0, none⟩)) := fun w' hb => hb.at rfl rfl
  refine ⟨fun w' => Blk w' pb #[.pointer (some ⟨p, 0, none⟩), .pointer (some ⟨r, 0, none⟩), .int .i64 S.pg, .int .i64 S.lg, .int .i64 S.fr] T_quotalaw04_Pair, h2.x, NilF.intro rfl ⟨_, cd, NilF.intro rfl ⟨_, ce, ?_⟩⟩⟩
  refine write_l h2.d (hB t (by omega)) (ownB_len bs) (by have := hs.q; omega) hs.k fun w3 ow3 h3 f3 => ⟨_, rfl, h2.x1 f3, ?_⟩
  have hBu := (hB u (by omega)).fr f3
  have hBu : Bs w3 ow3 u (some ⟨b, 0, none⟩) (ownB bs) := ⟨fun i v hv => by
    have hlt : b < w2.drew.heap.size := hb2.lt
    obtain ⟨b', o', ha, hc⟩ := s2.rd i v hv
    cases ha
    have ho : Td t (ow2 b) := by rw [t2]; exact ⟨by omega, by omega, by omega⟩
    refine ⟨b, 0, rfl, f3.kp.cell hc (fun hh => hh ho), ?_⟩
    rw [f3.ag b hlt ho, t2]
    exact ⟨by omega, by omega, by omega⟩, by rw [ownB_len]; omega, fun hh => by cases hh⟩
  refine rwrite_c (h2.e1 f3) hBu (ownB_len bs) (by have := hs.q; omega) hs.k fun w4 ow4 h4 f4 => ?_
  have hP := h2.st h3 f3 h4 f4
  exact ⟨_, rfl, hP.x, both_c ⟨_, rfl, hP.x, hK w4 ow4 hP (F2.trans (tb_fr f3 f4))⟩⟩

theorem ErrV.fr {T : Nat → Prop} {w w' : World} {ow ow' : Nat → Nat} {e : Value} {z : ByteArray} {n : Int} (h : ErrV w e z n) (hb : ∀ b, e = .iface T_p_api_Fault (.pointer (some ⟨b, 0, none⟩)) → T (ow b)) (f : Fro T w ow w' ow') : ErrV w' e z n := by
  rcases h with h | ⟨h0, b, hv, hbk⟩
  · exact .inl h
  · exact .inr ⟨h0, b, hv, (f.kp.blk hbk fun hh => hh (hb b hv))⟩
end Go.Proofs.Ytaehmogilimmfaa

/- Layer 4: Format, Open, Point on two disks side by side. Conditions: none. -/
set_option linter.unusedVariables false
set_option linter.unusedSimpArgs false
namespace Go.Proofs.Ytaehmogilimmfaa
open Go Go.RowKit

/-- Owners, so that no new block is the other disk's. -/
def rt (n u : Nat) (ow : Nat → Nat) : Nat → Nat := fun k => if n ≤ k ∧ u ≤ ow k ∧ ow k ≤ u + 3 then 5 else ow k
theorem rt_fro {T : Nat → Prop} {w w' : World} {ow ow' : Nat → Nat} {u : Nat} (f : Fro T w ow w' ow') : Fro T w ow w' (rt w.heap.size u ow') :=
  ⟨f.kp, fun k hk hT => by rw [← f.ag k hk hT]; unfold rt; rw [if_neg (by omega)]⟩
theorem rt_dx {w : World} {ow : Nat → Nat} {t u p n : Nat} {v : Dv} (h : DX w ow t p v) (o : t + 10 ≤ u) : DX w (rt n u ow) t p v :=
  h.fr (T := fun x => x < u) ⟨Kp.refl _ _, fun k hk hT => by unfold rt; rw [if_neg (by omega)]⟩ (by omega) (by omega) (by omega) (by omega)
theorem rt_td {n u b : Nat} {ow : Nat → Nat} (h : n ≤ b) (hu : 20 ≤ u) : Td u (rt n u ow b) := by
  unfold rt
  split
  · exact ⟨by omega, by omega, by omega⟩
  · exact ⟨by omega, by omega, by omega⟩

def PrB (p r pb : Nat) (S : Sh) (w' : World) : Prop := Blk w' pb #[.pointer (some ⟨p, 0, none⟩), .pointer (some ⟨r, 0, none⟩), .int .i64 S.pg, .int .i64 S.lg, .int .i64 S.fr] T_quotalaw04_Pair
theorem PrB.d {p r pb : Nat} {S : Sh} {w' : World} (h : PrB p r pb S w') : w'.cell? ⟨pb, 0, none⟩ = some (.pointer (some ⟨p, 0, none⟩)) := Blk.at h rfl rfl
theorem PrB.e {p r pb : Nat} {S : Sh} {w' : World} (h : PrB p r pb S w') : w'.cell? (Addr.add ⟨pb, 0, none⟩ 1) = some (.pointer (some ⟨r, 0, none⟩)) := Blk.at h rfl rfl
def ShB (b : Nat) (s : Sh) (w' : World) : Prop := Blk w' b #[.int .i64 s.pg, .int .i64 s.lg, .int .i64 s.fr] T_api_Shape
theorem ShB.c {b : Nat} {s : Sh} {w' : World} (h : ShB b s w') : w'.cell? ⟨b, 0, none⟩ = some (.int .i64 s.pg) ∧ w'.cell? (Addr.add ⟨b, 0, none⟩ 1) = some (.int .i64 s.lg) ∧ w'.cell? (Addr.add ⟨b, 0, none⟩ 2) = some (.int .i64 s.fr) ∧ True := ⟨Blk.at h rfl rfl, Blk.at h rfl rfl, Blk.at h rfl rfl, trivial⟩

set_option maxRecDepth 100000 in
theorem formats_c {w : World} {ow : Nat → Nat} {t u p r pb : Nat} {S s : Sh} {v : Dv} {R : Ending → World → Prop} (h : Pr w ow t u p r pb S v) (hs : v.Sm 800000)
    (hK : ∀ w' ow', Pr w' ow' t u p r pb S (formatR v s).2 → Fro (Tb t u) w ow w' ow' → R (.returned (.bool true)) w') : GoC Try.prog F_law04_Pair_formats #[.pointer (some ⟨pb, 0, none⟩), s.v] w R := by
  refine S_law04_Pair_formats ?_
  unfold W_law04_Pair_formats
  have o := h.o
  refine AlF.intro fun b1 w1 hb1e hb1 k1 _ => ?_
  have kd : Kp no w1 w1.drew := Kp.drew w1 1
  have k0d := k1.trans0 kd
  have x1 := kd.blk hb1 id
  have f1 : Fro (fun _ => True) w ow w1.drew (ext ow w.heap.size 5) := Fro.of_kp0 5 k0d
  have t1 : ext ow w.heap.size 5 b1 = 5 := ext_new (by omega)
  have h1 := h.frT f1
  have F1 : Fro (Tb t u) w ow w1.drew (ext ow w.heap.size 5) := f1.mono fun _ _ => trivial
  generalize ext ow w.heap.size 5 = ow1 at *
  refine NilF.intro rfl ⟨_, PrB.d h1.x, s.pg, s.lg, s.fr, ShB.c x1, ?_⟩
  refine mformat_cF (s := s) h1.d hs fun e w2 ow2 hd f2 he hfr => ⟨_, rfl, ?_⟩
  have hd := rt_dx (n := w1.drew.heap.size) (u := u) hd (by omega)
  have f2 := rt_fro (u := u) f2
  have hT : ∀ b, e = .iface T_p_api_Fault (.pointer (some ⟨b, 0, none⟩)) → Td u (rt w1.drew.heap.size u ow2 b) := fun b hb => rt_td (hfr b hb) (by omega)
  generalize rt w1.drew.heap.size u ow2 = ow2' at *
  have kd2 : Kp no w2 w2.drew := Kp.drew w2 1
  have fd2 : Fro (fun _ => True) w2 ow2' w2.drew ow2' := Fro.kp0 kd2
  have f2' : Fro (Td t) w1.drew ow1 w2.drew ow2' := f2.trans (fd2.mono fun _ _ => trivial)
  have hd' := hd.fr fd2 trivial trivial trivial trivial
  have x2 := (blk_fr x1 t1 f2' ⟨by omega, by omega, by omega⟩)
  refine ⟨fun w' => PrB p r pb S w' ∧ ShB b1 s w', ⟨h1.x1 f2', x2.1⟩, NilF.intro rfl ⟨_, fun w' hw => hw.1.e, s.pg, s.lg, s.fr, fun w' hw => hw.2.c, ?_⟩⟩
  refine rformat_c (s := s) (h1.e1 f2') hs fun w3 ow3 hr f3 => ⟨_, rfl, ?_⟩
  have hP := h1.st hd' f2' hr f3
  have x3 := blk_fr x2.1 x2.2 f3 ⟨by omega, by omega, by omega⟩
  have hB : PrB p r pb S w3 ∧ ShB b1 s w3 := ⟨hP.x, x3.1⟩
  refine ⟨hB, told_c (z := zF) ((he.kp0 kd2).fr hT f3) ⟨_, rfl, hB, ?_⟩⟩
  rw [decide_eq_true rfl]
  exact hK w3 ow3 hP (F1.trans (tb_fr f2' f3))

set_option maxRecDepth 100000 in
theorem points_c {w : World} {ow : Nat → Nat} {t u p r pb : Nat} {S : Sh} {v : Dv} {n : Int} {R : Ending → World → Prop} (h : Pr w ow t u p r pb S v) (hs : v.Sm 800000) (hn : 2 ≤ v.n)
    (hK : ∀ w' ow', Pr w' ow' t u p r pb S (pointR v n).2 → Fro (Tb t u) w ow w' ow' → R (.returned (.bool true)) w') : GoC Try.prog F_law04_Pair_points #[.pointer (some ⟨pb, 0, none⟩), .int .i64 n] w R := by
  refine S_law04_Pair_points ?_
  unfold W_law04_Pair_points
  have o := h.o
  refine NilF.intro rfl ⟨_, PrB.d h.x, ?_⟩
  refine mpoint_cF h.d hs fun e w2 ow2 hd f2 he hfr => ⟨_, rfl, ?_⟩
  have hd := rt_dx (n := w.heap.size) (u := u) hd (by omega)
  have f2 := rt_fro (u := u) f2
  have hT : ∀ b, e = .iface T_p_api_Fault (.pointer (some ⟨b, 0, none⟩)) → Td u (rt w.heap.size u ow2 b) := fun b hb => rt_td (hfr b hb) (by omega)
  generalize rt w.heap.size u ow2 = ow2' at *
  refine NilF.intro rfl ⟨_, PrB.e (h.x1 f2), ?_⟩
  refine rpoint_c (h.e1 f2) hs hn fun w3 ow3 hr f3 => ⟨_, rfl, ?_⟩
  have hP := h.st hd f2 hr f3
  refine told_c (z := zP) (he.fr hT f3) ⟨_, rfl, ?_⟩
  rw [decide_eq_true rfl]
  exact hK w3 ow3 hP (tb_fr f2 f3)

set_option maxRecDepth 100000 in
theorem opens_c {w : World} {ow : Nat → Nat} {t u p r pb : Nat} {S : Sh} {v : Dv} {R : Ending → World → Prop} (h : Pr w ow t u p r pb S v) (hs : v.Sm 800000) (hn : 2 ≤ v.n)
    (hK : ∀ w', Kp no w w' → R (.returned (.bool true)) w') : GoC Try.prog F_law04_Pair_opens #[.pointer (some ⟨pb, 0, none⟩)] w R := by
  refine S_law04_Pair_opens ?_
  unfold W_law04_Pair_opens
  refine NilF.intro rfl ⟨_, PrB.d h.x, ?_⟩
  refine mopen_c h.d (hs.mono (by omega)) fun e w1 k1 he => ⟨_, _, _, _, _, rfl, ?_⟩
  refine AlF.intro fun b1 w2 hb1e hb1 k2 _ => sh_st (openR v).1 hb1 fun w5 hb5 k5 => ?_
  have z1 := k1.size
  have k05 := kp_blk (k1.trans0 k2) (by omega) k5
  have he5 := he.kp0 (kp_blk k2 (by omega) k5)
  refine NilF.intro rfl ⟨_, PrB.e ((h.kp0 k05).x), ?_⟩
  refine ropen_c (h.e.kp0 k05) (hs.mono (by omega)) hn fun w6 k6 => ⟨_, _, _, _, _, rfl, ?_⟩
  have z6 := k6.size
  have lt5 := hb5.lt
  refine AlF.intro fun b2 w7 hb2e hb2 k7 _ => sh_st (openR v).1 hb2 fun w10 hb10 k10 => ?_
  have k610 := kp_blk k7 (by omega) k10
  have k510 := k6.trans0 k610
  have k010 := k05.trans0 k510
  refine told_c (z := zO) (he5.kp0 k510) ⟨_, rfl, ?_⟩
  rw [decide_eq_true rfl]
  refine cond_t rfl (sh_rd (x := (openR v).1) (k510.blk hb5 id) (sh_rd (x := (openR v).1) hb10 (cond_t (by simp) ?_)))
  rw [beq_self_eq_true]
  exact hK w10 k010
end Go.Proofs.Ytaehmogilimmfaa

/- Layer 4: a call of a script on two disks side by side. Conditions: none. -/
set_option linter.unusedVariables false
set_option linter.unusedSimpArgs false
namespace Go.Proofs.Ytaehmogilimmfaa
open Go Go.RowKit

theorem Dv.Ok.fall_n {v : Dv} (h : v.Ok) (k : List Nat) (a b : Int) : (v.fall k a b).n = v.n := Dv.n_of (fallL_len _ _ _ v.n v.q 0 v.img h.len h.q)
theorem Dv.Ok.write_n {v : Dv} (h : v.Ok) (i : Int) (b : List UInt8) : (v.write i b).2.n = v.n := by
  unfold Dv.write
  split
  · rfl
  split
  · rfl
  rename_i hi
  split
  · rfl
  rename_i hb
  split
  · exact (h.bump.add (i := i) (b := b) (Decidable.not_not.1 hi) (Decidable.not_not.1 hb)).fall_n _ _ _
  · rfl
theorem Dv.Ok.sync_n {v : Dv} (h : v.Ok) : v.sync.2.n = v.n := by
  unfold Dv.sync
  split
  · rfl
  split
  · exact h.bump.fall_n _ _ _
  · exact Dv.n_of (syncL_len v.n v.q v.img h.len h.q)
theorem Dv.Ok.put_n {v : Dv} (h : v.Ok) (i : Int) (b : List UInt8) : (v.put i b).2.n = v.n := by
  unfold Dv.put
  split
  · exact h.write_n i b
  · rw [(h.write i b).sync_n, h.write_n]
theorem Dv.Ok.crash_n {v : Dv} (h : v.Ok) (k : List Nat) (a b : Int) : (v.crash k a b).2.n = v.n := by
  unfold Dv.crash
  split
  · rfl
  · exact h.fall_n _ _ _
theorem arm_n {v : Dv} (s : Int) (k : List Nat) (a b : Int) : (v.arm s k a b).2.n = v.n := by
  unfold Dv.arm
  split
  · rfl
  split <;> rfl
theorem format_n {v : Dv} (h : v.Ok) (s : Sh) : (formatR v s).2.n = v.n := by
  unfold formatR
  repeat' split
  · rfl
  · rfl
  · exact h.put_n _ _
  · rw [(put_Ok h _ _).put_n, h.put_n]
theorem point_n {v : Dv} (h : v.Ok) (n : Int) : (pointR v n).2.n = v.n := by
  unfold pointR
  repeat' split
  · rfl
  · rfl
  · rfl
  · exact h.put_n _ _
theorem crash_sm1 {v : Dv} {m : Nat} (h : v.Sm m) (keep : List Nat) (torn off : Int) : ((v.crash keep torn off).2).Sm m := by
  unfold Dv.crash
  split
  · exact h
  · exact ⟨Nat.zero_le _, by show (List.length ([] : List Nat)) * 8 ≤ _; simp⟩
theorem arm_sm {v : Dv} {m : Nat} (h : v.Sm m) (s : Int) (keep : List Nat) (torn off : Int) (hk : keep.length * 8 ≤ 140737488355328) : ((v.arm s keep torn off).2).Sm m := by
  unfold Dv.arm
  split
  · exact h
  split
  · exact h
  · exact ⟨h.q, hk⟩

def OpB (b : Nat) (o : Op4) (w' : World) : Prop := Blk w' b #[.int .i64 o.kind, .int .i64 o.s.pg, .int .i64 o.s.lg, .int .i64 o.s.fr, .int .i64 o.n, .slice o.la o.keep.length o.lc, .int .i64 o.torn, .int .i64 o.off, .slice o.ba o.bs.length o.bc, .bool o.little] T_quotalaw04_Op
def Op4.v (o : Op4) : Value := .agg #[.int .i64 o.kind, .int .i64 o.s.pg, .int .i64 o.s.lg, .int .i64 o.s.fr, .int .i64 o.n, .slice o.la o.keep.length o.lc, .int .i64 o.torn, .int .i64 o.off, .slice o.ba o.bs.length o.bc, .bool o.little]
section
variable {b : Nat} {o : Op4} {w' : World}
theorem OpB.k (h : OpB b o w') : w'.cell? ⟨b, 0, none⟩ = some (.int .i64 o.kind) := Blk.at h rfl rfl
theorem OpB.n (h : OpB b o w') : w'.cell? (Addr.add ⟨b, 0, none⟩ 4) = some (.int .i64 o.n) := Blk.at h rfl rfl
theorem OpB.bs (h : OpB b o w') : w'.cell? (Addr.add ⟨b, 0, none⟩ 8) = some (.slice o.ba o.bs.length o.bc) := Blk.at h rfl rfl
theorem OpB.li (h : OpB b o w') : w'.cell? (Addr.add ⟨b, 0, none⟩ 9) = some (.bool o.little) := Blk.at h rfl rfl
theorem OpB.s (h : OpB b o w') : w'.cell? (Addr.add ⟨b, 0, none⟩ 1) = some (.int .i64 o.s.pg) ∧ w'.cell? (Addr.add (Addr.add ⟨b, 0, none⟩ 1) 1) = some (.int .i64 o.s.lg) ∧ w'.cell? (Addr.add (Addr.add ⟨b, 0, none⟩ 1) 2) = some (.int .i64 o.s.fr) ∧ True := ⟨Blk.at h rfl rfl, Blk.at h rfl rfl, Blk.at h rfl rfl, trivial⟩
theorem OpB.l (h : OpB b o w') : w'.cell? (Addr.add ⟨b, 0, none⟩ 5) = some (.slice o.la o.keep.length o.lc) ∧ w'.cell? (Addr.add (Addr.add ⟨b, 0, none⟩ 5) 1) = some (.int .i64 o.torn) ∧ w'.cell? (Addr.add (Addr.add ⟨b, 0, none⟩ 5) 2) = some (.int .i64 o.off) ∧ True := ⟨Blk.at h rfl rfl, Blk.at h rfl rfl, Blk.at h rfl rfl, trivial⟩
end
theorem PrB.s {p r pb : Nat} {S : Sh} {w' : World} (h : PrB p r pb S w') : w'.cell? (Addr.add ⟨pb, 0, none⟩ 2) = some (.int .i64 S.pg) ∧ w'.cell? (Addr.add (Addr.add ⟨pb, 0, none⟩ 2) 1) = some (.int .i64 S.lg) ∧ w'.cell? (Addr.add (Addr.add ⟨pb, 0, none⟩ 2) 2) = some (.int .i64 S.fr) ∧ True := ⟨Blk.at h rfl rfl, Blk.at h rfl rfl, Blk.at h rfl rfl, trivial⟩

theorem fro_is {T : Nat → Prop} {w w1 w2 : World} {ow ow1 : Nat → Nat} {b o : Nat} (f : Fro T w ow w1 ow1) (hge : w.heap.size ≤ b) (k : Kp (Is (some ⟨b, o, none⟩)) w1 w2) : Fro T w ow w2 ow1 :=
  ⟨f.kp.trans k (fun _ _ h => h) fun j hj hh => by
    obtain ⟨ad, h1, h2⟩ := hh
    cases h1
    dsimp only at h2
    omega, f.ag⟩
theorem xor_bv (x y : UInt8) : ∃ z : UInt8, Value.int .u8 (xorV .u8 (x.toNat : Int) (y.toNat : Int)) = bv z := by
  have hx := u8_lt x
  have hy := u8_lt y
  rw [xorV_nat rfl (by simpa [IntKind.bits] using hx) (by simpa [IntKind.bits] using hy)]
  exact ⟨_, bv_of (Nat.xor_lt_two_pow (n := 8) hx hy)⟩

set_option maxRecDepth 100000 in
set_option maxHeartbeats 2000000 in
theorem spoils_c {w w0 : World} {ow : Nat → Nat} {t u p r pb m : Nat} {S : Sh} {v : Dv} {o : Op4} {R : Ending → World → Prop} (h : Pr w ow t u p r pb S v) (hO : Old w0 w ow) (ho : o.Ok w0) (hS : S.may) (hs : v.Sm m) (hm : m ≤ 700000) (hn : 2 ≤ v.n)
    (hK : ∀ v' w' ow', Pr w' ow' t u p r pb S v' → Fro (Tb t u) w ow w' ow' → v'.n = v.n → v'.Sm (m + 2) → R (.returned (.bool true)) w') : GoC Try.prog F_law04_Pair_spoils #[.pointer (some ⟨pb, 0, none⟩), o.v] w R := by
  refine S_law04_Pair_spoils ?_
  unfold W_law04_Pair_spoils
  have oo := h.o
  have hok := h.d.ok
  refine AlF.intro fun b1 w1 hb1e hb1 k1 _ => ?_
  have hb1 : OpB b1 o w1 := hb1
  have f1 : Fro (fun _ => True) w ow w1 (ext ow w.heap.size 5) := Fro.of_kp0 5 k1
  have t1 : ext ow w.heap.size 5 b1 = 5 := ext_new (by omega)
  have h1 := h.frT f1
  have F1 : Fro (Tb t u) w ow w1 (ext ow w.heap.size 5) := f1.mono fun _ _ => trivial
  have O1 := hO.fr f1 trivial
  have rdB : ∀ w', Kp no w w' → Rd w' o.ba (bvs o.bs) := fun w' k => (ho.b.rd.kp0 hO.kp).kp0 k
  generalize ext ow w.heap.size 5 = ow1 at *
  -- a write of any bytes
  have wr : ∀ (w2 : World) (ow2 : Nat → Nat) (i : Int) (a : Option Addr) (l c : Nat) (bs : List UInt8) (R' : Ending → World → Prop), Pr w2 ow2 t u p r pb S v → Fro (Tb t u) w ow w2 ow2 → bs.length = l → Rd w2 a (bvs bs) → (a = none → l = 0) →
      (∀ w3 ow3, R (.returned (.bool true)) w3 → Fro (Tb t u) w2 ow2 w3 ow3 → PrB p r pb S w3 → R' (.returned (.bool true)) w3) → GoC Try.prog F_law04_Pair_writes #[.pointer (some ⟨pb, 0, none⟩), .int .i64 i, .slice a l c] w2 R' := fun w2 ow2 i a l c bs R' hP f2 hl hr hnn hR =>
    writes_c hP (hs.mono (by omega)) hl hr hnn fun w3 ow3 h3 f3 => hR w3 ow3 (hK _ w3 ow3 h3 (f2.trans f3) (hok.write_n _ _) ((Dv.write_sm hs).mono (by omega))) f3 h3.x
  refine ⟨_, hb1.k, cond_eq (fun _ => ?_) (fun _ => cond_eq (fun _ => ?_) (fun _ => ?_))⟩
  · -- bytes
    refine ⟨_, hb1.n, _, _, _, hb1.bs, wr w1 ow1 _ _ _ _ o.bs _ h1 F1 rfl (rdB _ k1) ho.b.nn fun w3 ow3 hr _ _ => ⟨_, rfl, hr⟩⟩
  · -- a slot
    have tail : ∀ (w3 : World) (st : Nat), st < 18446744073709551616 → Kp no w1 w3 → ∀ C, HeldF w3 fun S8 => (NeZ (2 : Int) (NilF (some ⟨pb, 0, none⟩) fun d1 => (∃ (n15 : Int) (n16 : Int) (n17 : Int), (∀ w, S8 w → w.cell? (Addr.add d1 2) = some (.int .i64 n15) ∧ w.cell? (Addr.add (Addr.add d1 2) 1) = some (.int .i64 n16) ∧ w.cell? (Addr.add (Addr.add d1 2) 2) = some (.int .i64 n17) ∧ True) ∧ (∃ (n18 : Int), (∀ w, S8 w → w.cell? (Addr.add ⟨b1, 0, none⟩ 4) = some (.int .i64 n18)) ∧ (CallF Try.prog F_law04_rest #[(.int .i64 n18), (.int .i64 (1000 : Int))] w3.drew (fun r4 w5 => ∃ (n19 : Int), r4 = (.int .i64 n19) ∧ (S8 w5 ∧ (CallF Try.prog F_ref04_Slot #[(.int .u64 (st : Int)), (.agg #[(.int .i64 n15), (.int .i64 n16), (.int .i64 n17)]), (.int .i64 n19)] w5 (fun r5 w6 => ∃ (a4 : Option Addr) (l4 c4 : Nat), r5 = (.slice a4 l4 c4) ∧ (S8 w6 ∧ (CallF Try.prog F_law04_Pair_writes #[(.pointer (some ⟨pb, 0, none⟩)), (.int .i64 ((st % 2 : Nat) : Int)), (.slice a4 l4 c4)] w6 (fun r6 w7 => ∃ (q3 : Bool), r6 = (.bool q3) ∧ (S8 w7 ∧ (R (.returned (.bool q3)) w7))) C))) C))) C))))) := fun w3 st hst k3 C => by
      have kd : Kp no w1 w3.drew := k3.trans0 (Kp.drew w3 1)
      have hP : ∀ w', (∃ ow', Fro (Tb t u) w1 ow1 w' ow') → PrB p r pb S w' ∧ OpB b1 o w' := fun w' ⟨ow', f⟩ => ⟨(blk_fr h1.x h1.tx f ⟨⟨by omega, by omega, by omega⟩, ⟨by omega, by omega, by omega⟩⟩).1, (blk_fr hb1 t1 f ⟨⟨by omega, by omega, by omega⟩, ⟨by omega, by omega, by omega⟩⟩).1⟩
      refine ⟨fun w' => ∃ ow', Fro (Tb t u) w1 ow1 w' ow', ⟨ow1, (Fro.kp0 kd).mono fun _ _ => trivial⟩, by decide, NilF.intro rfl ⟨S.pg, S.lg, S.fr, fun w' hw => (hP w' hw).1.s, _, fun w' hw => (hP w' hw).2.n, ?_⟩⟩
      refine rest_c (by omega) (by omega) ⟨_, rfl, ⟨ow1, (Fro.kp0 kd).mono fun _ _ => trivial⟩, ?_⟩
      refine rslot_c (s := S) hst hS (by omega) fun b5 c5 w5 s5 k5 hge5 => ⟨_, _, _, rfl, ⟨ow1, (Fro.kp0 (kd.trans0 k5)).mono fun _ _ => trivial⟩, ?_⟩
      have k15 := kd.trans0 k5
      have f5 : Fro (fun _ => True) w1 ow1 w5 ow1 := Fro.kp0 k15
      exact wr w5 ow1 _ _ _ _ (slotB st S (o.n % 1000)) _ (h1.frT f5) (F1.trans (f5.mono fun _ _ => trivial)) (slotB_len _ _ _) s5.rd (fun hh => by cases hh) fun w6 ow6 hr f6 _ => ⟨_, rfl, ⟨ow6, (f5.mono fun _ _ => trivial).trans f6⟩, hr⟩
    refine ⟨_, hb1.n, rest_c (by omega) (by omega) ⟨_, rfl, _, hb1.n, cond_d (fun hneg => ?_) (fun hneg => ?_)⟩⟩
    · refine ⟨_, hb1.n, rest_c (by omega) (by omega) ⟨_, rfl, ?_⟩⟩
      have e1 : IntKind.wrap .u64 ((4611686018427387904 : Int) - IntKind.wrap .u64 (o.n % 3)) = ((4611686018427387904 - (o.n % 3).toNat : Nat) : Int) := by
        rw [wrap_u64 (x := o.n % 3) (by omega) (by omega), wrap_u64 (by omega) (by omega)]
        omega
      have hb : 4611686018427387904 - (o.n % 3).toNat < 18446744073709551616 := by omega
      rw [e1]
      generalize 4611686018427387904 - (o.n % 3).toNat = st at *
      have e2 : IntKind.wrap .i64 (Int.tmod ((st : Nat) : Int) 2) = ((st % 2 : Nat) : Int) := by
        rw [show Int.tmod ((st : Nat) : Int) 2 = ((st % 2 : Nat) : Int) from rfl, wrap_i64 (by omega) (by omega)]
      rw [e2]
      exact tail w1 st hb (Kp.refl _ _) _
    · have e1 : IntKind.wrap .u64 (IntKind.wrap .i64 ((1 : Int) + o.n % 9)) = ((1 + (o.n % 9).toNat : Nat) : Int) := by
        rw [wrap_i64 (x := 1 + o.n % 9) (by omega) (by omega), wrap_u64 (by omega) (by omega)]
        omega
      have hb : 1 + (o.n % 9).toNat < 18446744073709551616 := by omega
      rw [e1]
      generalize 1 + (o.n % 9).toNat = st at *
      have e2 : IntKind.wrap .i64 (Int.tmod ((st : Nat) : Int) 2) = ((st % 2 : Nat) : Int) := by
        rw [show Int.tmod ((st : Nat) : Int) 2 = ((st % 2 : Nat) : Int) from rfl, wrap_i64 (by omega) (by omega)]
      rw [e2]
      exact tail w1 st hb (Kp.refl _ _) _
  · -- a byte is turned
    have kd : Kp no w1 w1.drew := Kp.drew w1 1
    have bk : ∀ w', Kp no w1 w' → PrB p r pb S w' ∧ OpB b1 o w' := fun w' k => ⟨k.blk h1.x id, k.blk hb1 id⟩
    have same : ∀ w', Kp no w1 w' → R (.returned (.bool true)) w' := fun w' k => hK v w' ow1 (h1.kp0 k) (F1.trans ((Fro.kp0 k).mono fun _ _ => trivial)) rfl (hs.mono (by omega))
    refine ⟨fun w' => PrB p r pb S w' ∧ OpB b1 o w', bk _ kd, NilF.intro rfl ⟨_, fun w' hw => hw.1.e, _, fun w' hw => hw.2.n, rest_c (by omega) (by omega) ⟨_, rfl, bk _ kd, ?_⟩⟩⟩
    refine rread_c (h1.e.kp0 kd) (by have := hs.q; omega) fun a6 l6 c6 w12 k12 s12 fr12 => ⟨_, _, _, _, rfl, bk _ (kd.trans0 k12), ?_⟩
    have k112 := kd.trans0 k12
    have hb12 := (bk _ k112).2
    have hth : v.there (o.n % 2) := ⟨by omega, by omega⟩
    by_cases hd : v.down = true
    · have e : (v.read (o.n % 2)).2 = 40 := by unfold Dv.read; rw [if_pos hd]
      rw [e]
      exact cond_t rfl (same _ k112)
    have hd : v.down = false := by simpa using hd
    have e : (v.read (o.n % 2)).2 = 0 := by unfold Dv.read; rw [hd, if_neg (by simp), if_neg (by simpa using hth)]
    rw [e]
    refine cond_f rfl ⟨_, _, _, hb12.bs, cond_d (fun h3 => same _ k112) (fun h3 => ⟨_, _, _, hb12.bs, ?_⟩)⟩
    have lX := readS_len hok hd hth
    have l6e : l6 = 512 := by have := s12.1; rw [bvs_len] at this; omega
    generalize (v.read (o.n % 2)).1 = X at *
    subst l6e
    have k012 := k1.trans0 k112
    obtain ⟨b', cur, ha6, hbk6, _⟩ := s12.addr (by omega)
    subst ha6
    have hge := fr12 b' ⟨_, rfl, rfl⟩
    have hgd : w1.heap.size ≤ w1.drew.heap.size := kd.size
    have hcB : ∀ (w' : World) (j : Nat) (hj : j < o.bs.length), Kp no w w' → ∃ d, o.ba = some d ∧ w'.cell? (d.add (Int.toNat (j : Int))) = some (.int .u8 ((o.bs[j]).toNat : Int)) := fun w' j hj k => by
      obtain ⟨b2, o2, ha, hc⟩ := rdB w' k j (bv o.bs[j]) (bvs_get hj)
      exact ⟨⟨b2, o2, none⟩, ha, by rw [Int.toNat_natCast, add_at]; exact hc⟩
    obtain ⟨d0, hd0, hc0⟩ := hcB w12 0 (by omega) k012
    obtain ⟨d1, hd1, hc1⟩ := hcB w12 1 (by omega) k012
    refine ⟨by omega, by omega, d0, hd0, _, hc0, _, _, _, hb12.bs, by omega, by omega, d1, hd1, _, hc1, by decide, fun kk => ?_⟩
    have hx0 := u8_lt (o.bs[0]'(by omega))
    have hx1 := u8_lt (o.bs[1]'(by omega))
    have ei : Int.tmod (IntKind.wrap .i64 (IntKind.wrap .i64 ((o.bs[0]'(by omega)).toNat : Int) + IntKind.wrap .i64 ((256 : Int) * IntKind.wrap .i64 ((o.bs[1]'(by omega)).toNat : Int)))) 512 = ((((o.bs[0]'(by omega)).toNat + 256 * (o.bs[1]'(by omega)).toNat) % 512 : Nat) : Int) := by
      rw [wrap_i64 (x := ((o.bs[0]'(by omega)).toNat : Int)) (by omega) (by omega), wrap_i64 (x := ((o.bs[1]'(by omega)).toNat : Int)) (by omega) (by omega), wrap_i64 (x := (256 : Int) * _) (by omega) (by omega), wrap_i64 (by omega) (by omega)]
      have e3 : ((o.bs[0]'(by omega)).toNat : Int) + (256 : Int) * ((o.bs[1]'(by omega)).toNat : Int) = (((o.bs[0]'(by omega)).toNat + 256 * (o.bs[1]'(by omega)).toNat : Nat) : Int) := by omega
      rw [e3]
      rfl
    rw [ei]
    have hi : ((o.bs[0]'(by omega)).toNat + 256 * (o.bs[1]'(by omega)).toNat) % 512 < 512 := Nat.mod_lt _ (by omega)
    generalize ((o.bs[0]'(by omega)).toNat + 256 * (o.bs[1]'(by omega)).toNat) % 512 = i at *
    have kdd : Kp no w12 (w12.drewN kk).drew := (Kp.drew w12 kk).trans0 (Kp.drew _ 1)
    have s13 := s12.kp0 kdd
    have hcX : (w12.drewN kk).drew.cell? ((⟨b', 0, none⟩ : Addr).add (Int.toNat (i : Int))) = some (.int .u8 ((X[i]'(by omega)).toNat : Int)) := by
      obtain ⟨b2, o2, ha, hc⟩ := s13.rd i (bv (X[i]'(by omega))) (bvs_get (by omega))
      cases ha
      rw [Int.toNat_natCast, add_at]
      exact hc
    obtain ⟨d2, hd2, hc2⟩ := hcB (w12.drewN kk).drew 2 (by omega) (k012.trans0 kdd)
    obtain ⟨z, hz⟩ := xor_bv (X[i]'(by omega)) (o.bs[2]'(by omega))
    refine ⟨by omega, by omega, _, rfl, _, hcX, _, _, _, OpB.bs (show OpB b1 o _ from kdd.blk hb12 id), by omega, by omega, d2, hd2, _, hc2, by omega, by omega, _, rfl, ?_⟩
    have ea : (⟨b', 0, none⟩ : Addr).add (Int.toNat (i : Int)) = ⟨b', 0 + i, none⟩ := by rw [Int.toNat_natCast, add_at]
    rw [hz]
    dsimp only
    rw [ea]
    refine s13.put (i := i) (by omega) rfl fun w14 s14 k14 _ => ?_
    rw [bvs_set] at s14
    have k1d := k112.trans0 kdd
    have f13 : Fro (fun _ => True) w1 ow1 (w12.drewN kk).drew (ext ow1 w1.heap.size 6) := Fro.of_kp0 6 k1d
    have t13 : ext ow1 w1.heap.size 6 b' = 6 := ext_new (by omega)
    have h13 := h1.frT f13
    obtain ⟨xb, tb⟩ := blk_fr (show Blk w1 b1 _ _ from hb1) t1 f13 trivial
    generalize ext ow1 w1.heap.size 6 = ow13 at *
    have f14 : Fro (fun x => x ≠ 6) (w12.drewN kk).drew ow13 w14 ow13 := Fro.of_kp' k14 fun j _ hj hne => by
      obtain ⟨ad, g1, g2⟩ := hj
      cases g1
      dsimp only at g2
      subst g2
      exact hne t13
    have h14 := h13.fr f14 (by omega) (fun k hk => by omega) (fun k hk => by omega)
    have xb14 := (blk_fr xb tb f14 (by omega)).1
    refine ⟨_, OpB.n xb14, rest_c (by omega) (by omega) ⟨_, rfl, ?_⟩⟩
    have hge0 : w.heap.size ≤ b' := by have := k1.size; omega
    exact wr w14 ow13 _ _ _ _ (X.set i z) _ h14 (fro_is (F1.trans (f13.mono fun _ _ => trivial)) hge0 k14) (by rw [List.length_set]; omega) s14.rd (fun hh => by cases hh) fun w15 ow15 hr _ _ => ⟨_, rfl, hr⟩
end Go.Proofs.Ytaehmogilimmfaa

/- The statement MasterExact: its walk. Conditions: none. -/
set_option linter.unusedVariables false
set_option linter.unusedSimpArgs false
namespace Go.Proofs.Ytaehmogilimmfaa
open Go Go.RowKit

set_option maxRecDepth 100000 in
set_option maxHeartbeats 2000000 in
theorem plays_c {w w0 : World} {ow : Nat → Nat} {t u p r pb m : Nat} {S : Sh} {v : Dv} {o : Op4} {R : Ending → World → Prop} (h : Pr w ow t u p r pb S v) (hO : Old w0 w ow) (ho : o.Ok w0) (hS : S.may) (hs : v.Sm m) (hm : m ≤ 700000) (hn : 2 ≤ v.n)
    (hK : ∀ v' w' ow', Pr w' ow' t u p r pb S v' → Fro (Tb t u) w ow w' ow' → v'.n = v.n → v'.Sm (m + 2) → R (.returned (.bool true)) w') : GoC Try.prog F_law04_Pair_plays #[.pointer (some ⟨pb, 0, none⟩), o.v] w R := by
  refine S_law04_Pair_plays ?_
  unfold W_law04_Pair_plays
  have oo := h.o
  have hok := h.d.ok
  refine AlF.intro fun b1 w1 hb1e hb1 k1 _ => ?_
  have hb1 : OpB b1 o w1 := hb1
  have f1 : Fro (fun _ => True) w ow w1 (ext ow w.heap.size 5) := Fro.of_kp0 5 k1
  have t1 : ext ow w.heap.size 5 b1 = 5 := ext_new (by omega)
  have h1 := h.frT f1
  have F1 : Fro (Tb t u) w ow w1 (ext ow w.heap.size 5) := f1.mono fun _ _ => trivial
  have O1 := hO.fr f1 trivial
  generalize ext ow w.heap.size 5 = ow1 at *
  have hln2 : o.keep.length * 8 ≤ 140737488355328 := by have := ho.l.ln; omega
  have hln := ho.l.lt
  have hnn := ho.l.nn
  have hls : ∀ (tt : Nat) w' ow', 10 ≤ tt → Old w0 w' ow' → Ls w' ow' tt o.la o.keep := fun tt w' ow' ht o' => ⟨(o'.rdT ho.l.rd).mono fun x hx => ⟨by omega, by omega, by omega⟩, hln, hln2, hnn⟩
  have kd : Kp no w1 w1.drew := Kp.drew w1 1
  have fd : Fro (fun _ => True) w1 ow1 w1.drew ow1 := Fro.kp0 kd
  have hd := h1.frT fd
  have Od := O1.fr fd trivial
  have bd : PrB p r pb S w1.drew ∧ OpB b1 o w1.drew := ⟨hd.x, kd.blk hb1 id⟩
  have td : Td t 5 ∧ Td u 5 := ⟨⟨by omega, by omega, by omega⟩, ⟨by omega, by omega, by omega⟩⟩
  -- both steps are done
  have two : ∀ (w2 w3 : World) (ow2 ow3 : Nat → Nat) (v' : Dv), DX w2 ow2 t p v' → Fro (Td t) w1.drew ow1 w2 ow2 → RX w3 ow3 u r v' → Fro (Td u) w2 ow2 w3 ow3 → v'.n = v.n → v'.Sm (m + 2) → (PrB p r pb S w3 ∧ OpB b1 o w3) ∧ R (.returned (.bool true)) w3 := fun w2 w3 ow2 ow3 v' hd2 f2 hr3 f3 hn' hs' => by
    have hP := hd.st hd2 f2 hr3 f3
    have g2 := blk_fr (show Blk w1.drew b1 _ _ from bd.2) t1 f2 td.1
    have g3 := blk_fr g2.1 g2.2 f3 td.2
    exact ⟨⟨hP.x, g3.1⟩, hK v' w3 ow3 hP ((F1.trans (fd.mono fun _ _ => trivial)).trans (tb_fr f2 f3)) hn' hs'⟩
  have one : ∀ (w2 : World) (ow2 : Nat → Nat), Fro (Td t) w1.drew ow1 w2 ow2 → PrB p r pb S w2 ∧ OpB b1 o w2 := fun w2 ow2 f2 => ⟨hd.x1 f2, (blk_fr (show Blk w1.drew b1 _ _ from bd.2) t1 f2 td.1).1⟩
  have sp : ∀ {R' : Ending → World → Prop}, (∀ w', R (.returned (.bool true)) w' → R' (.returned (.bool true)) w') → GoC Try.prog F_law04_Pair_spoils #[.pointer (some ⟨pb, 0, none⟩), o.v] w1 R' := fun {R'} hR =>
    spoils_c h1 O1 ho hS hs hm hn fun v' w' ow' hP f hn' hs' => hR w' (hK v' w' ow' hP (F1.trans f) hn' hs')
  have opc : ∃ (n38 : Int) (n39 : Int) (n40 : Int) (n41 : Int) (n42 : Int) (a7 : Option Addr) (l7 c7 : Nat) (n43 : Int) (n44 : Int) (a8 : Option Addr) (l8 c8 : Nat) (q12 : Bool), (w1.cell? ⟨b1, 0, none⟩ = some (.int .i64 n38) ∧ w1.cell? (Addr.add ⟨b1, 0, none⟩ 1) = some (.int .i64 n39) ∧ w1.cell? (Addr.add ⟨b1, 0, none⟩ 2) = some (.int .i64 n40) ∧ w1.cell? (Addr.add ⟨b1, 0, none⟩ 3) = some (.int .i64 n41) ∧ w1.cell? (Addr.add ⟨b1, 0, none⟩ 4) = some (.int .i64 n42) ∧ w1.cell? (Addr.add ⟨b1, 0, none⟩ 5) = some (.slice a7 l7 c7) ∧ w1.cell? (Addr.add ⟨b1, 0, none⟩ 6) = some (.int .i64 n43) ∧ w1.cell? (Addr.add ⟨b1, 0, none⟩ 7) = some (.int .i64 n44) ∧ w1.cell? (Addr.add ⟨b1, 0, none⟩ 8) = some (.slice a8 l8 c8) ∧ w1.cell? (Addr.add ⟨b1, 0, none⟩ 9) = some (.bool q12) ∧ True) ∧ (CallF Try.prog F_law04_Pair_spoils #[(.pointer (some ⟨pb, 0, none⟩)), (.agg #[(.int .i64 n38), (.int .i64 n39), (.int .i64 n40), (.int .i64 n41), (.int .i64 n42), (.slice a7 l7 c7), (.int .i64 n43), (.int .i64 n44), (.slice a8 l8 c8), (.bool q12)])] w1 (fun r18 w19 => ∃ (q13 : Bool), r18 = (.bool q13) ∧ (R (.returned (.bool q13)) w19)) (PanF R)) :=
    ⟨_, _, _, _, _, _, _, _, _, _, _, _, _, _, ⟨Blk.at hb1 rfl rfl, Blk.at hb1 rfl rfl, Blk.at hb1 rfl rfl, Blk.at hb1 rfl rfl, Blk.at hb1 rfl rfl, Blk.at hb1 rfl rfl, Blk.at hb1 rfl rfl, Blk.at hb1 rfl rfl, Blk.at hb1 rfl rfl, Blk.at hb1 rfl rfl, trivial⟩, sp fun w' hr => ⟨_, rfl, hr⟩⟩
  have idle : R (.returned (.bool true)) w1 := hK v w1 ow1 h1 F1 rfl (hs.mono (by omega))
  refine ⟨_, hb1.k, cond_eq (fun _ => ?_) (fun _ => cond_eq (fun _ => ?_) (fun _ => cond_eq (fun _ => ?_) (fun _ => cond_eq (fun _ => ?_) (fun _ => cond_eq (fun _ => ?_) (fun _ => cond_eq (fun _ => ?_) (fun _ => cond_eq (fun _ => ?_) (fun _ => cond_eq (fun _ => ?_) (fun _ => ?_))))))))⟩
  · exact ⟨_, _, _, hb1.s, _, hb1.n, layout_c (s := o.s) fun w2 k2 => ⟨_, rfl, hK v w2 ow1 (h1.kp0 k2) (F1.trans ((Fro.kp0 k2).mono fun _ _ => trivial)) rfl (hs.mono (by omega))⟩⟩
  · have fm : ∀ (s : Sh), GoC Try.prog F_law04_Pair_formats #[.pointer (some ⟨pb, 0, none⟩), s.v] w1 fun en w' => match en with
        | .returned r2 => ∃ q4 : Bool, r2 = .bool q4 ∧ R (.returned (.bool q4)) w'
        | .panicked ch => PanF R ch w'
        | .outgrown => False := fun s => formats_c (s := s) h1 (hs.mono (by omega)) fun w' ow' hP f => ⟨_, rfl, hK _ w' ow' hP (F1.trans f) (format_n hok s) (formatR_sm hs)⟩
    refine ⟨_, hb1.li, cond_b (fun _ => NilF.intro rfl ⟨_, _, _, PrB.s h1.x, fm S⟩) (fun _ => ⟨_, _, _, hb1.s, fm o.s⟩)⟩
  · exact opens_c h1 (hs.mono (by omega)) hn fun w2 k2 => ⟨_, rfl, hK v w2 ow1 (h1.kp0 k2) (F1.trans ((Fro.kp0 k2).mono fun _ _ => trivial)) rfl (hs.mono (by omega))⟩
  · exact ⟨_, hb1.n, points_c h1 (hs.mono (by omega)) hn fun w' ow' hP f => ⟨_, rfl, hK _ w' ow' hP (F1.trans f) (point_n hok _) ((pointR_sm hs).mono (by omega))⟩⟩
  · refine ⟨fun w' => PrB p r pb S w' ∧ OpB b1 o w', bd, NilF.intro rfl ⟨_, fun w' hw => hw.1.d, _, fun w' hw => hw.2.n, _, _, _, _, _, fun w' hw => hw.2.l, NilF.intro rfl ⟨_, fun w' hw => hw.1.e, _, fun w' hw => hw.2.n, _, _, _, _, _, fun w' hw => hw.2.l, ?_⟩⟩⟩
    refine arm_c hd.d (hls t _ _ (by omega) Od) ho.n.2 fun w2 ow2 hd2 f2 => ⟨_, rfl, one w2 ow2 f2, ?_⟩
    refine rarm_c (hd.e1 f2) (hls u _ _ (by omega) (Od.fr f2 ⟨by omega, by omega, by omega⟩)) ho.n.2 fun w3 ow3 hr3 f3 => ?_
    obtain ⟨hB, hR⟩ := two w2 w3 ow2 ow3 _ hd2 f2 hr3 f3 (arm_n _ _ _ _) ((arm_sm hs _ _ _ _ hln2).mono (by omega))
    exact ⟨_, rfl, hB, both_c ⟨_, rfl, hB, hR⟩⟩
  · refine ⟨fun w' => PrB p r pb S w' ∧ OpB b1 o w', bd, NilF.intro rfl ⟨_, fun w' hw => hw.1.d, _, _, _, _, _, fun w' hw => hw.2.l, NilF.intro rfl ⟨_, fun w' hw => hw.1.e, _, _, _, _, _, fun w' hw => hw.2.l, ?_⟩⟩⟩
    refine crash_c hd.d (hls t _ _ (by omega) Od) (by have := hs.q; omega) fun w2 ow2 hd2 f2 => ⟨_, rfl, one w2 ow2 f2, ?_⟩
    refine rcrash_c (hd.e1 f2) (hls u _ _ (by omega) (Od.fr f2 ⟨by omega, by omega, by omega⟩)) (by have := hs.q; omega) fun w3 ow3 hr3 f3 => ?_
    obtain ⟨hB, hR⟩ := two w2 w3 ow2 ow3 _ hd2 f2 hr3 f3 (hok.crash_n _ _ _) ((crash_sm1 hs _ _ _).mono (by omega))
    exact ⟨_, rfl, hB, both_c ⟨_, rfl, hB, hR⟩⟩
  · refine ⟨fun w' => PrB p r pb S w' ∧ OpB b1 o w', bd, NilF.intro rfl ⟨_, fun w' hw => hw.1.d, NilF.intro rfl ⟨_, fun w' hw => hw.1.e, ?_⟩⟩⟩
    refine up_c hd.d fun w2 ow2 hd2 f2 => ⟨_, rfl, one w2 ow2 f2, ?_⟩
    refine rup_c (hd.e1 f2) fun w3 ow3 hr3 f3 => ?_
    obtain ⟨hB, hR⟩ := two w2 w3 ow2 ow3 _ hd2 f2 hr3 f3 rfl ⟨Nat.le_trans hs.q (by omega), hs.k⟩
    exact ⟨_, rfl, hB, both_c ⟨_, rfl, hB, hR⟩⟩
  · refine ⟨fun w' => PrB p r pb S w' ∧ OpB b1 o w', bd, NilF.intro rfl ⟨_, fun w' hw => hw.1.d, NilF.intro rfl ⟨_, fun w' hw => hw.1.e, ?_⟩⟩⟩
    refine sync_c hd.d (by have := hs.q; omega) hs.k fun w2 ow2 hd2 f2 => ⟨_, rfl, one w2 ow2 f2, ?_⟩
    refine rsync_c (hd.e1 f2) (by have := hs.q; omega) hs.k fun w3 ow3 hr3 f3 => ?_
    obtain ⟨hB, hR⟩ := two w2 w3 ow2 ow3 _ hd2 f2 hr3 f3 hok.sync_n ((Dv.sync_sm hs).mono (by omega))
    exact ⟨_, rfl, hB, both_c ⟨_, rfl, hB, hR⟩⟩
  · refine cond_eq (fun h8 => cond_eq (fun _ => opc) (fun hh => absurd h8 hh)) (fun _ => cond_eq (fun h10 => cond_eq (fun _ => opc) (fun hh => absurd h10 hh)) (fun _ => cond_eq (fun _ => opc) (fun _ => idle)))

set_option maxRecDepth 100000 in
theorem disks_c {w : World} {s : Sh} {R : Ending → World → Prop} (hs : s.may)
    (h : ∀ p r pb v w' ow', Pr w' ow' 100 200 p r pb s v → Old w w' ow' → 2 ≤ v.n → v.Sm 10 → R (.returned (.tuple #[.pointer (some ⟨pb, 0, none⟩), .bool true])) w') : GoC Try.prog F_law04_disks #[s.v] w R := by
  refine S_law04_disks ?_
  unfold W_law04_disks
  have hs' := hs
  unfold Sh.may at hs'
  have o0 : Old w w fun _ => 0 := ⟨Kp.refl _ _, fun _ _ => rfl⟩
  refine AlF.intro fun b1 w1 hb1e hb1 k1 _ => sh_rd (x := s) hb1 (rneed_c (s := s) fun w2 k2 => ⟨_, _, rfl, ?_⟩)
  have x2 := k2.blk hb1 id
  have f2 : Fro (fun _ => True) w (fun _ => 0) w2 (ext (fun _ => 0) w.heap.size 3) := Fro.of_kp0 3 (k1.trans0 k2)
  have t2 : ext (fun _ => 0) w.heap.size 3 b1 = 3 := ext_new (by omega)
  have o2 := o0.fr f2 trivial
  generalize ext (fun _ => 0) w.heap.size 3 = ow2 at *
  unfold needR
  rw [if_pos hs]
  have en : s.need = ((s.need.toNat : Nat) : Int) := by unfold Sh.need; omega
  dsimp only
  have hge : 13 ≤ s.need.toNat ∧ s.need.toNat ≤ 5000 := by unfold Sh.need; omega
  generalize hn : s.need.toNat = n at *
  rw [en]
  refine new_c (ow := ow2) (n := n) (by omega) (by omega) 100 fun b w3 ow3 h3 k3 hz hge3 => ⟨_, _, rfl, ?_⟩
  have f3 : Fro (fun _ => True) w2 ow2 w3 ow3 := Fro.new k3 hz
  refine rnew_c (ow := ow3) (n := n) (by omega) (by omega) 200 fun r w4 ow4 h4 k4 hz4 hge4 => ⟨_, _, rfl, ?_⟩
  have f4 : Fro (fun _ => True) w3 ow3 w4 ow4 := Fro.new k4 hz4
  have f34 := f3.trans f4
  obtain ⟨x4, t4⟩ := blk_fr x2 t2 f34 trivial
  have o4 := o2.fr f34 trivial
  have h3' := h3.fr f4 trivial trivial trivial trivial
  have kd : Kp no w4 w4.drew := Kp.drew w4 1
  have last : ∀ (w' w8 : World) (b3 : Nat), Kp no w4 w' → b3 = w'.heap.size → Blk w8 b3 #[.pointer (some ⟨b, 0, none⟩), .pointer (some ⟨r, 0, none⟩), .int .i64 s.pg, .int .i64 s.lg, .int .i64 s.fr] T_quotalaw04_Pair → Kp no w' w8 → R (.returned (.tuple #[.pointer (some ⟨b3, 0, none⟩), .bool true])) w8 := fun w' w8 b3 k' hb3 hx k8 => by
    have k48 := k'.trans0 k8
    have z := k'.size
    have f8 : Fro (fun _ => True) w4 ow4 w8 (ext ow4 w4.heap.size 1) := Fro.of_kp0 1 k48
    exact h b r b3 (Dv.new n) w8 (ext ow4 w4.heap.size 1) ⟨h3'.fr f8 trivial trivial trivial trivial, h4.fr f8 trivial trivial trivial trivial, hx, ext_new (by omega), by omega, by omega⟩ (o4.fr f8 trivial) (by rw [new_n]; omega) ((new_sm n).mono (by omega))
  have SB : ∀ w', Kp no w4 w' → ShB b1 s w' := fun w' k => k.blk x4 id
  refine ⟨fun w' => ShB b1 s w', SB _ kd, s.pg, s.lg, s.fr, fun w' hw => hw.c, ?_, ?_⟩
  · refine AlF.intro fun b2 w5 hb5e hb5 k5 _ => ⟨SB _ (kd.trans0 k5), num_c ⟨_, rfl, SB _ (kd.trans0 k5), cond_t rfl (cond_t rfl (cond_t rfl (last _ _ _ kd hb5e hb5 k5)))⟩⟩
  · refine num_c ⟨_, rfl, SB _ kd, cond_t rfl (cond_t rfl (cond_t rfl (AlF.intro fun b2 w5 hb5e hb5 k5 _ => ⟨SB _ (kd.trans0 k5), last _ _ _ kd hb5e hb5 k5⟩)))⟩

set_option maxRecDepth 100000 in
theorem masterExact_c {w : World} {s : Sh} {a : Option Addr} {l c : Nat} {L : List Op4} {R : Ending → World → Prop} (hL : Ops4Ok w a l c L) (h : ∀ w', Kp no w w' → R (.returned (.bool true)) w') :
    GoC Try.prog F_law04_MasterExact #[s.v, .slice a l c] w R := by
  refine S_law04_MasterExact ?_
  unfold W_law04_MasterExact
  refine AlF.intro fun b1 w1 hb1e hb1 k1 _ => awake_c fun w2 k2 => ⟨_, rfl, cond_f rfl ?_⟩
  refine sh_rd (x := s) (k2.blk hb1 id) (small_c (s := s) fun w3 k3 => ⟨_, _, _, rfl, ?_⟩)
  have hm := small_may s
  generalize smallS s = S at *
  have k03 := (k1.trans0 k2).trans0 k3
  refine disks_c (s := S) hm fun p r pb v w4 ow4 hP o4 hn sm => ⟨_, _, rfl, cond_f rfl ?_⟩
  have hl := hL.n
  refine loopN (fun st w' => ∃ k : Nat, k ≤ l ∧ k ≤ 120 ∧ st.1 = (k : Int) ∧ ∃ v' ow', Pr w' ow' 100 200 p r pb S v' ∧ 2 ≤ v'.n ∧ v'.Sm (10 + 2 * k) ∧ Old w3 w' ow') (fun st _ => l - st.1.toNat)
    ⟨0, by omega, by omega, rfl, v, ow4, hP, hn, sm.mono (by omega), o4⟩ ?_
  rintro ⟨k0, u⟩ w5 ⟨k, hk, hk2, hk0, v', ow5, hP5, hn5, sm5, o5⟩ _
  dsimp only at hk0 ⊢
  subst hk0
  refine cond_d (fun hkl => ?_) (fun _ => h _ (k03.trans0 o5.kp))
  refine cond_d (fun hk120 => ?_) (fun _ => h _ (k03.trans0 o5.kp))
  have hkL : k < L.length := by omega
  have k05 := k03.trans0 o5.kp
  have hrd : Rd w5 a (fO4 L) := hL.rd.kp0 k05
  have g : ∀ (q : Nat) (hq : q < 10), (fO4 L)[k * 10 + q]? = (L[k]).cs[q]? := fun q hq => flatV_get Op4.cs_len L k hkL q hq
  obtain ⟨ba, oa, ha, hc0⟩ := hrd (k * 10 + 0) (.int .i64 (L[k]).kind) (by rw [g 0 (by omega)]; rfl)
  have hc : ∀ (q : Nat) (hq : q < 10) (x : Value), (L[k]).cs[q]? = some x → w5.cell? ⟨ba, oa + k * 10 + q, none⟩ = some x := fun q hq x hx => by
    obtain ⟨b', o', ha', hcc⟩ := hrd (k * 10 + q) x (by rw [g q hq]; exact hx)
    rw [ha] at ha'
    cases ha'
    rw [← Nat.add_assoc] at hcc
    exact hcc
  have hcq : ∀ (q : Nat) (hq : q < 10) (x : Value), (L[k]).cs[q]? = some x → w5.cell? (Addr.add ((⟨ba, oa, none⟩ : Addr).add (Int.toNat (k : Int) * 10)) q) = some x := fun q hq x hx => by
    rw [Int.toNat_natCast, add_at, add_at]
    exact hc q hq x hx
  have hc0' : w5.cell? ((⟨ba, oa, none⟩ : Addr).add (Int.toNat (k : Int) * 10)) = some (.int .i64 (L[k]).kind) := by
    rw [Int.toNat_natCast, add_at]
    exact hc 0 (by omega) _ rfl
  refine ⟨by omega, by omega, _, ha, _, _, _, _, _, _, _, _, _, _, _, _, _, _, ⟨hc0', hcq 1 (by omega) _ rfl, hcq 2 (by omega) _ rfl, hcq 3 (by omega) _ rfl, hcq 4 (by omega) _ rfl, hcq 5 (by omega) _ rfl, hcq 6 (by omega) _ rfl, hcq 7 (by omega) _ rfl, hcq 8 (by omega) _ rfl, hcq 9 (by omega) _ rfl, trivial⟩, ?_⟩
  have hok := hL.ok _ (List.getElem_mem hkL)
  have hok3 : (L[k]).Ok w3 := ⟨hok.n, ⟨hok.l.n, hok.l.rd.kp0 k03, hok.l.lt, hok.l.ln, hok.l.nn⟩, ⟨hok.b.n, hok.b.rd.kp0 k03, hok.b.ln, hok.b.nn⟩⟩
  refine plays_c (o := L[k]) hP5 o5 hok3 hm sm5 (by omega) hn5 fun v6 w6 ow6 hP6 f6 hn6 sm6 => ⟨_, rfl, cond_f rfl ?_⟩
  have o6 := o5.fr f6 ⟨⟨by omega, by omega, by omega⟩, ⟨by omega, by omega, by omega⟩⟩
  refine alike_c hP6 (by have := sm6.q; omega) fun w7 k7 => ⟨_, rfl, cond_f rfl ?_⟩
  have wj : IntKind.wrap .i64 ((k : Int) + 1) = ((k + 1 : Nat) : Int) := wk4 (n := 120) (by omega) (by omega)
  rw [wj]
  clear wj
  exact ⟨⟨k + 1, by omega, by omega, rfl, v6, ow6, hP6.kp0 k7, by omega, sm6.mono (by omega), o6.fr (Fro.kp0 k7) trivial⟩, by simp only [Int.toNat_natCast]; omega⟩

theorem masterExact_walk {W : World} {v0 v1 : Value} (h0 : ArgW Try.prog W T_api_Shape v0) (h1 : ArgW Try.prog W T_s_quotalaw04_Op v1) : GoC Try.prog F_law04_MasterExact #[v0, v1] W fun e W' => e = .returned (.bool true) ∧ Kp no W W' := by
  obtain ⟨s, rfl⟩ := sh_arg h0
  obtain ⟨a, l, c, L, rfl, hL⟩ := ops4_open h1
  exact masterExact_c hL fun w' k => ⟨rfl, k⟩
end Go.Proofs.Ytaehmogilimmfaa
