/- Layer 8: Write, Read. Conditions: the disk's queue and its loss's list are short. -/
import Derived.Test.YtalkkhocljehfaaNp
set_option linter.unusedVariables false
set_option linter.unusedSimpArgs false
namespace Go.Proofs.Ytalkkhocljehfaa
open Go Go.RowKit

/-- A number's bytes, the lowest first; the number that bytes are. -/
def leB8 : Nat → Nat → List UInt8
  | 0, _ => []
  | s + 1, n => UInt8.ofNat (n % 256) :: leB8 s (n / 256)
theorem leB8_len : ∀ s n, (leB8 s n).length = s
  | 0, _ => rfl
  | s + 1, n => by simp [leB8, leB8_len s]
def leN : List UInt8 → Nat
  | [] => 0
  | c :: r => c.toNat + 256 * leN r
theorem leN_lt : ∀ l, leN l < 256 ^ l.length
  | [] => by simp [leN]
  | c :: r => by
    have := leN_lt r
    have := u8_lt c
    simp only [leN, List.length_cons, Nat.pow_succ]
    omega
theorem leN_snoc : ∀ (l : List UInt8) (x : UInt8), leN (l ++ [x]) = leN l + x.toNat * 256 ^ l.length
  | [], x => by simp [leN]
  | c :: r, x => by
    rw [List.cons_append, leN, leN_snoc r x, leN, List.length_cons, Nat.pow_succ, Nat.mul_add, ← Nat.mul_assoc, ← Nat.mul_assoc, Nat.add_assoc]
    congr 2
    rw [Nat.mul_comm 256, Nat.mul_assoc, Nat.mul_assoc, Nat.mul_comm 256]
theorem leN_leB8 : ∀ s n, leN (leB8 s n) = n % 256 ^ s
  | 0, n => by simp [leB8, leN, Nat.mod_one]
  | s + 1, n => by
    simp only [leB8, leN, leN_leB8 s]
    have : (UInt8.ofNat (n % 256)).toNat = n % 256 := by simp [UInt8.toNat_ofNat']
    rw [this, Nat.pow_succ, Nat.mul_comm (256 ^ s), Nat.mod_mul]

/-- A marker's bytes. -/
def markB (h : Nat) (last : UInt8) : List UInt8 := leB8 4 h ++ (List.replicate 507 0 ++ [last])
theorem markB_len (h : Nat) (x : UInt8) : (markB h x).length = 512 := by
  unfold markB
  simp only [List.length_append, leB8_len, List.length_replicate, List.length_cons, List.length_nil]
/-- A marker that is being laid: so many of its number's bytes. -/
def mkB (h i : Nat) : List UInt8 := (leB8 4 h).take i ++ List.replicate (512 - i) 0
theorem mkB_0 (h : Nat) : mkB h 0 = List.replicate 512 0 := rfl
set_option maxRecDepth 100000 in
theorem mkB_step (h : Nat) : ∀ i, i < 4 → (mkB h i).set i (UInt8.ofNat (h / 256 ^ i % 256)) = mkB h (i + 1)
  | 0, _ => by simp only [Nat.pow_zero, Nat.div_one]; rfl
  | 1, _ => by simp only [Nat.pow_one]; rfl
  | 2, _ => by rw [show h / 256 ^ 2 = h / 256 / 256 by rw [Nat.div_div_eq_div_mul]]; rfl
  | 3, _ => by rw [show h / 256 ^ 3 = h / 256 / 256 / 256 by rw [Nat.div_div_eq_div_mul, Nat.div_div_eq_div_mul]]; rfl
  | i + 4, hi => by omega
set_option maxRecDepth 100000 in
theorem mkB_4 (h : Nat) (x : UInt8) : (mkB h 4).set 511 x = markB h x := rfl
set_option maxRecDepth 100000 in
theorem markB_set (h : Nat) (x y : UInt8) : (markB h x).set 511 y = markB h y := rfl

/-- Owned bytes, as a block. -/
structure Bb (w : World) (ow : Nat → Nat) (u b : Nat) (bs : List UInt8) : Prop where
  e : ∃ cur, Blk w b cur T_uint8 ∧ cur.toList = bvs bs
  t : ow b = u
theorem Bb.fr {T : Nat → Prop} {w w' : World} {ow ow' : Nat → Nat} {u b : Nat} {bs : List UInt8} (h : Bb w ow u b bs) (f : Fro T w ow w' ow') (ht : T u) : Bb w' ow' u b bs := by
  obtain ⟨⟨cur, hb, hc⟩, t⟩ := h
  have g := blk_fr hb t f ht
  exact ⟨⟨cur, g.1, hc⟩, g.2⟩
theorem Bb.bs {w : World} {ow : Nat → Nat} {u b t : Nat} {bs : List UInt8} (h : Bb w ow u b bs) (ht : Td t u) (hl : bs.length ≤ 100000) : Bs w ow t (some ⟨b, 0, none⟩) bs := by
  obtain ⟨⟨cur, hb, hc⟩, hu⟩ := h
  refine ⟨fun i v hv => ⟨b, 0, rfl, ?_, by rw [hu]; exact ht⟩, by omega, fun hh => by cases hh⟩
  rw [Nat.zero_add, hb.cell]
  rw [← hc] at hv
  simpa using hv
theorem Bb.lt {w : World} {ow : Nat → Nat} {u b : Nat} {bs : List UInt8} (h : Bb w ow u b bs) : b < w.heap.size := by
  obtain ⟨⟨cur, hb, hc⟩, hu⟩ := h
  exact hb.lt
theorem Bb.st {w : World} {ow : Nat → Nat} {u b i : Nat} {bs : List UInt8} {x : UInt8} {K : World → Prop} {ad : Addr} (h : Bb w ow u b bs) (hi : i < bs.length) (had : ad = ⟨b, i, none⟩)
    (hk : ∀ w', Bb w' ow u b (bs.set i x) → Kp (fun j => j = b) w w' → K w') : StF w ad (bv x) K := by
  obtain ⟨⟨cur, hb, hc⟩, hu⟩ := h
  have hsz : cur.size = bs.length := by rw [← Array.length_toList, hc, bvs_len]
  refine StF.at had hb (by omega) fun w' hb' k' _ => hk w' ⟨⟨_, hb', ?_⟩, hu⟩ k'
  rw [Array.toList_setIfInBounds, hc, bvs_set]
theorem Bb.rd {w : World} {ow : Nat → Nat} {u b : Nat} {bs : List UInt8} (h : Bb w ow u b bs) {i : Nat} (hi : i < bs.length) {ad : Addr} (had : ad = ⟨b, i, none⟩) : w.cell? ad = some (.int .u8 ((bs[i]).toNat : Int)) := by
  obtain ⟨⟨cur, hb, hc⟩, hu⟩ := h
  refine hb.at had ?_
  have := bvs_get hi
  rw [← hc] at this
  simpa [bv] using this
/-- A store to a block that is new since w. -/
theorem fro_blk {T : Nat → Prop} {w w1 w2 : World} {ow ow1 : Nat → Nat} {b : Nat} (f : Fro T w ow w1 ow1) (hge : w.heap.size ≤ b) (k : Kp (fun j => j = b) w1 w2) : Fro T w ow w2 ow1 :=
  ⟨f.kp.trans k (fun _ _ h => h) fun j hj hh => by omega, f.ag⟩
theorem fro_blkE {T : Nat → Prop} {w w1 w2 : World} {ow ow1 : Nat → Nat} {b : Nat} (u : Nat) (f : Fro T w ow w1 ow1) (hge : w.heap.size ≤ b) (k : Kp (fun j => j = b) w1 w2) : Fro T w ow w2 (ext ow1 w1.heap.size u) :=
  ⟨f.kp.trans k (fun _ _ h => h) fun j hj hh => by omega, fun j hj ht => by rw [ext_old (by have := f.kp.size; omega)]; exact f.ag j hj ht⟩
/-- An error's block has an owner of its own. -/
def ErrO (ow : Nat → Nat) (t : Nat) (e : Value) : Prop := ∀ b, e = .iface T_p_api_Fault (.pointer (some ⟨b, 0, none⟩)) → ow b = t + 9
theorem ErrO.nil (ow : Nat → Nat) (t : Nat) : ErrO ow t .nilIface := fun b hb => by cases hb
theorem fro_own {w w' : World} {ow : Nat → Nat} {b u : Nat} (k : Kp (fun j => j = b) w w') (hu : ow b = u) : Fro (fun x => x ≠ u) w ow w' ow := Fro.of_kp' k fun j _ hj hne => hne (by rw [hj]; exact hu)

/-- What Write does. -/
def writeR (v : Dv) (at_ h : Int) (bs : List UInt8) : Nat × Dv :=
  if v.down then (40, v) else if ¬ ((0 ≤ at_ ∧ at_ + 3 ≤ (v.n : Int)) ∧ mayP v.n at_ h) then (4, v) else if bs.length ≠ 1024 then (42, v)
  else if (putL v (at_ + 1) (chunkL 2 bs)).1 ≠ 0 then putL v (at_ + 1) (chunkL 2 bs)
  else if (putL (putL v (at_ + 1) (chunkL 2 bs)).2 at_ [markB h.toNat 165]).1 ≠ 0 then putL (putL v (at_ + 1) (chunkL 2 bs)).2 at_ [markB h.toNat 165]
  else if (putL (putL (putL v (at_ + 1) (chunkL 2 bs)).2 at_ [markB h.toNat 165]).2 h (chunkL 2 bs)).1 ≠ 0 then putL (putL (putL v (at_ + 1) (chunkL 2 bs)).2 at_ [markB h.toNat 165]).2 h (chunkL 2 bs)
  else putL (putL (putL (putL v (at_ + 1) (chunkL 2 bs)).2 at_ [markB h.toNat 165]).2 h (chunkL 2 bs)).2 at_ [markB h.toNat 0]
theorem chunk1 {b : List UInt8} (h : b.length = 512) : chunkL 1 b = [b] := by
  unfold chunkL chunkL
  rw [List.take_of_length_le (by omega)]

set_option maxRecDepth 100000 in
set_option maxHeartbeats 2000000 in
theorem twrite_c {w : World} {ow : Nat → Nat} {t b l c : Nat} {v : Dv} {at_ hm : Int} {a : Option Addr} {bs : List UInt8} {R : Ending → World → Prop} (h : DX w ow t b v) (hs : v.Sm 700000) (hr : Bs w ow t a bs) (hl : bs.length = l) (hc : l ≤ c)
    (hK : ∀ e w' ow', DX w' ow' t b (writeR v at_ hm bs).2 → Fro (Td t) w ow w' ow' → ErrV w' e zW ((writeR v at_ hm bs).1 : Int) → ErrF w e ∧ ErrO ow' t e → R (.returned e) w') :
    GoC Try.prog F_twin_Write #[.pointer (some ⟨b, 0, none⟩), .int .i64 at_, .int .i64 hm, .slice a l c] w R := by
  subst hl
  refine S_twin_Write ?_
  unfold W_twin_Write
  have hok := h.ok
  have n2 := hok.n2
  refine AlF.intro fun b1 w1 hb1e hb1 k1 _ => ?_
  have hge1 : w.heap.size ≤ b1 := by omega
  have f1 : Fro (fun _ => True) w ow w1 (ext ow w.heap.size (t + 5)) := Fro.of_kp0 (t + 5) k1
  have t1 : ext ow w.heap.size (t + 5) b1 = t + 5 := ext_new (by omega)
  have h1 := h.fr f1 trivial trivial trivial trivial
  have hr1 := hr.fr f1 fun _ _ => trivial
  have F1 : Fro (Td t) w ow w1 (ext ow w.heap.size (t + 5)) := f1.mono fun _ _ => trivial
  generalize ext ow w.heap.size (t + 5) = ow1 at *
  have td5 : Td t (t + 5) := ⟨by omega, by omega, by omega⟩
  -- giving up
  have pan : ∀ (e : Nat) (w2 : World) (ow2 : Nat → Nat) (v2 : Dv), writeR v at_ hm bs = (e, v2) → e ≠ 0 → DX w2 ow2 t b v2 → Fro (Td t) w ow w2 ow2 → Blk w2 b1 #[.nilIface] T_error → ow2 b1 = t + 5 →
      PanD Try.prog F_twin_Write_1 #[.pointer (some ⟨b1, 0, none⟩)] (fun w23 => (∃ (v7 : Value), w23.cell? ⟨b1, 0, none⟩ = some v7 ∧ (R (.returned v7) w23))) R (gaveL (e : Int)) w2 := fun e w2 ow2 v2 ee he h2 F2 x2 t2 =>
    Write_pan (by omega) x2 fun v' w' hv hf hb' k' => ⟨v', hb'.at rfl rfl, by
      have hk := hK v' w' (ext ow2 w2.heap.size (t + 9))
      rw [ee] at hk
      have fo : Fro (fun u => u ≠ t + 5) w2 ow2 w' (ext ow2 w2.heap.size (t + 9)) := Fro.of_kp (t + 9) k' fun j _ hj hne => hne (by rw [hj]; exact t2)
      exact hk (h2.fr fo (by omega) (by omega) (by omega) (by omega)) (fro_blkE (t + 9) F2 hge1 k') hv ⟨hf.mono F2.kp.size, fun b hb => ext_new (hf b hb)⟩⟩
  refine running_c h1 (fun hd => ⟨rfl, ?_⟩) (fun hd => pan 40 w1 ow1 v (by unfold writeR; rw [if_pos hd]) (by decide) h1 F1 hb1 t1)
  refine there_c h1 (by omega) ⟨_, rfl, ?_⟩
  refine cond_d (fun hth => ?_) (fun hth => ?_)
  rotate_left
  · exact need_c (fun hq => by cases hq) (fun _ => pan 4 w1 ow1 v (by unfold writeR; rw [if_neg (by simp [hd]), if_pos (fun hh => hth hh.1)]) (by decide) h1 F1 hb1 t1)
  refine may_c h1 (by omega) ⟨_, rfl, need_c (fun hq => ⟨rfl, ?_⟩) (fun hq => ?_)⟩
  case refine_2 =>
    exact pan 4 w1 ow1 v (by unfold writeR; rw [if_neg (by simp [hd]), if_pos (fun hh => (of_decide_eq_false hq) hh.2)]) (by decide) h1 F1 hb1 t1
  have hmay := of_decide_eq_true hq
  refine need_c (fun hq => ⟨rfl, ?_⟩) (fun hq => ?_)
  case refine_2 =>
    refine pan 42 w1 ow1 v ?_ (by decide) h1 F1 hb1 t1
    unfold writeR
    rw [if_neg (by simp [hd]), if_neg (fun hh => hh ⟨hth, hmay⟩), if_pos (fun hh => by rw [hh] at hq; simp at hq)]
  have hl : bs.length = 1024 := by
    have := (beq_iff_eq.1 hq)
    omega
  have e0 : writeR v at_ hm bs = if (putL v (at_ + 1) (chunkL 2 bs)).1 ≠ 0 then putL v (at_ + 1) (chunkL 2 bs)
      else if (putL (putL v (at_ + 1) (chunkL 2 bs)).2 at_ [markB hm.toNat 165]).1 ≠ 0 then putL (putL v (at_ + 1) (chunkL 2 bs)).2 at_ [markB hm.toNat 165]
      else if (putL (putL (putL v (at_ + 1) (chunkL 2 bs)).2 at_ [markB hm.toNat 165]).2 hm (chunkL 2 bs)).1 ≠ 0 then putL (putL (putL v (at_ + 1) (chunkL 2 bs)).2 at_ [markB hm.toNat 165]).2 hm (chunkL 2 bs)
      else putL (putL (putL (putL v (at_ + 1) (chunkL 2 bs)).2 at_ [markB hm.toNat 165]).2 hm (chunkL 2 bs)).2 at_ [markB hm.toNat 0] := by
    unfold writeR
    rw [if_neg (by simp [hd]), if_neg (fun hh => hh ⟨hth, hmay⟩), if_neg (fun hh => hh hl)]
  unfold mayP at hmay
  have m1 : IntKind.wrap .i64 (at_ + 1) = at_ + 1 := wrap_i64 (by omega) (by omega)
  rw [m1]
  have smA := putL_sm (chunkL 2 bs) (i := at_ + 1) hs
  have okA := putL_Ok (chunkL 2 bs) (at_ + 1) hok
  refine put_c (k := 2) h1 (hs.mono (by omega)) hr1 rfl hl (by omega) hc (by omega) fun w2 ow2 h2 f2 => ⟨fun hz => ⟨rfl, ?_⟩, fun hne => ?_⟩
  case refine_2 =>
    obtain ⟨x2, t2⟩ := blk_fr hb1 t1 f2 td5
    exact pan _ w2 ow2 _ (by rw [e0, if_pos hne]) hne h2 (F1.trans f2) x2 t2
  rw [if_neg (fun hh => hh hz)] at e0
  obtain ⟨x2, t2⟩ := blk_fr hb1 t1 f2 td5
  have F2 := F1.trans f2
  have hr2 := hr1.fr f2 fun _ hu => hu
  generalize (putL v (at_ + 1) (chunkL 2 bs)).2 = vA at *
  rw [chunkL_len] at smA
  refine make_u8 (n := 512) (by omega) fun b3 w3 cur hb3 hcur k3 hb3e => ⟨_, _, _, rfl, ?_⟩
  have f3 : Fro (fun _ => True) w2 ow2 w3 (ext ow2 w2.heap.size (t + 6)) := Fro.of_kp0 (t + 6) k3
  have t3 : ext ow2 w2.heap.size (t + 6) b3 = t + 6 := ext_new (by omega)
  have h3 := h2.fr f3 trivial trivial trivial trivial
  have hr3 := hr2.fr f3 fun _ _ => trivial
  obtain ⟨x3, t13⟩ := blk_fr x2 t2 f3 trivial
  have F3 := F2.trans (f3.mono fun u (_ : Td t u) => trivial)
  have B3 : Bb w3 (ext ow2 w2.heap.size (t + 6)) (t + 6) b3 (mkB hm.toNat 0) := ⟨⟨cur, hb3, by rw [mkB_0]; exact hcur⟩, t3⟩
  have hge3 : w.heap.size ≤ b3 := by have := F2.kp.size; omega
  generalize ext ow2 w2.heap.size (t + 6) = ow3 at *
  have td6 : Td t (t + 6) := ⟨by omega, by omega, by omega⟩
  refine loopN (fun st w' => ∃ j : Nat, j ≤ 4 ∧ st.1 = (j : Int) ∧ DX w' ow3 t b vA ∧ Blk w' b1 #[.nilIface] T_error ∧ Fro (Td t) w ow w' ow3 ∧ Bb w' ow3 (t + 6) b3 (mkB hm.toNat j)) (fun st _ => 4 - st.1.toNat)
    ⟨0, by omega, rfl, h3, x3, F3, B3⟩ ?_
  rintro ⟨j0, u⟩ w4 ⟨j, hj, hj0, h4, x4, F4, B4⟩ _
  dsimp only at hj0 ⊢
  subst hj0
  have hlen4 : (mkB hm.toNat j).length = 512 := by unfold mkB; rw [List.length_append, List.length_take, leB8_len, List.length_replicate]; omega
  refine cond_d (fun hlt => ?_) (fun hge => ?_)
  · have m8 : IntKind.wrap .i64 (8 * (j : Int)) = ((8 * j : Nat) : Int) := by rw [wrap_i64 (by omega) (by omega)]; omega
    have mj : IntKind.wrap .i64 ((j : Int) + 1) = ((j + 1 : Nat) : Int) := wk8 (n := 20) (by omega) (by omega)
    have hv : Value.int .u8 (IntKind.wrap .u8 (shrV .i64 hm ((8 * j : Nat) : Int))) = bv (UInt8.ofNat (hm.toNat / 256 ^ j % 256)) := by
      rw [show hm = ((hm.toNat : Nat) : Int) by omega, shrV_nat (by simp only [IntKind.bits]; omega), u8_mod, Int.toNat_natCast, Nat.pow_mul]
      exact bv_of (by omega)
    rw [m8, mj]
    refine ⟨by omega, by omega, by omega, _, rfl, ?_⟩
    rw [hv]
    refine B4.st (i := j) (by omega) (by rw [Int.toNat_natCast, add_at, Nat.zero_add]) fun w5 B5 k5 => ?_
    rw [mkB_step _ _ (by omega)] at B5
    have fo := fro_own k5 B4.t
    exact ⟨⟨j + 1, by omega, rfl, h4.fr fo (by omega) (by omega) (by omega) (by omega), k5.blk x4 (fun hh => by subst hh; have := B4.t; omega), fro_blk F4 hge3 k5, B5⟩, by simp only [Int.toNat_natCast]; omega⟩
  have hj4 : j = 4 := by omega
  subst hj4
  have hr4 : Bs w4 ow3 t a bs := hr.fr F4 fun _ hu => hu
  refine ⟨by omega, by omega, _, rfl, ?_⟩
  rw [show Value.int .u8 165 = bv 165 from rfl]
  refine B4.st (i := 511) (by omega) (by rw [add_at, Nat.zero_add]; rfl) fun w5 B5 k5 => ?_
  rw [mkB_4] at B5
  have fo := fro_own k5 B4.t
  have h5 := h4.fr fo (by omega) (by omega) (by omega) (by omega)
  have x5 := k5.blk x4 (fun hh => by subst hh; have := B4.t; omega)
  have F5 := fro_blk F4 hge3 k5
  refine put_c (k := 1) h5 (smA.mono (by omega)) (B5.bs td6 (by rw [markB_len]; omega)) (markB_len _ _) rfl (by omega) (by omega) (by omega) fun w6 ow6 h6 f6 => ?_
  rw [chunk1 (markB_len _ _)] at h6 ⊢
  obtain ⟨x6, t6⟩ := blk_fr x5 t13 f6 td5
  have F6 := F5.trans f6
  have B6 := B5.fr f6 td6
  refine ⟨fun hz2 => ⟨rfl, ?_⟩, fun hne => pan _ w6 ow6 _ (by rw [e0, if_pos hne]) hne h6 F6 x6 t6⟩
  rw [if_neg (fun hh => hh hz2)] at e0
  have smB := putL_sm [markB hm.toNat 165] (i := at_) smA
  have okB := putL_Ok [markB hm.toNat 165] at_ okA
  generalize (putL vA at_ [markB hm.toNat 165]).2 = vB at *
  simp only [List.length_cons, List.length_nil] at smB
  have hr6 : Bs w6 ow6 t a bs := hr.fr F6 fun _ hu => hu
  refine put_c (k := 2) h6 (smB.mono (by omega)) hr6 rfl hl (by omega) hc (by omega) fun w7 ow7 h7 f7 => ?_
  obtain ⟨x7, t7⟩ := blk_fr x6 t6 f7 td5
  have F7 := F6.trans f7
  have B7 := B6.fr f7 td6
  refine ⟨fun hz3 => ⟨rfl, ?_⟩, fun hne => pan _ w7 ow7 _ (by rw [e0, if_pos hne]) hne h7 F7 x7 t7⟩
  rw [if_neg (fun hh => hh hz3)] at e0
  have smC := putL_sm (chunkL 2 bs) (i := hm) smB
  generalize (putL vB hm (chunkL 2 bs)).2 = vC at *
  rw [chunkL_len] at smC
  refine ⟨by omega, by omega, _, rfl, ?_⟩
  rw [show Value.int .u8 0 = bv 0 from rfl]
  refine B7.st (i := 511) (by rw [markB_len]; omega) (by rw [add_at, Nat.zero_add]; rfl) fun w8 B8 k8 => ?_
  rw [markB_set] at B8
  have fo8 := fro_own k8 B7.t
  have h8 := h7.fr fo8 (by omega) (by omega) (by omega) (by omega)
  have x8 := k8.blk x7 (fun hh => by subst hh; have := B7.t; omega)
  have F8 := fro_blk F7 hge3 k8
  refine put_c (k := 1) h8 (smC.mono (by omega)) (B8.bs td6 (by rw [markB_len]; omega)) (markB_len _ _) rfl (by omega) (by omega) (by omega) fun w9 ow9 h9 f9 => ?_
  rw [chunk1 (markB_len _ _)] at h9 ⊢
  obtain ⟨x9, t9⟩ := blk_fr x8 t7 f9 td5
  have F9 := F8.trans f9
  rw [← e0] at h9 ⊢
  refine ⟨fun hz4 => ⟨rfl, ?_⟩, fun hne => pan _ w9 ow9 _ rfl hne h9 F9 x9 t9⟩
  refine StF.at rfl x9 (by simp) fun wA xA kA _ => ?_
  have foA := fro_own kA t9
  have hA := h9.fr foA (by omega) (by omega) (by omega) (by omega)
  have FA := fro_blk F9 hge1 kA
  refine Write_back xA fun wB xB kB => ⟨_, xB.at rfl rfl, ?_⟩
  have foB := fro_own kB t9
  exact hK _ wB _ (hA.fr foB (by omega) (by omega) (by omega) (by omega)) (fro_blk FA hge1 kB) (.inl ⟨by rw [hz4]; rfl, rfl⟩) ⟨ErrF.nil _, ErrO.nil _ _⟩
end Go.Proofs.Ytalkkhocljehfaa
