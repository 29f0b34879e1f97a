/- Layer 4: put, read. Conditions: the disk's queue and its loss's list are short. -/
import Derived.Test.YtaehmogilimmfaaKb
set_option linter.unusedVariables false
set_option linter.unusedSimpArgs false
namespace Go.Proofs.Ytaehmogilimmfaa
open Go Go.RowKit

/-- What bounds a disk's lists. -/
structure Dv.Sm (v : Dv) (m : Nat) : Prop where
  q : v.q.length ≤ m
  k : v.keep.length * 8 ≤ 140737488355328
theorem Dv.Sm.mono {v : Dv} {m m' : Nat} (h : v.Sm m) (hm : m ≤ m') : v.Sm m' := ⟨Nat.le_trans h.q hm, h.k⟩
/-- A write, and a sync behind it. -/
def Dv.put (v : Dv) (i : Int) (b : List UInt8) : Nat × Dv := if (v.write i b).1 ≠ 0 then v.write i b else (v.write i b).2.sync
theorem Dv.write_sm {v : Dv} {i : Int} {b : List UInt8} {m : Nat} (h : v.Sm m) : (v.write i b).2.Sm (m + 1) := by
  unfold Dv.write
  repeat' split
  · exact h.mono (by omega)
  · exact h.mono (by omega)
  · exact h.mono (by omega)
  · exact ⟨by simp [Dv.fall], by simp [Dv.fall]⟩
  · exact ⟨by simp [Dv.add, Dv.bump, h.q], h.k⟩
theorem Dv.sync_sm {v : Dv} {m : Nat} (h : v.Sm m) : v.sync.2.Sm m := by
  unfold Dv.sync
  repeat' split
  · exact h
  · exact ⟨by simp [Dv.fall], by simp [Dv.fall]⟩
  · exact ⟨by simp [Dv.synced], h.k⟩
theorem Dv.put_sm {v : Dv} {i : Int} {b : List UInt8} {m : Nat} (h : v.Sm m) : (v.put i b).2.Sm (m + 1) := by
  unfold Dv.put
  split
  · exact Dv.write_sm h
  · exact Dv.sync_sm (Dv.write_sm h)

theorem rdT_old {w0 w : World} {ow : Nat → Nat} {U : Nat → Prop} {b : Nat} {cs : Array Value} {T : TypeId} {xs : List Value} (hb : Blk w b cs T) (hc : Has cs xs) (hu : U (ow b)) : RdT w ow U (some ⟨b, 0, none⟩) xs := fun i v hv => ⟨b, 0, rfl, by rw [Nat.zero_add]; exact hb.at rfl (hc i v hv), hu⟩

theorem mput_c {w : World} {ow : Nat → Nat} {t b : Nat} {v : Dv} {i : Int} {bs : List UInt8} {R : Ending → World → Prop} (h : DX w ow t b v) (hs : v.Sm 900000) (hb : bs.length = 512)
    (hK : ∀ w' ow', DX w' ow' t b (v.put i bs).2 → Fro (Td t) w ow w' ow' → R (.returned (.int .i64 ((v.put i bs).1 : Int))) w') : GoC Try.prog F_master_put #[.pointer (some ⟨b, 0, none⟩), .int .i64 i, .agg (List.toArray (bvs bs))] w R := by
  refine S_master_put ?_
  unfold W_master_put
  refine AlF.intro fun b1 w1 hb1e hb1 k1 _ => ⟨trivial, trivial, ?_⟩
  rw [subP0]
  have f1 : Fro (fun _ => True) w ow w1 (ext ow w.heap.size (t + 5)) := Fro.of_kp0 (t + 5) k1
  have t1 : ext ow w.heap.size (t + 5) b1 = t + 5 := ext_new (by omega)
  have h1 := h.fr f1 trivial trivial trivial trivial
  have F := f1.mono fun u (_ : Td t u) => trivial
  generalize ext ow w.heap.size (t + 5) = ow1 at *
  have hBs : Bs w1 ow1 t (some ⟨b1, 0, none⟩) bs := ⟨rdT_old (w0 := w) hb1 (has_list _) (by rw [t1]; exact ⟨by omega, by omega, by omega⟩), by omega, fun hh => by cases hh⟩
  have hw := write_c (i := i) (c := 512) (R := fun e w' => match e with
      | .returned r => ∃ n2 : Int, r = .int .i64 n2 ∧ cond (n2 != 0) (R (.returned (.int .i64 n2)) w') (CallF Try.prog F_sectors_Device_Sync #[.pointer (some ⟨b, 0, none⟩)] w' (fun r2 w3 => ∃ n3 : Int, r2 = .int .i64 n3 ∧ R (.returned (.int .i64 n3)) w3) (PanF R))
      | .panicked ch => R (.panicked ch) w'
      | .outgrown => False) h1 hBs (by have := hs.q; omega) hs.k fun w2 ow2 h2 f2 => ?_
  · rw [hb] at hw
    exact hw
  refine ⟨_, rfl, ?_⟩
  unfold Dv.put at hK
  refine cond_ne (fun hne => ?_) (fun he => ?_)
  · rw [if_pos (by omega)] at hK
    exact hK w2 ow2 h2 (F.trans f2)
  · rw [if_neg (by omega)] at hK
    have hsm := Dv.write_sm (i := i) (b := bs) hs
    exact sync_c h2 (by have := hsm.q; omega) hsm.k fun w3 ow3 h3 f3 => ⟨_, rfl, hK w3 ow3 h3 ((F.trans f2).trans f3)⟩

/-! ### A slot is read -/
/-- What a slot says. -/
structure SlV where
  st : Nat
  s : Sh
  pt : Int
deriving DecidableEq
def SlV.z : SlV := ⟨0, ⟨0, 0, 0⟩, 0⟩
def SlV.v (x : SlV) : Value := .agg #[.int .u64 (x.st : Int), .int .i64 x.s.pg, .int .i64 x.s.lg, .int .i64 x.s.fr, .int .i64 x.pt]
def gt (bs : List UInt8) (i n : Nat) : Nat := leN ((bs.drop i).take n)
def slotOf (bs : List UInt8) : SlV := ⟨gt bs 1 8, ⟨(gt bs 9 1 : Int), (gt bs 10 2 : Int), (gt bs 12 1 : Int)⟩, (gt bs 13 4 : Int)⟩
def SlV.right (x : SlV) (i n : Int) : Prop := x.s.may ∧ x.s.need = n ∧ 1 ≤ x.st ∧ x.st ≤ 4611686018427387904 ∧ ((x.st % 2 : Nat) : Int) = i ∧ x.pt ≤ 2147483647
instance (x : SlV) (i n : Int) : Decidable (x.right i n) := by unfold SlV.right; exact inferInstance
/-- The right slot of a sector's bytes. -/
def rdSlot (bs : List UInt8) (i n : Int) : SlV × Bool :=
  if (slotOf bs).right i n then (slotOf bs, decide (slotB (slotOf bs).st (slotOf bs).s (slotOf bs).pt = bs)) else (SlV.z, false)
theorem gt_lt (bs : List UInt8) (i n : Nat) : gt bs i n < 256 ^ n := by
  have h := leN_lt ((bs.drop i).take n)
  have : ((bs.drop i).take n).length ≤ n := by rw [List.length_take]; omega
  exact Nat.lt_of_lt_of_le h (Nat.pow_le_pow_right (by omega) this)
theorem number_c {w : World} {a : Option Addr} {c l i n : Nat} {bs : List UInt8} {R : Ending → World → Prop} (hr : Rd w a (bvs bs)) (hl : bs.length = l) (hl2 : l ≤ 100000) (hi : i + n ≤ l) (h1 : 1 ≤ n) (h4 : n ≤ 4) (h : R (.returned (.int .i64 (gt bs i n : Int))) w) :
    GoC Try.prog F_master_number #[.slice a l c, .int .i64 (i : Int), .int .i64 (n : Int)] w R := by
  subst hl
  refine S_master_number ?_
  unfold W_master_number
  have e : getR bs (i : Int) (n : Int) = (gt bs i n, 0) := by
    have hfit : fits bs.length (i : Int) (n : Int) := by unfold fits; omega
    unfold getR
    rw [if_pos hfit, Int.toNat_natCast, Int.toNat_natCast]
    rfl
  refine get_c hr (by omega) ?_
  rw [e]
  have hlt := gt_lt bs i n
  have h4' : 256 ^ n ≤ 256 ^ 4 := Nat.pow_le_pow_right (by omega) h4
  refine ⟨_, _, rfl, ?_⟩
  rw [wrap_i64 (x := ((gt bs i n : Nat) : Int)) (by omega) (by omega)]
  exact h
theorem get8_c {w : World} {a : Option Addr} {c l : Nat} {bs : List UInt8} {R : Ending → World → Prop} (hr : Rd w a (bvs bs)) (hl : bs.length = l) (hl2 : l ≤ 100000) (hi : 9 ≤ l) (h : R (.returned (.tuple #[.int .u64 ((slotOf bs).st : Int), .int .i64 0])) w) :
    GoC Try.prog F_field_Get #[.slice a l c, .int .i64 1, .int .i64 8] w R := by
  subst hl
  have e : getR bs 1 8 = (gt bs 1 8, 0) := by
    have hfit : fits bs.length (1 : Int) (8 : Int) := by unfold fits; omega
    unfold getR
    rw [if_pos hfit]
    rfl
  refine get_c hr (by omega) ?_
  rw [e]
  exact h
theorem slot_rd {w : World} {b : Nat} {x : SlV} {T : TypeId} (h : Blk w b #[.int .u64 (x.st : Int), .int .i64 x.s.pg, .int .i64 x.s.lg, .int .i64 x.s.fr, .int .i64 x.pt] T) {K : Int → Int → Int → Int → Int → Prop} (hk : K (x.st : Int) x.s.pg x.s.lg x.s.fr x.pt) :
    ∃ (n1 : Int) (n2 : Int) (n3 : Int) (n4 : Int) (n5 : Int), (w.cell? ⟨b, 0, none⟩ = some (.int .u64 n1) ∧ w.cell? (Addr.add ⟨b, 0, none⟩ 1) = some (.int .i64 n2) ∧ w.cell? (Addr.add ⟨b, 0, none⟩ 2) = some (.int .i64 n3) ∧ w.cell? (Addr.add ⟨b, 0, none⟩ 3) = some (.int .i64 n4) ∧ w.cell? (Addr.add ⟨b, 0, none⟩ 4) = some (.int .i64 n5) ∧ True) ∧ K n1 n2 n3 n4 n5 :=
  ⟨_, _, _, _, _, ⟨h.at rfl rfl, h.at rfl rfl, h.at rfl rfl, h.at rfl rfl, h.at rfl rfl, trivial⟩, hk⟩
theorem slot_st {w : World} {b : Nat} {u0 u1 u2 u3 u4 : Value} {T : TypeId} (x : SlV) (h : Blk w b #[u0, u1, u2, u3, u4] T) {K : World → Prop} (hk : ∀ w', Blk w' b #[.int .u64 (x.st : Int), .int .i64 x.s.pg, .int .i64 x.s.lg, .int .i64 x.s.fr, .int .i64 x.pt] T → Kp (fun j => j = b) w w' → K w') :
    StF w ⟨b, 0, none⟩ (.int .u64 (x.st : Int)) fun w1 => StF w1 (Addr.add ⟨b, 0, none⟩ 1) (.int .i64 x.s.pg) fun w2 => StF w2 (Addr.add ⟨b, 0, none⟩ 2) (.int .i64 x.s.lg) fun w3 => StF w3 (Addr.add ⟨b, 0, none⟩ 3) (.int .i64 x.s.fr) fun w4 => StF w4 (Addr.add ⟨b, 0, none⟩ 4) (.int .i64 x.pt) fun w5 => K w5 :=
  StF.at rfl h (by simp) fun w1 h1 k1 _ => StF.at rfl h1 (by simp) fun w2 h2 k2 _ => StF.at rfl h2 (by simp) fun w3 h3 k3 _ => StF.at rfl h3 (by simp) fun w4 h4 k4 _ => StF.at rfl h4 (by simp) fun w5 h5 k5 _ => hk w5 h5 ((((k1.trans0 k2).trans0 k3).trans0 k4).trans0 k5)
theorem slot_al {w : World} (x : SlV) {K : Nat → World → Prop} (hk : ∀ b w', Blk w' b #[.int .u64 (x.st : Int), .int .i64 x.s.pg, .int .i64 x.s.lg, .int .i64 x.s.fr, .int .i64 x.pt] T_master_slot → Kp no w w' → w.heap.size ≤ b → K b w') :
    AlF w (.cells #[.int .u64 0, .int .i64 0, .int .i64 0, .int .i64 0, .int .i64 0] T_master_slot) fun b w0 => StF w0 ⟨b, 0, none⟩ (.int .u64 (x.st : Int)) fun w1 => StF w1 (Addr.add ⟨b, 0, none⟩ 1) (.int .i64 x.s.pg) fun w2 => StF w2 (Addr.add ⟨b, 0, none⟩ 2) (.int .i64 x.s.lg) fun w3 => StF w3 (Addr.add ⟨b, 0, none⟩ 3) (.int .i64 x.s.fr) fun w4 => StF w4 (Addr.add ⟨b, 0, none⟩ 4) (.int .i64 x.pt) fun w5 => K b w5 :=
  AlF.intro fun b w0 hbe hb k0 _ => slot_st x hb fun w' hb' k' => hk b w' hb' (kp_blk k0 (by omega) k') (by omega)

set_option maxRecDepth 100000 in
set_option maxHeartbeats 2000000 in
theorem mread_c {w : World} {ow : Nat → Nat} {t b : Nat} {v : Dv} {i : Int} {R : Ending → World → Prop} (h : DX w ow t b v) (hs : v.Sm 1000000) (hd : v.down = false) (hi : v.there i)
    (hK : ∀ w', Kp no w w' → R (.returned (.tuple #[(rdSlot (v.read i).1 i (v.n : Int)).1.v, .bool (rdSlot (v.read i).1 i (v.n : Int)).2])) w') : GoC Try.prog F_master_read #[.pointer (some ⟨b, 0, none⟩), .int .i64 i] w R := by
  refine S_master_read ?_
  unfold W_master_read
  refine AlF.intro fun b1 w1 hb1e hb1 k1 _ => ?_
  have h1 := h.kp0 k1
  have hok := h.ok
  have hv : (v.read i).2 = 0 := by unfold Dv.read; rw [hd, if_neg (by simp), if_neg (by simpa using hi)]
  have hlen : (v.read i).1.length = 512 := by
    unfold Dv.read
    rw [hd, if_neg (by simp), if_neg (by simpa using hi)]
    have hq := hok.q
    have h0 : (v.sect i.toNat).length = 512 := by
      unfold Dv.sect
      obtain ⟨i0, i1⟩ := hi
      have := hok.len
      rw [List.length_take, List.length_drop, this]
      omega
    dsimp only
    generalize v.sect i.toNat = x at *
    generalize v.q = q at *
    clear hK
    induction q generalizing x with
    | nil => exact h0
    | cons p r ih =>
      rw [readL]
      refine ih _ ?_ (fun p hp => hq p (by simp [hp]))
      split
      · exact (hq p (by simp)).2.2
      · exact h0
  refine readX_c h1 (by have := hs.q; omega) fun a2 l2 c2 w2 k2 s2 hf2 => ⟨_, _, _, _, rfl, ?_⟩
  rw [hv]
  generalize (v.read i).1 = bs at *
  have e2 : bs.length = l2 := by have := s2.1; rw [bvs_len] at this; omega
  have hl2 : l2 = 512 := by omega
  refine cond_f rfl ?_
  refine cond_ne (fun hne => by omega) (fun _ => ?_)
  have b1w2 := k2.blk hb1 id
  have r2 := s2.rd
  refine get8_c r2 e2 (by omega) (by omega) ⟨_, _, rfl, ?_⟩
  refine number_c (i := 9) (n := 1) r2 e2 (by omega) (by omega) (by omega) (by omega) ⟨_, rfl, ?_⟩
  refine number_c (i := 10) (n := 2) r2 e2 (by omega) (by omega) (by omega) (by omega) ⟨_, rfl, ?_⟩
  refine number_c (i := 12) (n := 1) r2 e2 (by omega) (by omega) (by omega) (by omega) ⟨_, rfl, ?_⟩
  refine number_c (i := 13) (n := 4) r2 e2 (by omega) (by omega) (by omega) (by omega) ⟨_, rfl, ?_⟩
  have g9 := gt_lt bs 9 1
  have g10 := gt_lt bs 10 2
  have g12 := gt_lt bs 12 1
  have g13 := gt_lt bs 13 4
  have g1 := gt_lt bs 1 8
  unfold rdSlot at hK
  have hx : slotOf bs = ⟨gt bs 1 8, ⟨(gt bs 9 1 : Int), (gt bs 10 2 : Int), (gt bs 12 1 : Int)⟩, (gt bs 13 4 : Int)⟩ := rfl
  refine slot_al (slotOf bs) fun b2 w3 hb2 k3 hge => ?_
  have xst : (slotOf bs).st < 18446744073709551616 := by rw [hx]; dsimp only; omega
  have xpt : 0 ≤ (slotOf bs).pt := by rw [hx]; dsimp only; omega
  generalize slotOf bs = x at *
  clear hx
  have b1w3 := k3.blk b1w2 id
  have k03 : Kp no w w3 := (k1.trans0 k2).trans0 k3
  have out : ∀ w4, Kp no w w4 → Blk w4 b1 #[.int .u64 0, .int .i64 0, .int .i64 0, .int .i64 0, .int .i64 0] T_master_slot → ¬ x.right i (v.n : Int) →
      StF w4 ⟨b1, 0, none⟩ (.int .u64 0) fun w5 => StF w5 (Addr.add ⟨b1, 0, none⟩ 1) (.int .i64 0) fun w6 => StF w6 (Addr.add ⟨b1, 0, none⟩ 2) (.int .i64 0) fun w7 => StF w7 (Addr.add ⟨b1, 0, none⟩ 3) (.int .i64 0) fun w8 => StF w8 (Addr.add ⟨b1, 0, none⟩ 4) (.int .i64 0) fun w9 =>
        ∃ (n1 : Int) (n2 : Int) (n3 : Int) (n4 : Int) (n5 : Int), (w9.cell? ⟨b1, 0, none⟩ = some (.int .u64 n1) ∧ w9.cell? (Addr.add ⟨b1, 0, none⟩ 1) = some (.int .i64 n2) ∧ w9.cell? (Addr.add ⟨b1, 0, none⟩ 2) = some (.int .i64 n3) ∧ w9.cell? (Addr.add ⟨b1, 0, none⟩ 3) = some (.int .i64 n4) ∧ w9.cell? (Addr.add ⟨b1, 0, none⟩ 4) = some (.int .i64 n5) ∧ True) ∧
          R (.returned (.tuple #[.agg #[.int .u64 n1, .int .i64 n2, .int .i64 n3, .int .i64 n4, .int .i64 n5], .bool false])) w9 := fun w4 k4 hb4 hn =>
    slot_st SlV.z hb4 fun w9 hb9 k9 => slot_rd (x := SlV.z) hb9 (by
      have := hK w9 (kp_blk k4 (by omega) k9)
      rw [if_neg hn] at this
      exact this)
  refine ⟨_, _, _, ⟨hb2.at rfl rfl, hb2.at rfl rfl, hb2.at rfl rfl, trivial⟩, need_c (s := x.s) fun w4 k4 => ⟨_, _, rfl, ?_⟩⟩
  have k04 := k03.trans0 k4
  have b1w4 := k4.blk b1w3 id
  have b2w4 := k4.blk hb2 id
  unfold needR
  unfold SlV.right at out
  by_cases hm : x.s.may
  case neg =>
    rw [if_neg hm]
    exact cond_t rfl (out w4 k04 b1w4 fun hh => hm hh.1)
  rw [if_pos hm]
  refine cond_f rfl ?_
  refine size_c ((h1.kp0 ((k2.trans0 k3).trans0 k4))) ⟨_, rfl, ?_⟩
  refine cond_ne (fun hne => out w4 k04 b1w4 fun hh => hne hh.2.1) (fun heq => ?_)
  refine cond_d (fun h0 => out w4 k04 b1w4 fun hh => by omega) (fun h0 => ?_)
  refine cond_d (fun h0 => out w4 k04 b1w4 fun hh => by omega) (fun h62 => ⟨by decide, ?_⟩)
  obtain ⟨i0, i1⟩ := hi
  have hn := hok.n2
  have ew : IntKind.wrap .u64 i = i := wrap_u64 (by omega) (by omega)
  rw [ew]
  clear ew
  have et : Int.tmod (x.st : Int) 2 = ((x.st % 2 : Nat) : Int) := rfl
  rw [et]
  refine cond_ne (fun hne => out w4 k04 b1w4 fun hh => hne hh.2.2.2.2.1) (fun hst => ⟨_, b2w4.at rfl rfl, ?_⟩)
  refine cond_d (fun hp => out w4 k04 b1w4 fun hh => by omega) (fun hp => ?_)
  have hright : x.right i (v.n : Int) := by
    unfold SlV.right
    exact ⟨hm, heq, by omega, by omega, hst, by omega⟩
  have hK := fun w' k => hK w' k
  rw [if_pos hright] at hK
  have k24 := k3.trans0 k4
  have r4 := r2.kp0 k24
  have kd : Kp no w4 w4.drew := Kp.drew w4 1
  have hne : bvs bs ≠ [] := fun hh => by
    have := congrArg List.length hh
    rw [bvs_len, List.length_nil] at this
    omega
  obtain ⟨ba, oa, ha, hlt, hca⟩ := r4.addr hne
  have s24 := k24.size
  have hbl : ba ≠ b1 := fun hh => by
    have := hf2 ba ⟨_, ha, rfl⟩
    have := hb1.lt
    omega
  have S9 : ∀ w', Kp (fun j => j = b1) w4 w' → Blk w' b2 #[.int .u64 (x.st : Int), .int .i64 x.s.pg, .int .i64 x.s.lg, .int .i64 x.s.fr, .int .i64 x.pt] T_master_slot := fun w' k => k.blk b2w4 (fun hh => by
    have hh : b2 = b1 := hh
    have h1 := hb1.lt
    have h2 := k2.size
    omega)
  refine ⟨fun w' => Kp (fun j => j = b1) w4 w', kd.of_no, _, _, _, _, _, fun w' k => ⟨(S9 w' k).at rfl rfl, (S9 w' k).at rfl rfl, (S9 w' k).at rfl rfl, (S9 w' k).at rfl rfl, (S9 w' k).at rfl rfl, trivial⟩, _, _, _, _, _, fun w' k => ⟨(S9 w' k).at rfl rfl, (S9 w' k).at rfl rfl, (S9 w' k).at rfl rfl, (S9 w' k).at rfl rfl, (S9 w' k).at rfl rfl, trivial⟩, by omega, NilF.intro ha ⟨bvs bs, by rw [bvs_len]; omega, fun w' k => ?_, ?_⟩⟩
  · refine cells_are _ 0 fun j u hj => ?_
    rw [Nat.zero_add, add_at]
    exact k.cell (hca j u hj) hbl
  refine sbytes_c (s := x.s) (pt := x.pt) xst hm ⟨xpt, by omega⟩ fun w5 k5 => ⟨bvs (slotB x.st x.s x.pt), by rw [bvs_len, slotB_len], rfl, (kd.trans0 k5).of_no, ?_⟩
  have k45 := kd.trans0 k5
  refine ⟨slotB x.st x.s x.pt, bs, rfl, rfl, slotB_len _ _ _, by omega, ?_⟩
  refine slot_st x (k45.blk b1w4 id) fun w6 hb6 k6 => ⟨k45.of_no.trans0 k6, slot_rd (x := x) hb6 ?_⟩
  exact hK w6 (kp_blk (k04.trans0 k45) (by omega) k6)
end Go.Proofs.Ytaehmogilimmfaa
