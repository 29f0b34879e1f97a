/- Texts for LogExact, as one. Conditions: none. -/
import Derived.Test.YtkfdkcclojepnaaGreatX3
import Derived.Test.YtkfdkcclojepnaaGreatX2
import Derived.OpenShut
set_option linter.unusedVariables false
set_option linter.unusedSimpArgs false
namespace Go.Proofs.YtkfdkcclojepnaaGreat
open Go Go.RowKit
theorem Dv.write_40 {v : Dv} {i : Int} {b : List UInt8} (hi : v.there i) (hb : b.length = 512) : (v.write i b).1 ≠ 0 → (v.write i b).1 = 40 := by
  unfold Dv.write
  repeat' split
  all_goals first | (intro _; rfl) | (intro h; exact absurd rfl h) | contradiction
theorem Dv.write_nn {v : Dv} {i : Int} {b : List UInt8} (h : (v.write i b).1 = 0) : (v.write i b).2.n = v.n := by
  unfold Dv.write at h ⊢
  repeat' split
  all_goals first | rfl | (simp_all; done)
theorem Dv.sync_40 {v : Dv} : v.sync.1 ≠ 0 → v.sync.1 = 40 := by
  unfold Dv.sync
  repeat' split
  all_goals first | (intro _; rfl) | (intro h; exact absurd rfl h)
theorem putL_40 : ∀ (l : List (List UInt8)) (v : Dv) (i : Int), 0 ≤ i → i + l.length ≤ (v.n : Int) → (∀ b ∈ l, b.length = 512) → (putL v i l).1 ≠ 0 → (putL v i l).1 = 40
  | [], v, i, _, _, _ => v.sync_40
  | b :: r, v, i, h0, h1, hb => by
    simp only [List.length_cons] at h1
    have hw := Dv.write_40 (v := v) (i := i) (b := b) ⟨h0, by omega⟩ (hb b (by simp))
    rw [putL]
    split
    · exact hw
    · rename_i hz
      have hn := Dv.write_nn (v := v) (i := i) (b := b) (by omega)
      exact putL_40 r _ _ (by omega) (by rw [hn]; omega) fun x hx => hb x (by simp [hx])
theorem secL_512 : ∀ (l : List RV) (k : Nat), (∀ r ∈ l, (encB r).length ≤ 502) → ∀ b ∈ secL k l, b.length = 512
  | [], k, _, b, hb => by simp [secL] at hb
  | r :: l, k, h, b, hb => by
    rw [secL] at hb
    rcases List.mem_cons.1 hb with rfl | hb
    · exact secB_len (by have := h r (by simp); omega)
    · exact secL_512 l (k + 1) (fun x hx => h x (by simp [hx])) b hb
theorem frcP_40 {v : Dv} {g : Lg} {n : Nat} (hg : g.Ok) (hr : g.first + g.count ≤ v.n) (hn : n ≤ g.recs.length) : (frcP v g n).1 ≠ 0 → (frcP v g n).1 = 40 := by
  have h1 := hg.f
  have h2 := hg.n
  unfold frcP frcL
  refine putL_40 _ _ _ (by omega) ?_ (secL_512 _ _ fun r hr' => ?_)
  · rw [secL_len, List.length_take, List.length_drop]
    omega
  · have := List.mem_of_mem_drop (List.mem_of_mem_take hr')
    obtain ⟨k, hk, rfl⟩ := List.mem_iff_getElem.1 this
    obtain ⟨a, b, c⟩ := hg.r k hk
    exact (enc_len a b).2
theorem flt_st {w : World} {b : Nat} {z0 : ByteArray} {a0 e0 : Int} (hb : Blk w b #[.string z0, .int .i64 a0, .int .i64 e0] T_quotaref06_Fault) {z : ByteArray} {a e : Int} (K : Value → World → Prop) (h : ∀ w', Kp (fun k => k = b) w w' → Blk w' b #[.string z, .int .i64 a, .int .i64 e] T_quotaref06_Fault → K (.agg #[.string z, .int .i64 a, .int .i64 e]) w') :
    StF w ⟨b, 0, none⟩ (.string z) fun w2 => (StF w2 (Addr.add ⟨b, 0, none⟩ 1) (.int .i64 a) fun w3 => (StF w3 (Addr.add ⟨b, 0, none⟩ 2) (.int .i64 e) fun w4 => (∃ (z1 : ByteArray) (n3 : Int) (n4 : Int), (w4.cell? ⟨b, 0, none⟩ = some (.string z1) ∧ w4.cell? (Addr.add ⟨b, 0, none⟩ 1) = some (.int .i64 n3) ∧ w4.cell? (Addr.add ⟨b, 0, none⟩ 2) = some (.int .i64 n4) ∧ True) ∧ K (.agg #[.string z1, .int .i64 n3, .int .i64 n4]) w4))) :=
  StF.at rfl hb (Nat.le_of_ble_eq_true rfl) fun w2 hb2 k2 _ => StF.at (add1 _ _) hb2 (Nat.le_of_ble_eq_true rfl) fun w3 hb3 k3 _ => StF.at (add1 _ _) hb3 (Nat.le_of_ble_eq_true rfl) fun w4 hb4 k4 _ =>
    ⟨_, _, _, ⟨hb4.at rfl rfl, hb4.at (add1 _ _) rfl, hb4.at (add1 _ _) rfl, trivial⟩, h w4 ((k2.trans0 k3).trans0 k4) hb4⟩
theorem rzeros_c {w : World} {a : Option Addr} {l c : Nat} {bs : List UInt8} {R : Po} (hr : Rd w a (bvs bs)) (hl : bs.length = l) (hb : l ≤ 100000) (hK : R (.returned (.bool (zerosB bs))) w) : GoC Tryz.prog F_ref06_zeros #[.slice a l c] w R := by
  subst hl
  refine S_ref06_zeros ?_
  unfold W_ref06_zeros
  refine loopN (fun s w' => w' = w ∧ ∃ k : Nat, k ≤ bs.length ∧ s.1 = (k : Int) ∧ zerosB bs = zerosB (bs.drop k)) (fun s _ => bs.length - s.1.toNat) ⟨rfl, 0, Nat.zero_le _, rfl, rfl⟩ ?_
  rintro ⟨k0, u⟩ w1 ⟨hw, k, hk, hk0, e⟩ _
  dsimp only at hk0 ⊢
  subst hw hk0
  refine cond_d (fun hlt => ?_) (fun hge => ?_)
  · have hkl : k < bs.length := by omega
    have hkw : IntKind.wrap .i64 ((k : Int) + 1) = ((k + 1 : Nat) : Int) := by rw [wrap_i64 (by omega) (by omega)]; omega
    rw [List.drop_eq_getElem_cons hkl] at e
    refine rd_u8 hr (i := k) hkl rfl (by omega) fun d hc => ⟨_, hc, cond_ne (fun h1 => ?_) (fun h1 => ?_)⟩
    · have : zerosB bs = false := by
        rw [e]
        have hne : (bs[k]).toNat ≠ 0 := by omega
        unfold zerosB
        rw [List.any_cons, decide_eq_true hne, Bool.true_or, Bool.not_true]
      rw [this] at hK
      exact hK
    · rw [hkw]
      refine ⟨⟨rfl, k + 1, by omega, rfl, ?_⟩, by simp only [Int.toNat_natCast]; omega⟩
      rw [e]
      have hz : ¬ (bs[k]).toNat ≠ 0 := by omega
      unfold zerosB
      rw [List.any_cons, decide_eq_false hz, Bool.false_or]
  · have hke : k = bs.length := by omega
    rw [hke, List.drop_length] at e
    rw [e] at hK
    exact hK
section
variable {w : World} {ow : Nat → Nat} {t mb rb : Nat} {g : Lg} {R : Po}
set_option maxHeartbeats 4000000 in
theorem rforce_c {v : Dv} {n : Int} (h : MG w ow t mb rb g) (hd : RX w ow t rb v) (hs : v.Sm 800000) (hr : g.first + g.count ≤ v.n) (hn : i64 n)
    (hK : ∀ z w' ow', RX w' ow' t rb (frcR v g n).2.1 → MG w' ow' t mb rb (frcR v g n).2.2 → Fro (Tf t) w ow w' ow' → ((frcR v g n).1 ≠ 0 → z = zFo) → R (.returned (.agg #[.string z, .int .i64 0, .int .i64 ((frcR v g n).1 : Int)])) w') :
    GoC Tryz.prog F_ref06_Log_Force #[.pointer (some ⟨mb, 0, none⟩), .int .i64 n] w R := by
  obtain ⟨H, h⟩ := h
  refine S_ref06_Log_Force ?_
  unfold W_ref06_Log_Force
  have hok := h.ok
  have okf := hok.f
  have okn := hok.n
  have okc := hok.c
  have okp := hok.p
  refine AlF.intro fun b1 w1 hb1e hb1 k1 _ => ?_
  have hge : w.heap.size ≤ b1 := by omega
  have f1 : Fro (fun _ => True) w ow w1 (ext ow w.heap.size (t + 26)) := Fro.of_kp0 (t + 26) k1
  have t1 : ext ow w.heap.size (t + 26) b1 = t + 26 := ext_new (by omega)
  have X := h.fr f1 trivial trivial trivial
  have D := hd.fr f1 trivial trivial trivial trivial
  have F : Fro (Tf t) w ow w1 (ext ow w.heap.size (t + 26)) := f1.mono fun _ _ => trivial
  generalize ext ow w.heap.size (t + 26) = ow1 at *
  have quick : ∀ (e : Nat) (z : ByteArray), frcR v g n = (e, v, g) → (e ≠ 0 → z = zFo) → ∀ w4, Kp (fun k => k = b1) w1 w4 → R (.returned (.agg #[.string z, .int .i64 0, .int .i64 (e : Int)])) w4 := fun e z hr hz w4 k4 => by
    have f4 : Fro (fun u => u ≠ t + 26) w1 ow1 w4 ow1 := Fro.of_kp' k4 fun j _ hj hne => hne (by rw [hj]; exact t1)
    have hk := hK z w4 ow1
    rw [hr] at hk
    exact hk (D.fr f4 (by omega) (by omega) (by omega) (by omega)) ⟨H, X.fr f4 (by omega) (by omega) (by omega)⟩ ⟨(kp_blk k1 hge k4).of_no, F.ag⟩ hz
  refine NilF.intro rfl ⟨_, X.blk.at (add2 _ _ _) rfl, cond_ne (fun he => ?_) (fun he => ?_)⟩
  · exact flt_st hb1 (fun x w' => R (.returned x) w') fun w4 k4 _ => quick 40 zFo (by unfold frcR; rw [if_pos (by omega)]) (fun _ => rfl) w4 k4
  refine cond_d (fun h0 => ?_) (fun h0 => NilF.intro rfl ⟨_, _, _, X.blk.at (add1 _ _) rfl, cond_d (fun h1 => ?_) (fun h1 => NilF.intro rfl ⟨_, X.blk.at (add1 _ _) rfl, cond_d (fun h2 => ?_) (fun h2 => ?_)⟩)⟩)
  · exact flt_st hb1 (fun x w' => R (.returned x) w') fun w4 k4 _ => quick 4 zFo (by unfold frcR; rw [if_neg (by omega), if_pos h0]) (fun _ => rfl) w4 k4
  · exact flt_st hb1 (fun x w' => R (.returned x) w') fun w4 k4 _ => quick 4 zFo (by unfold frcR; rw [if_neg (by omega), if_neg h0, if_pos h1]) (fun _ => rfl) w4 k4
  · exact flt_st hb1 (fun x w' => R (.returned x) w') fun w4 k4 _ => quick 0 ByteArray.empty (by unfold frcR; rw [if_neg (by omega), if_neg h0, if_neg h1, if_pos h2]) (fun hh => absurd rfl hh) w4 k4
  -- records are written
  obtain ⟨m, rfl⟩ := Int.eq_ofNat_of_zero_le (show 0 ≤ n by omega)
  have hrn : frcR v g (m : Int) = if (frcP v g m).1 ≠ 0 then ((frcP v g m).1, (frcP v g m).2, { g with err := (frcP v g m).1 }) else (0, (frcP v g m).2, { g with forced := m }) := by
    unfold frcR
    rw [if_neg (by omega), if_neg h0, if_neg h1, if_neg h2, Int.toNat_natCast]
  have p40 := frcP_40 (v := v) (n := m) hok hr (by omega)
  have Ltot : ((g.recs.drop g.forced).take (m - g.forced)).length = m - g.forced := by rw [List.length_take, List.length_drop]; omega
  have wi : ∀ x : Nat, x ≤ 100000 → IntKind.wrap .i64 ((x : Int) + 1) = ((x + 1 : Nat) : Int) := fun x hx => by rw [wrap_i64 (by omega) (by omega)]; omega
  -- a fault of the disk's
  have fail : ∀ w3 ow3 (v3 : Dv), RX w3 ow3 t rb v3 → MX w3 ow3 t mb rb H g → Blk w3 b1 #[.string ByteArray.empty, .int .i64 0, .int .i64 0] T_quotaref06_Fault → ow3 b1 = t + 26 → Fro (Td t) w1 ow1 w3 ow3 → (frcP v g m).2 = v3 → (frcP v g m).1 ≠ 0 →
      NilF (some ⟨mb, 0, none⟩) fun d9 => (StF w3 (Addr.add d9 5) (.string (ByteArray.mk #[70, 111, 114, 99, 101])) fun w18 => (StF w18 (Addr.add (Addr.add d9 5) 1) (.int .i64 (0 : Int)) fun w19 => (StF w19 (Addr.add (Addr.add d9 5) 2) (.int .i64 (40 : Int)) fun w20 => (NilF (some ⟨mb, 0, none⟩) fun d10 => (∃ (z5 : ByteArray) (n31 : Int) (n32 : Int), (w20.cell? (Addr.add d10 5) = some (.string z5) ∧ w20.cell? (Addr.add (Addr.add d10 5) 1) = some (.int .i64 n31) ∧ w20.cell? (Addr.add (Addr.add d10 5) 2) = some (.int .i64 n32) ∧ True) ∧ (StF w20 ⟨b1, 0, none⟩ (.string z5) fun w21 => (StF w21 (Addr.add ⟨b1, 0, none⟩ 1) (.int .i64 n31) fun w22 => (StF w22 (Addr.add ⟨b1, 0, none⟩ 2) (.int .i64 n32) fun w23 => (∃ (z6 : ByteArray) (n33 : Int) (n34 : Int), (w23.cell? ⟨b1, 0, none⟩ = some (.string z6) ∧ w23.cell? (Addr.add ⟨b1, 0, none⟩ 1) = some (.int .i64 n33) ∧ w23.cell? (Addr.add ⟨b1, 0, none⟩ 2) = some (.int .i64 n34) ∧ True) ∧ (R (.returned (.agg #[(.string z6), (.int .i64 n33), (.int .i64 n34)])) w23)))))))))) := fun w3 ow3 v3 D3 X3 hb3 tb3 f3 e3 hne => by
    refine NilF.intro rfl (StF.at (add1 _ _) X3.blk (Nat.le_of_ble_eq_true rfl) fun w18 x18 k18 _ => StF.at (add2 _ _ _) x18 (Nat.le_of_ble_eq_true rfl) fun w19 x19 k19 _ => StF.at (add2 _ _ _) x19 (Nat.le_of_ble_eq_true rfl) fun w20 x20 k20 _ => NilF.intro rfl ?_)
    have k320 := (k18.trans0 k19).trans0 k20
    have f20 : Fro (fun u => u ≠ t + 20) w3 ow3 w20 ow3 := Fro.of_kp' k320 fun j _ hj hne => hne (by rw [hj]; exact X3.tb)
    obtain ⟨hb20, tb20⟩ := blk_fr hb3 tb3 f20 (by omega)
    refine ⟨_, _, _, ⟨x20.at (add1 _ _) rfl, x20.at (add2 _ _ _) rfl, x20.at (add2 _ _ _) rfl, trivial⟩, ?_⟩
    refine flt_st hb20 (fun x w' => R (.returned x) w') fun w4 k4 _ => ?_
    have f4 : Fro (fun u => u ≠ t + 26) w20 ow3 w4 ow3 := Fro.of_kp' k4 fun j _ hj hne => hne (by rw [hj]; exact tb20)
    have p := p40 hne
    have hk := hK zFo w4 ow3
    rw [hrn, if_pos hne, p, e3] at hk
    have tb' : ow3 mb = t + 20 := X3.tb
    have x20' : Blk w20 mb (mgc rb H { g with err := 40 }) T_quotaref06_Log := x20
    obtain ⟨x4, _⟩ := blk_fr x20' tb' f4 (by omega)
    have D4 := (D3.fr f20 (by omega) (by omega) (by omega) (by omega)).fr f4 (by omega) (by omega) (by omega) (by omega)
    refine hk D4 ⟨H, ⟨x4, tb', X3.ml, (X3.rs.fr f20 (by omega)).fr f4 (by omega), fun k h' h'' => ((X3.li k h' h'').fr f20 (by omega)).fr f4 (by omega), ⟨hok.f, hok.n, hok.c, hok.p, by show 40 ≤ 100; omega, hok.r⟩⟩⟩ ?_ (fun _ => rfl)
    have F3 := F.trans (f3.mono fun u hu => hu.1)
    have F20 := F3.trans (f20.mono fun u hu => hu.2)
    have sz := f4.kp.size
    exact ⟨F20.kp.trans k4 (fun _ _ h => h) fun j hj hh => by omega, F20.ag⟩
  refine NilF.intro rfl ⟨_, X.blk.at (add1 _ _) rfl, ?_⟩
  refine loopN (fun st w' => ∃ j : Nat, j ≤ m - g.forced ∧ st.1 = ((g.forced + j + 1 : Nat) : Int) ∧ ∃ v' ow', RX w' ow' t rb v' ∧ v'.Sm (800000 + j) ∧ MX w' ow' t mb rb H g ∧ Blk w' b1 #[.string ByteArray.empty, .int .i64 0, .int .i64 0] T_quotaref06_Fault ∧ ow' b1 = t + 26 ∧ Fro (Td t) w1 ow1 w' ow' ∧ putL v ((g.first + g.forced : Nat) : Int) (frcL g m) = putL v' ((g.first + g.forced + j : Nat) : Int) (secL (g.forced + j) (((g.recs.drop g.forced).take (m - g.forced)).drop j))) (fun st _ => m + 1 - st.1.toNat)
    ⟨0, by omega, by rw [wi _ (by omega)], v, ow1, D, hs, X, hb1, t1, ⟨Kp.refl _ _, fun _ _ _ => rfl⟩, by simp [frcL]⟩ ?_
  rintro ⟨j0, u⟩ w2 ⟨j, hj, hj0, v', ow2, D2, sm2, X2, hb2, t2, f2, e2⟩ _
  dsimp only at hj0 ⊢
  subst hj0
  refine cond_d (fun hlt => ?_) (fun hge => ?_)
  · have hjl : j < m - g.forced := by omega
    have hjr : g.forced + j < g.recs.length := by omega
    have m2 : IntKind.wrap .i64 (((g.forced + j + 1 : Nat) : Int) - 1) = ((g.forced + j : Nat) : Int) := by rw [wrap_i64 (by omega) (by omega)]; omega
    have m3 : IntKind.wrap .i64 (IntKind.wrap .i64 ((g.first : Int) + ((g.forced + j + 1 : Nat) : Int)) - 1) = ((g.first + g.forced + j : Nat) : Int) := by
      rw [wrap_i64 (x := (g.first : Int) + ((g.forced + j + 1 : Nat) : Int)) (by omega) (by omega), wrap_i64 (by omega) (by omega)]; omega
    refine NilF.intro rfl ⟨_, _, _, X2.blk.at (add1 _ _) rfl, ?_⟩
    rw [m2]
    obtain ⟨b, ha, mm, hm, hli, cj⟩ := X2.recAt hjr
    have c0 := MX.recAt0 cj
    refine ⟨by omega, by omega, _, ha, ?_⟩
    simp only [Int.toNat_natCast]
    refine ⟨_, _, _, _, _, _, _, _, _, _, _, _, _, _, _, _, _, _, _, _, _, ⟨c0 _ rfl, cj 1 _ rfl, cj 2 _ rfl, cj 3 _ rfl, cj 4 _ rfl, cj 5 _ rfl, cj 6 _ rfl, cj 7 _ rfl, cj 8 _ rfl, cj 9 _ rfl, cj 10 _ rfl, cj 11 _ rfl, cj 12 _ rfl, cj 13 _ rfl, cj 14 _ rfl, cj 15 _ rfl, cj 16 _ rfl, trivial⟩, ?_⟩
    obtain ⟨rc0, rc1, rc2⟩ := hok.r (g.forced + j) hjr
    obtain ⟨en1, en2⟩ := enc_len rc0 rc1
    refine rencode_c (r := g.recs[g.forced + j]) (m := mm) hli.li rc1 (fun hne => absurd rc0 hne) fun _ a c w3 k3 hs3 hf3 => ⟨_, _, _, _, rfl, ?_⟩
    have kd : Kp no w3 w3.drew := Kp.drew w3 1
    have X3d := X2.fr (Fro.kp0 (k3.trans0 kd)) trivial trivial trivial
    refine ⟨fun w' => Blk w' mb (mgc rb H g) T_quotaref06_Log, X3d.blk, NilF.intro rfl ⟨_, fun w' hw => hw.at rfl rfl, NilF.intro rfl ⟨_, fun w' hw => hw.at (add1 _ _) rfl, ?_⟩⟩⟩
    rw [m3]
    refine rsector_c (n := g.forced + j + 1) (hs3.rd.kp0 kd) rfl (by omega) (sl_some' hs3) (by omega) fun b5 w4 hb8 k4 hge4 => ⟨_, _, _, rfl, ?_⟩
    have k24 := (k3.trans0 kd).trans0 k4
    have f4 : Fro (fun _ => True) w2 ow2 w4 (ext ow2 w2.heap.size (t + 26)) := Fro.of_kp0 (t + 26) k24
    have tb : ext ow2 w2.heap.size (t + 26) b5 = t + 26 := ext_new (by have := (k3.trans0 kd).size; omega)
    have D4 := D2.fr f4 trivial trivial trivial trivial
    have X4 := X2.fr f4 trivial trivial trivial
    obtain ⟨hb4, t4⟩ := blk_fr hb2 t2 f4 trivial
    have F4 := f2.trans (f4.mono fun _ _ => trivial)
    generalize ext ow2 w2.heap.size (t + 26) = ow4 at *
    have sl : (secB (g.forced + j + 1) (encB g.recs[g.forced + j])).length = 512 := secB_len (by omega)
    have hB : Bs w4 ow4 t (some ⟨b5, 0, none⟩) (secB (g.forced + j + 1) (encB g.recs[g.forced + j])) := hb8.bs tb (Td_of (by omega)) (by omega)
    refine ⟨X4.blk, ?_⟩
    refine rwrite_c D4 hB sl (by have := sm2.q; omega) sm2.k fun w5 ow5 D5 f5 => ⟨_, rfl, ?_⟩
    have X5 := X4.fr f5 (Td_of (by omega)) (Td_of (by omega)) (Td_of (by omega))
    obtain ⟨hb5, t5⟩ := blk_fr hb4 t4 f5 (Td_of (by omega))
    have F5 := F4.trans f5
    refine ⟨X5.blk, ?_⟩
    have step : secL (g.forced + j) (((g.recs.drop g.forced).take (m - g.forced)).drop j) = secB (g.forced + j + 1) (encB g.recs[g.forced + j]) :: secL (g.forced + j + 1) (((g.recs.drop g.forced).take (m - g.forced)).drop (j + 1)) := by
      have hjj : j < ((g.recs.drop g.forced).take (m - g.forced)).length := by rw [Ltot]; exact hjl
      rw [List.drop_eq_getElem_cons hjj, secL]
      congr 3
      rw [List.getElem_take, List.getElem_drop]
    rw [step, putL] at e2
    refine cond_ne (fun hne => ?_) (fun hz => ?_)
    · rw [if_pos (by omega)] at e2
      exact fail w5 ow5 _ D5 X5 hb5 t5 F5 (by unfold frcP; rw [e2]) (by unfold frcP; rw [e2]; omega)
    · rw [if_neg (by omega)] at e2
      refine ⟨⟨j + 1, by omega, by rw [wi _ (by omega)]; rfl, _, ow5, D5, (Dv.write_sm sm2).mono (by omega), X5, hb5, t5, F5, ?_⟩, ?_⟩
      · rw [e2]
        congr 1
      · show m + 1 - (IntKind.wrap .i64 (((g.forced + j + 1 : Nat) : Int) + 1)).toNat < m + 1 - (((g.forced + j + 1 : Nat) : Int)).toNat
        rw [wi _ (by omega)]
        simp only [Int.toNat_natCast]
        omega
  · have hje : j = m - g.forced := by omega
    have en : ((g.recs.drop g.forced).take (m - g.forced)).drop j = [] := List.drop_eq_nil_of_le (by rw [Ltot]; omega)
    rw [en, secL, putL] at e2
    refine NilF.intro rfl ⟨_, X2.blk.at rfl rfl, ?_⟩
    refine rsync_c D2 (by have := sm2.q; omega) sm2.k fun w3 ow3 D3 f3 => ⟨_, rfl, ?_⟩
    have X3 := X2.fr f3 (Td_of (by omega)) (Td_of (by omega)) (Td_of (by omega))
    obtain ⟨hb3, t3⟩ := blk_fr hb2 t2 f3 (Td_of (by omega))
    have F3 := f2.trans f3
    refine cond_ne (fun hne => ?_) (fun hz => ?_)
    · exact fail w3 ow3 _ D3 X3 hb3 t3 F3 (by unfold frcP; rw [e2]) (by unfold frcP; rw [e2]; omega)
    refine NilF.intro rfl (StF.at (add1 _ _) X3.blk (Nat.le_of_ble_eq_true rfl) fun w4 x4 k4 _ => ?_)
    have f4 : Fro (fun u => u ≠ t + 20) w3 ow3 w4 ow3 := Fro.of_kp' k4 fun j _ hj hne => hne (by rw [hj]; exact X3.tb)
    obtain ⟨hb4, t4⟩ := blk_fr hb3 t3 f4 (by omega)
    refine flt_st hb4 (fun x w' => R (.returned x) w') fun w5 k5 _ => ?_
    have f5 : Fro (fun u => u ≠ t + 26) w4 ow3 w5 ow3 := Fro.of_kp' k5 fun j _ hj hne => hne (by rw [hj]; exact t4)
    have hk := hK ByteArray.empty w5 ow3
    have e3 : frcP v g m = v'.sync := e2
    rw [hrn, if_neg (by rw [e3]; omega), e3] at hk
    have tb' : ow3 mb = t + 20 := X3.tb
    have x4' : Blk w4 mb (mgc rb H { g with forced := m }) T_quotaref06_Log := x4
    obtain ⟨x5, _⟩ := blk_fr x4' tb' f5 (by omega)
    have D5 := (D3.fr f4 (by omega) (by omega) (by omega) (by omega)).fr f5 (by omega) (by omega) (by omega) (by omega)
    refine hk D5 ⟨H, ⟨x5, tb', X3.ml, (X3.rs.fr f4 (by omega)).fr f5 (by omega), fun k h' h'' => ((X3.li k h' h'').fr f4 (by omega)).fr f5 (by omega), ⟨by show m ≤ g.recs.length; omega, hok.n, hok.c, hok.p, hok.e, hok.r⟩⟩⟩ ?_ (fun hh => absurd rfl hh)
    have FF := F.trans (F3.mono fun u hu => hu.1)
    have F4 := FF.trans (f4.mono fun u hu => hu.2)
    have sz := f5.kp.size
    exact ⟨F4.kp.trans k5 (fun _ _ h => h) fun j hj hh => by omega, F4.ag⟩
end
theorem readL_snoc {j i : Int} {b : List UInt8} (h : i ≠ j) : ∀ (q : List (Int × List UInt8)) (s : List UInt8), readL j (q ++ [(i, b)]) s = readL j q s
  | [], s => by
    show readL j [(i, b)] s = readL j [] s
    rw [readL, readL, readL, if_neg h]
  | p :: r, s => by
    show readL j (p :: (r ++ [(i, b)])) s = _
    rw [readL, readL, readL_snoc h r]
theorem Dv.write_read {v : Dv} {i j : Int} {b : List UInt8} (h : (v.write i b).1 = 0) (hij : i ≠ j) : (v.write i b).2.read j = v.read j ∧ (v.write i b).2.down = v.down := by
  unfold Dv.write at h ⊢
  split at h
  · cases h
  split at h
  · cases h
  split at h
  · cases h
  split at h
  · cases h
  rename_i h1 h2 h3 h4
  rw [if_neg h1, if_neg h2, if_neg h3, if_neg h4]
  refine ⟨?_, rfl⟩
  unfold Dv.read
  show (if v.down = true then _ else if ¬ v.there j then _ else (readL j (v.q ++ [(i, b)]) (v.sect j.toNat), 0)) = _
  rw [readL_snoc hij]
theorem wipeL_40 : ∀ (l : List (List UInt8)) (v : Dv) (i : Int) (q : Bool), 0 ≤ i → i + l.length ≤ (v.n : Int) → (wipeL v i l q).1 ≠ 0 → (wipeL v i l q).1 = 40
  | [], v, i, q, _, _ => by
    rw [wipeL]
    split
    · exact v.sync_40
    · intro h; exact absurd rfl h
  | s :: r, v, i, q, h0, h1 => by
    simp only [List.length_cons] at h1
    have hw := Dv.write_40 (v := v) (i := i) (b := zer512) ⟨h0, by omega⟩ (by rw [zer512, List.length_replicate])
    rw [wipeL]
    split
    · exact wipeL_40 r v _ q (by omega) (by omega)
    split
    · exact hw
    · rename_i hz
      have hn := Dv.write_nn (v := v) (i := i) (b := zer512) (by omega)
      exact wipeL_40 r _ _ true (by omega) (by rw [hn]; omega)
theorem bytsOf_get {S : List (List UInt8)} {k : Nat} (h : k < (bytsOf S).length) (h' : k < S.length) : (bytsOf S)[k] = bytB S[k] := by simp [bytsOf]
section
variable {w : World} {ow : Nat → Nat} {t rb : Nat} {R : Po}
set_option maxHeartbeats 4000000 in
theorem rwipe_c {w61 : World} {ow61 : Nat → Nat} {v1 : Dv} {b1 b2 fN cN : Nat} {H : Mh} {recs : List RV} {S : List (List UInt8)} {wp : Nat × Dv} (hm : MX w61 ow61 t b2 rb H ⟨fN, cN, recs, 0, 0⟩) (hd : RX w61 ow61 t rb v1) (hs : v1.Sm 600000) (hb : Blk w61 b1 #[.string ByteArray.empty, .int .i64 0, .int .i64 0] T_quotaref06_Fault) (tb : ow61 b1 = t + 26) (F : Fro (To t) w ow w61 ow61)
    (hge : w.heap.size ≤ b1) (Sl_ : S.length = cN) (Sg : ∀ k (h : k < S.length), S[k] = (v1.read ((fN + k : Nat) : Int)).1) (S512 : ∀ i, i < cN → (v1.read ((fN + i : Nat) : Int)).2 = 0 ∧ (v1.read ((fN + i : Nat) : Int)).1.length = 512) (hn : fN + cN ≤ v1.n) (n2 : v1.n ≤ 8192)
    (hwp : wp = wipeL v1 ((fN + recs.length : Nat) : Int) (S.drop recs.length) false)
    (hbad : wp.1 ≠ 0 → ∀ w' ow', RX w' ow' t rb wp.2 → Fro (To t) w ow w' ow' → R (.returned (.tuple #[.pointer none, .agg #[.string zOp, .int .i64 0, .int .i64 40]])) w')
    (hok : wp.1 = 0 → ∀ w' ow', RX w' ow' t rb wp.2 → Fro (To t) w ow w' ow' → MG w' ow' t b2 rb ⟨fN, cN, recs, recs.length, 0⟩ → R (.returned (.tuple #[.pointer (some ⟨b2, 0, none⟩), .agg #[.string ByteArray.empty, .int .i64 0, .int .i64 0]])) w') :
    (∃ (a12 : Option Addr) (l12 c12 : Nat), w61.cell? (Addr.add ⟨b2, 0, none⟩ 3) = some (.slice a12 l12 c12) ∧ (LoopF (S := Bool × Int × Unit) (false, (IntKind.wrap .i64 (((l12 : Nat) : Int) + (1 : Int))), ()) w61 fun s25 w62 Next25 => ∀ _J : Env, (cond (decide (s25.2.1 ≤ (cN : Int))) (CallF Tryz.prog F_ref03_Device_Read #[(.pointer (some ⟨rb, 0, none⟩)), (.int .i64 (IntKind.wrap .i64 ((IntKind.wrap .i64 ((fN : Int) + s25.2.1)) - (1 : Int))))] w62 (fun r11 w63 => ∃ (a13 : Option Addr) (l13 c13 : Nat) (n70 : Int), r11 = (.tuple #[(.slice a13 l13 c13), (.int .i64 n70)]) ∧ (CallF Tryz.prog F_ref06_zeros #[(.slice a13 l13 c13)] w63 (fun r12 w64 => ∃ (q3 : Bool), r12 = (.bool q3) ∧ (cond q3 (Next25 (s25.1, (IntKind.wrap .i64 (s25.2.1 + (1 : Int))), ()) w64) (RunF Tryz.prog (Instr.makeSlice T_s_uint8 (.int .i64 (512 : Int)) (.int .i64 (512 : Int))) w64 fun r13 w65 => ∃ (a14 : Option Addr) (l14 c14 : Nat), r13 = (.slice a14 l14 c14) ∧ (CallF Tryz.prog F_ref03_Device_Write #[(.pointer (some ⟨rb, 0, none⟩)), (.int .i64 (IntKind.wrap .i64 ((IntKind.wrap .i64 ((fN : Int) + s25.2.1)) - (1 : Int)))), (.slice a14 l14 c14)] w65 (fun r14 w66 => ∃ (n71 : Int), r14 = (.int .i64 n71) ∧ (cond (n71 != (0 : Int)) (StF w66 ⟨b1, 0, none⟩ (.string (ByteArray.mk #[79, 112, 101, 110])) fun w67 => (StF w67 (Addr.add ⟨b1, 0, none⟩ 1) (.int .i64 (0 : Int)) fun w68 => (StF w68 (Addr.add ⟨b1, 0, none⟩ 2) (.int .i64 (40 : Int)) fun w69 => (∃ (z9 : ByteArray) (n72 : Int) (n73 : Int), (w69.cell? ⟨b1, 0, none⟩ = some (.string z9) ∧ w69.cell? (Addr.add ⟨b1, 0, none⟩ 1) = some (.int .i64 n72) ∧ w69.cell? (Addr.add ⟨b1, 0, none⟩ 2) = some (.int .i64 n73) ∧ True) ∧ (R (.returned (.tuple #[(.pointer none), (.agg #[(.string z9), (.int .i64 n72), (.int .i64 n73)])])) w69))))) (Next25 (true, (IntKind.wrap .i64 (s25.2.1 + (1 : Int))), ()) w66))) (PanF R))))) (PanF R))) (PanF R)) (JoinF (S := Unit) (fun K34 => (cond s25.1 (CallF Tryz.prog F_ref03_Device_Sync #[(.pointer (some ⟨rb, 0, none⟩))] w62 (fun r15 w70 => ∃ (n74 : Int), r15 = (.int .i64 n74) ∧ (cond (n74 != (0 : Int)) (StF w70 ⟨b1, 0, none⟩ (.string (ByteArray.mk #[79, 112, 101, 110])) fun w71 => (StF w71 (Addr.add ⟨b1, 0, none⟩ 1) (.int .i64 (0 : Int)) fun w72 => (StF w72 (Addr.add ⟨b1, 0, none⟩ 2) (.int .i64 (40 : Int)) fun w73 => (∃ (z10 : ByteArray) (n75 : Int) (n76 : Int), (w73.cell? ⟨b1, 0, none⟩ = some (.string z10) ∧ w73.cell? (Addr.add ⟨b1, 0, none⟩ 1) = some (.int .i64 n75) ∧ w73.cell? (Addr.add ⟨b1, 0, none⟩ 2) = some (.int .i64 n76) ∧ True) ∧ (R (.returned (.tuple #[(.pointer none), (.agg #[(.string z10), (.int .i64 n75), (.int .i64 n76)])])) w73))))) (K34 () w70))) (PanF R)) (K34 () w62))) (fun _s34 w74 => ∀ _J : Env, (∃ (a15 : Option Addr) (l15 c15 : Nat), w74.cell? (Addr.add ⟨b2, 0, none⟩ 3) = some (.slice a15 l15 c15) ∧ (StF w74 (Addr.add ⟨b2, 0, none⟩ 4) (.int .i64 ((l15 : Nat) : Int)) fun w75 => (StF w75 ⟨b1, 0, none⟩ (.string ByteArray.empty) fun w76 => (StF w76 (Addr.add ⟨b1, 0, none⟩ 1) (.int .i64 (0 : Int)) fun w77 => (StF w77 (Addr.add ⟨b1, 0, none⟩ 2) (.int .i64 (0 : Int)) fun w78 => (∃ (z11 : ByteArray) (n77 : Int) (n78 : Int), (w78.cell? ⟨b1, 0, none⟩ = some (.string z11) ∧ w78.cell? (Addr.add ⟨b1, 0, none⟩ 1) = some (.int .i64 n77) ∧ w78.cell? (Addr.add ⟨b1, 0, none⟩ 2) = some (.int .i64 n78) ∧ True) ∧ (R (.returned (.tuple #[(.pointer (some ⟨b2, 0, none⟩)), (.agg #[(.string z11), (.int .i64 n77), (.int .i64 n78)])])) w78)))))))))))) := by
  have okn : recs.length ≤ cN := hm.ok.n
  have okc : cN ≤ 8192 := hm.ok.c
  have wi : ∀ x : Nat, x ≤ 100000 → IntKind.wrap .i64 ((x : Int) + 1) = ((x + 1 : Nat) : Int) := fun x hx => by rw [wrap_i64 (by omega) (by omega)]; omega
  have wj : ∀ x : Nat, x ≤ 100000 → IntKind.wrap .i64 (IntKind.wrap .i64 ((fN : Int) + ((x + 1 : Nat) : Int)) - 1) = ((fN + x : Nat) : Int) := fun x hx => by
    rw [wrap_i64 (x := (fN : Int) + ((x + 1 : Nat) : Int)) (by omega) (by omega), wrap_i64 (by omega) (by omega)]; omega
  have fin : ∀ (w2 : World) (ow2 : Nat → Nat) (v2 : Dv), RX w2 ow2 t rb v2 → Fro (To t) w ow w2 ow2 → Blk w2 b1 #[.string ByteArray.empty, .int .i64 0, .int .i64 0] T_quotaref06_Fault → ow2 b1 = t + 26 → wp.1 ≠ 0 → wp.2 = v2 →
      StF w2 ⟨b1, 0, none⟩ (.string (ByteArray.mk #[79, 112, 101, 110])) fun w2 => (StF w2 (Addr.add ⟨b1, 0, none⟩ 1) (.int .i64 (0 : Int)) fun w3 => (StF w3 (Addr.add ⟨b1, 0, none⟩ 2) (.int .i64 (40 : Int)) fun w4 => (∃ (z1 : ByteArray) (n3 : Int) (n4 : Int), (w4.cell? ⟨b1, 0, none⟩ = some (.string z1) ∧ w4.cell? (Addr.add ⟨b1, 0, none⟩ 1) = some (.int .i64 n3) ∧ w4.cell? (Addr.add ⟨b1, 0, none⟩ 2) = some (.int .i64 n4) ∧ True) ∧ (R (.returned (.tuple #[(.pointer none), (.agg #[(.string z1), (.int .i64 n3), (.int .i64 n4)])])) w4)))) := fun w2 ow2 v2 D2 F2 hb2 t2 h1 h2 => by
    refine flt_st hb2 (fun x w' => R (.returned (.tuple #[.pointer none, x])) w') fun w4 k4 _ => ?_
    have f4 : Fro (fun u => u ≠ t + 26) w2 ow2 w4 ow2 := Fro.of_kp' k4 fun j _ hj hne => hne (by rw [hj]; exact t2)
    rw [h2] at hbad
    exact hbad h1 w4 ow2 (D2.fr f4 (by omega) (by omega) (by omega) (by omega)) ⟨F2.kp.trans k4 (fun _ _ h => h) fun j hj hh => by omega, F2.ag⟩
  refine ⟨_, _, _, hm.blk.at (add1 _ _) rfl, ?_⟩
  have el : ((⟨fN, cN, recs, 0, 0⟩ : Lg).recs).length = recs.length := rfl
  rw [el, wi recs.length (by omega)]
  refine loopN (fun st w' => ∃ j : Nat, recs.length ≤ j ∧ j ≤ cN ∧ st.2.1 = ((j + 1 : Nat) : Int) ∧ ∃ v' ow', RX w' ow' t rb v' ∧ v'.Sm (600000 + j) ∧ Blk w' b1 #[.string ByteArray.empty, .int .i64 0, .int .i64 0] T_quotaref06_Fault ∧ ow' b1 = t + 26 ∧ Fro (To t) w ow w' ow' ∧ MX w' ow' t b2 rb H ⟨fN, cN, recs, 0, 0⟩ ∧ wp = wipeL v' ((fN + j : Nat) : Int) (S.drop j) st.1 ∧ (∀ i, j ≤ i → i < cN → v'.read ((fN + i : Nat) : Int) = v1.read ((fN + i : Nat) : Int)) ∧ v'.n = v1.n) (fun st _ => cN + 1 - st.2.1.toNat)
    ⟨recs.length, Nat.le_refl _, okn, rfl, v1, ow61, hd, hs.mono (by omega), hb, tb, F, hm, hwp, fun _ _ _ => rfl, rfl⟩ ?_
  clear hm hd hb tb F hs hwp
  rintro ⟨q, j0, u⟩ w2 ⟨j, hj1, hj2, hj0, v', ow2, D2, sm2, hb2, t2, F2, X2, ew, er, en⟩ _
  dsimp only at hj0 ew ⊢
  subst hj0
  refine cond_d (fun hlt => ?_) (fun hge2 => ?_)
  · have hjl : j < cN := by omega
    have hjS : j < S.length := by omega
    obtain ⟨s0, s512⟩ := S512 j hjl
    have hSj := Sg j hjS
    have erj := er j (Nat.le_refl _) hjl
    rw [wj j (by omega), wi (j + 1) (by omega)]
    refine rread_c D2 (by have := sm2.q; omega) fun a2 l2 c2 w5 k5 s5 fr5 => ⟨_, _, _, _, rfl, ?_⟩
    have sl1 := s5.1
    rw [bvs_len, erj, s512] at sl1
    obtain rfl : l2 = 512 := by omega
    have rd5 := s5.rd
    rw [erj, ← hSj] at rd5
    rw [List.drop_eq_getElem_cons hjS, wipeL] at ew
    refine rzeros_c rd5 (by rw [hSj]; exact s512) (by omega) ⟨_, rfl, cond_b (fun hz => ?_) (fun hz => ?_)⟩
    · rw [if_pos hz] at ew
      refine ⟨⟨j + 1, by omega, by omega, rfl, v', ow2, D2.kp0 k5, sm2.mono (by omega), k5.blk hb2 id, t2, F2.trans ((Fro.kp0 k5).mono fun _ _ => trivial), X2.fr (Fro.kp0 k5) trivial trivial trivial, ew, fun i h1 h2 => er i (by omega) h2, en⟩, ?_⟩
      show cN + 1 - (((j + 1 + 1 : Nat) : Int)).toNat < cN + 1 - (((j + 1 : Nat) : Int)).toNat
      simp only [Int.toNat_natCast]
      omega
    · rw [if_neg (by rw [hz]; decide)] at ew
      refine make_u8 (n := 512) (by omega) fun b w6 cur hb6 hcur k6 hbe => ⟨_, _, _, rfl, ?_⟩
      have x6 : B8 w6 b zer512 := ⟨cur, hb6, hcur⟩
      have k26 := k5.trans0 k6
      have f6 : Fro (fun _ => True) w2 ow2 w6 (ext ow2 w2.heap.size (t + 28)) := Fro.of_kp0 (t + 28) k26
      have tb6 : ext ow2 w2.heap.size (t + 28) b = t + 28 := ext_new (by have := k5.size; omega)
      have D6 := D2.fr f6 trivial trivial trivial trivial
      have X6 := X2.fr f6 trivial trivial trivial
      obtain ⟨hb16, t6⟩ := blk_fr hb2 t2 f6 trivial
      have F6 := F2.trans (f6.mono fun _ _ => trivial)
      generalize ext ow2 w2.heap.size (t + 28) = ow6 at *
      have zl : zer512.length = 512 := by rw [zer512, List.length_replicate]
      have hB : Bs w6 ow6 t (some ⟨b, 0, none⟩) zer512 := x6.bs tb6 (Td_of (by omega)) (by rw [zl]; omega)
      refine rwrite_c D6 hB zl (by have := sm2.q; omega) sm2.k fun w7 ow7 D7 f7 => ⟨_, rfl, ?_⟩
      have X7 := X6.fr f7 (Td_of (by omega)) (Td_of (by omega)) (Td_of (by omega))
      obtain ⟨hb7, t7⟩ := blk_fr hb16 t6 f7 (Td_of (by omega))
      have F7 := F6.trans (f7.mono fun u hu => hu.1)
      refine cond_ne (fun hne => ?_) (fun hz0 => ?_)
      · rw [if_pos (by omega)] at ew
        exact fin w7 ow7 _ D7 F7 hb7 t7 (by rw [ew]; omega) (by rw [ew])
      · rw [if_neg (by omega)] at ew
        have hw0 : (v'.write ((fN + j : Nat) : Int) zer512).1 = 0 := by omega
        have hnn := Dv.write_nn hw0
        refine ⟨⟨j + 1, by omega, by omega, rfl, _, ow7, D7, (Dv.write_sm sm2).mono (by omega), hb7, t7, F7, X7, ew, fun i h1 h2 => ?_, by rw [hnn, en]⟩, ?_⟩
        · rw [(Dv.write_read (j := ((fN + i : Nat) : Int)) hw0 (by omega)).1]
          exact er i (by omega) h2
        · show cN + 1 - (((j + 1 + 1 : Nat) : Int)).toNat < cN + 1 - (((j + 1 : Nat) : Int)).toNat
          simp only [Int.toNat_natCast]
          omega
  · have hje : j = cN := by omega
    have hdn : S.drop j = [] := List.drop_eq_nil_of_le (by omega)
    rw [hdn, wipeL] at ew
    refine ⟨fun _ w' => ∃ ow', RX w' ow' t rb wp.2 ∧ Blk w' b1 #[.string ByteArray.empty, .int .i64 0, .int .i64 0] T_quotaref06_Fault ∧ ow' b1 = t + 26 ∧ Fro (To t) w ow w' ow' ∧ MX w' ow' t b2 rb H ⟨fN, cN, recs, 0, 0⟩ ∧ wp.1 = 0, cond_b (fun hq => ?_) (fun hq => ?_), ?_⟩
    · rw [if_pos hq] at ew
      refine rsync_c D2 (by have := sm2.q; omega) sm2.k fun w3 ow3 D3 f3 => ⟨_, rfl, ?_⟩
      have X3 := X2.fr f3 (Td_of (by omega)) (Td_of (by omega)) (Td_of (by omega))
      obtain ⟨hb3, t3⟩ := blk_fr hb2 t2 f3 (Td_of (by omega))
      have F3 := F2.trans (f3.mono fun u hu => hu.1)
      refine cond_ne (fun hne => ?_) (fun hz => ?_)
      · exact fin w3 ow3 _ D3 F3 hb3 t3 (by rw [ew]; omega) (by rw [ew])
      · exact ⟨ow3, by rw [ew]; exact D3, hb3, t3, F3, X3, by rw [ew]; omega⟩
    · rw [if_neg (by rw [hq]; decide)] at ew
      exact ⟨ow2, by rw [ew]; exact D2, hb2, t2, F2, X2, by rw [ew]⟩
    rintro _ w3 ⟨ow3, D3, hb3, t3, F3, X3, hz⟩ _
    refine ⟨_, _, _, X3.blk.at (add1 _ _) rfl, StF.at (add1 _ _) X3.blk (Nat.le_of_ble_eq_true rfl) fun w4 x4 k4 _ => ?_⟩
    have f4 : Fro (fun u => u ≠ t + 20) w3 ow3 w4 ow3 := Fro.of_kp' k4 fun j _ hj hne => hne (by rw [hj]; exact X3.tb)
    obtain ⟨hb4, t4⟩ := blk_fr hb3 t3 f4 (by omega)
    refine flt_st hb4 (fun x w' => R (.returned (.tuple #[.pointer (some ⟨b2, 0, none⟩), x])) w') fun w5 k5 _ => ?_
    have f5 : Fro (fun u => u ≠ t + 26) w4 ow3 w5 ow3 := Fro.of_kp' k5 fun j _ hj hne => hne (by rw [hj]; exact t4)
    have tb' : ow3 b2 = t + 20 := X3.tb
    have x4' : Blk w4 b2 (mgc rb H ⟨fN, cN, recs, recs.length, 0⟩) T_quotaref06_Log := x4
    obtain ⟨x5, _⟩ := blk_fr x4' tb' f5 (by omega)
    have D5 := (D3.fr f4 (by omega) (by omega) (by omega) (by omega)).fr f5 (by omega) (by omega) (by omega) (by omega)
    have ok3 := X3.ok
    refine hok hz w5 ow3 D5 ?_ ⟨H, ⟨x5, tb', X3.ml, (X3.rs.fr f4 (by omega)).fr f5 (by omega), fun k h' h'' => ((X3.li k h' h'').fr f4 (by omega)).fr f5 (by omega), ⟨Nat.le_refl _, ok3.n, ok3.c, ok3.p, ok3.e, ok3.r⟩⟩⟩
    have F4 := F3.trans (f4.mono fun u hu => hu.2.1)
    exact ⟨F4.kp.trans k5 (fun _ _ h => h) fun j hj hh => by omega, F4.ag⟩
end
section
variable {w : World} {ow : Nat → Nat} {t rb : Nat} {R : Po}
set_option maxHeartbeats 8000000 in
theorem ropen_c {v : Dv} {f c : Int} (hd : RX w ow t rb v) (hs : v.Sm 600000) (hf : i64 f) (hc : i64 c)
    (hK : ∀ p z w' ow', RX w' ow' t rb (openR v f c).2.1 → Fro (To t) w ow w' ow' → ((openR v f c).1.2 ≠ 0 → z = zOp ∧ p = none) →
      ((openR v f c).1.2 = 0 → ∃ mb, p = some (⟨mb, 0, none⟩ : Addr) ∧ MG w' ow' t mb rb ⟨f.toNat, c.toNat, (openR v f c).2.2, (openR v f c).2.2.length, 0⟩) →
      R (.returned (.tuple #[.pointer p, .agg #[.string z, .int .i64 ((openR v f c).1.1 : Int), .int .i64 ((openR v f c).1.2 : Int)]])) w') :
    GoC Tryz.prog F_ref06_Open #[.pointer (some ⟨rb, 0, none⟩), .int .i64 f, .int .i64 c] w R := by
  refine S_ref06_Open ?_
  unfold W_ref06_Open
  obtain ⟨hf1, hf2⟩ := hf
  obtain ⟨hc1, hc2⟩ := hc
  have vok := hd.ok
  have n2 := vok.n2
  refine AlF.intro fun b1 w1 hb1e hb1 k1 _ => ?_
  have hge : w.heap.size ≤ b1 := by omega
  have f1 : Fro (fun _ => True) w ow w1 (ext ow w.heap.size (t + 26)) := Fro.of_kp0 (t + 26) k1
  have t1 : ext ow w.heap.size (t + 26) b1 = t + 26 := ext_new (by omega)
  have D := hd.fr f1 trivial trivial trivial trivial
  have F : Fro (To t) w ow w1 (ext ow w.heap.size (t + 26)) := f1.mono fun _ _ => trivial
  generalize ext ow w.heap.size (t + 26) = ow1 at *
  -- a fault
  have fin : ∀ (w2 : World) (ow2 : Nat → Nat) (v2 : Dv) (a e : Nat) (e' : Int), RX w2 ow2 t rb v2 → Fro (To t) w ow w2 ow2 → Blk w2 b1 #[.string ByteArray.empty, .int .i64 0, .int .i64 0] T_quotaref06_Fault → ow2 b1 = t + 26 → openR v f c = ((a, e), v2, []) → e ≠ 0 → e' = (e : Int) → ∀ a' : Int, a' = (a : Int) →
      StF w2 ⟨b1, 0, none⟩ (.string (ByteArray.mk #[79, 112, 101, 110])) fun w2 => (StF w2 (Addr.add ⟨b1, 0, none⟩ 1) (.int .i64 a') fun w3 => (StF w3 (Addr.add ⟨b1, 0, none⟩ 2) (.int .i64 e') fun w4 => (∃ (z1 : ByteArray) (n3 : Int) (n4 : Int), (w4.cell? ⟨b1, 0, none⟩ = some (.string z1) ∧ w4.cell? (Addr.add ⟨b1, 0, none⟩ 1) = some (.int .i64 n3) ∧ w4.cell? (Addr.add ⟨b1, 0, none⟩ 2) = some (.int .i64 n4) ∧ True) ∧ (R (.returned (.tuple #[(.pointer none), (.agg #[(.string z1), (.int .i64 n3), (.int .i64 n4)])])) w4)))) := fun w2 ow2 v2 a e e' D2 F2 hb2 t2 hr he hee a' haa => by
    subst hee haa
    refine flt_st hb2 (fun x w' => R (.returned (.tuple #[.pointer none, x])) w') fun w4 k4 _ => ?_
    have f4 : Fro (fun u => u ≠ t + 26) w2 ow2 w4 ow2 := Fro.of_kp' k4 fun j _ hj hne => hne (by rw [hj]; exact t2)
    have hk := hK none zOp w4 ow2
    rw [hr] at hk
    exact hk (D2.fr f4 (by omega) (by omega) (by omega) (by omega)) ⟨F2.kp.trans k4 (fun _ _ h => h) fun j hj hh => by omega, F2.ag⟩ (fun _ => ⟨rfl, rfl⟩) (fun h0 => absurd h0 he)
  have pl : placeBad v.n f c → openR v f c = ((0, 4), v, []) := fun h => by unfold openR; rw [if_pos h]
  refine cond_f rfl (cond_d (fun h0 => fin w1 ow1 v 0 4 4 D F hb1 t1 (pl (.inl h0)) (by decide) rfl 0 rfl) (fun h0 => cond_d (fun h1 => fin w1 ow1 v 0 4 4 D F hb1 t1 (pl (.inr (.inl h1))) (by decide) rfl 0 rfl) (fun h1 => ?_)))
  refine rsize_c D ⟨_, rfl, cond_d (fun h2 => fin w1 ow1 v 0 4 4 D F hb1 t1 (pl (.inr (.inr (.inl h2)))) (by decide) rfl 0 rfl) (fun h2 => rsize_c D ⟨_, rfl, ?_⟩)⟩
  rw [wrap_i64 (by omega) (by omega)]
  refine cond_d (fun h3 => fin w1 ow1 v 0 4 4 D F hb1 t1 (pl (.inr (.inr (.inr h3)))) (by decide) rfl 0 rfl) (fun h3 => ?_)
  have np : ¬ placeBad v.n f c := fun hh => by rcases hh with h | h | h | h <;> omega
  refine rdown_c D ⟨_, rfl, cond_b (fun hq => fin w1 ow1 v 0 40 40 D F hb1 t1 (by unfold openR; rw [if_neg np, if_pos hq]) (by decide) rfl 0 rfl) (fun hdn => ?_)⟩
  obtain ⟨fN, rfl⟩ := Int.eq_ofNat_of_zero_le (show 0 ≤ f by omega)
  obtain ⟨cN, rfl⟩ := Int.eq_ofNat_of_zero_le (show 0 ≤ c by omega)
  have hO : openR v (fN : Int) (cN : Int) = if (syncQ v).1 ≠ 0 then ((0, (syncQ v).1), (syncQ v).2, []) else openS (syncQ v).2 fN cN := by
    unfold openR
    rw [if_neg np, if_neg (by simp [hdn]), Int.toNat_natCast, Int.toNat_natCast]
  refine ⟨fun _ w' => ∃ ow', RX w' ow' t rb (syncQ v).2 ∧ Blk w' b1 #[.string ByteArray.empty, .int .i64 0, .int .i64 0] T_quotaref06_Fault ∧ ow' b1 = t + 26 ∧ Fro (To t) w ow w' ow' ∧ (syncQ v).1 = 0, rcache_c D (by have := hs.q; omega) fun a cc X w2 ca hX => ⟨_, _, _, rfl, ?_⟩, ?_⟩
  · have k12 := ca.k
    have D2 := D.kp0 k12
    have hb2 := k12.blk hb1 id
    have F2 : Fro (To t) w ow w2 ow1 := F.trans ((Fro.kp0 k12).mono fun _ _ => trivial)
    refine cond_d (fun hq => ?_) (fun hq => ⟨ow1, ?_, hb2, t1, F2, ?_⟩)
    · have hsq : syncQ v = v.sync := by unfold syncQ; rw [if_pos (by omega)]
      refine rsync_c D2 (by have := hs.q; omega) hs.k fun w3 ow3 D3 f3 => ⟨_, rfl, ?_⟩
      obtain ⟨hb3, t3⟩ := blk_fr hb2 t1 f3 (Td_of (by omega))
      have F3 := F2.trans (f3.mono fun _ hu => hu.1)
      refine cond_ne (fun hne => ?_) (fun hz => ⟨ow3, by rw [hsq]; exact D3, hb3, t3, F3, by rw [hsq]; omega⟩)
      have h40 := Dv.sync_40 (v := v) (by omega)
      exact fin w3 ow3 v.sync.2 0 40 40 D3 F3 hb3 t3 (by rw [hO, hsq, if_pos (by omega), h40]) (by decide) rfl 0 rfl
    · have hsq : syncQ v = (0, v) := by unfold syncQ; rw [if_neg (by omega)]
      rw [hsq]
      exact D2
    · unfold syncQ
      rw [if_neg (by omega)]
  rintro _ w2 ⟨ow2, D2, hb2, t2, F2, hz⟩ _
  rw [if_neg (by omega)] at hO
  obtain ⟨vok1, vn1⟩ := syncQ_ok vok
  have vup := syncQ_up hdn hz
  have vs : (syncQ v).2.Sm 600000 := by
    unfold syncQ
    split
    · exact Dv.sync_sm hs
    · exact hs
  generalize (syncQ v).2 = v1 at *
  have S512 : ∀ i, i < cN → (v1.read ((fN + i : Nat) : Int)).2 = 0 ∧ (v1.read ((fN + i : Nat) : Int)).1.length = 512 := fun i hi => vok1.read_at vup (by omega) (by omega)
  have ls := secsOf_len v1 fN cN
  obtain ⟨S, hS⟩ : ∃ S, S = secsOf v1 fN cN := ⟨_, rfl⟩
  have Sl_ : S.length = cN := by rw [hS]; exact ls
  have Sg : ∀ k (h : k < S.length), S[k] = (v1.read ((fN + k : Nat) : Int)).1 := fun k h => by subst hS; exact secsOf_get v1 h
  have hrS : readS v1 fN cN = readR (bytsOf S) 0 := by rw [hS]; rfl
  have hwS : wipeS v1 fN cN = wipeL v1 ((fN + (readS v1 fN cN).2.length : Nat) : Int) (S.drop (readS v1 fN cN).2.length) false := by rw [hS]; rfl
  clear hS
  have hfl := foundN_le S 0
  have Bl : (bytsOf S).length = foundN S 0 := by unfold bytsOf; rw [List.length_map, List.length_take]; omega
  have wi : ∀ x : Nat, x ≤ 100000 → IntKind.wrap .i64 ((x : Int) + 1) = ((x + 1 : Nat) : Int) := fun x hx => by rw [wrap_i64 (by omega) (by omega)]; omega
  have wj : ∀ x : Nat, x ≤ 100000 → IntKind.wrap .i64 (IntKind.wrap .i64 ((fN : Int) + ((x + 1 : Nat) : Int)) - 1) = ((fN + x : Nat) : Int) := fun x hx => by
    rw [wrap_i64 (x := (fN : Int) + ((x + 1 : Nat) : Int)) (by omega) (by omega), wrap_i64 (by omega) (by omega)]; omega
  -- the log
  refine AlF.intro fun b2 w3 hb2e hb23 k3 _ => ?_
  have f3 : Fro (fun _ => True) w2 ow2 w3 (ext ow2 w2.heap.size (t + 20)) := Fro.of_kp0 (t + 20) k3
  have tb2 : ext ow2 w2.heap.size (t + 20) b2 = t + 20 := ext_new (by omega)
  have hge2 : w.heap.size ≤ b2 := by have := F2.kp.size; omega
  have D3 := D2.fr f3 trivial trivial trivial trivial
  obtain ⟨hb3, t3⟩ := blk_fr hb2 t2 f3 trivial
  have F3 := F2.trans (f3.mono fun _ _ => trivial)
  generalize ext ow2 w2.heap.size (t + 20) = ow3 at *
  have X3 : MX w3 ow3 t b2 rb ⟨none, 0, []⟩ ⟨fN, cN, [], 0, 0⟩ := ⟨hb23, tb2, rfl, slt_nil _ _ _ _ _, fun k h => absurd h (by simp), ⟨Nat.le_refl _, Nat.zero_le _, by show cN ≤ 8192; omega, by show fN ≤ 8192; omega, by show 0 ≤ 100; omega, fun k h => absurd h (by simp)⟩⟩
  refine ⟨fun _ w' => ∃ ow' recs, RX w' ow' t rb v1 ∧ Blk w' b1 #[.string ByteArray.empty, .int .i64 0, .int .i64 0] T_quotaref06_Fault ∧ ow' b1 = t + 26 ∧ Fro (To t) w ow w' ow' ∧ MG w' ow' t b2 rb ⟨fN, cN, recs, 0, 0⟩ ∧ readS v1 fN cN = (0, recs), ?_, ?_⟩
  · refine loopN (fun st w' => ∃ k : Nat, k ≤ cN ∧ st.1 = ((k + 1 : Nat) : Int) ∧ ∃ ow' H recs, RX w' ow' t rb v1 ∧ Blk w' b1 #[.string ByteArray.empty, .int .i64 0, .int .i64 0] T_quotaref06_Fault ∧ ow' b1 = t + 26 ∧ Fro (To t) w ow w' ow' ∧ MX w' ow' t b2 rb H ⟨fN, cN, recs, 0, 0⟩ ∧ recs.length = k ∧ foundN S 0 = k + foundN (S.drop k) k ∧ (readR (bytsOf S) 0).1 = (readR ((bytsOf S).drop k) k).1 ∧ (readR (bytsOf S) 0).2 = recs ++ (readR ((bytsOf S).drop k) k).2) (fun st _ => cN + 1 - st.1.toNat)
      ⟨0, by omega, rfl, ow3, _, [], D3, hb3, t3, F3, X3, rfl, by simp, rfl, rfl⟩ ?_
    rintro ⟨k0, u⟩ w4 ⟨k, hk, hk0, ow4, H, recs, D4, hb4, t4, F4, X4, hrl, hfd, e1, e2⟩ _
    dsimp only at hk0 ⊢
    subst hk0
    have out : foundN (S.drop k) k = 0 → ∀ w5, Kp no w4 w5 → ∃ ow' recs, RX w5 ow' t rb v1 ∧ Blk w5 b1 #[.string ByteArray.empty, .int .i64 0, .int .i64 0] T_quotaref06_Fault ∧ ow' b1 = t + 26 ∧ Fro (To t) w ow w5 ow' ∧ MG w5 ow' t b2 rb ⟨fN, cN, recs, 0, 0⟩ ∧ readS v1 fN cN = (0, recs) := fun h0 w5 k5 => by
      have hd : (bytsOf S).drop k = [] := List.drop_eq_nil_of_le (by omega)
      rw [hd] at e1 e2
      refine ⟨ow4, recs, D4.kp0 k5, k5.blk hb4 id, t4, F4.trans ((Fro.kp0 k5).mono fun _ _ => trivial), ⟨H, X4.fr (Fro.kp0 k5) trivial trivial trivial⟩, ?_⟩
      rw [hrS]
      refine Prod.ext ?_ ?_
      · rw [e1]; rfl
      · rw [e2]; simp [readR]
    refine cond_d (fun hlt => ?_) (fun hge => ?_)
    · have hkl : k < cN := by omega
      have hkS : k < S.length := by omega
      obtain ⟨s0, s512⟩ := S512 k hkl
      have hSk := Sg k hkS
      rw [wj k (by omega)]
      refine rread_c D4 (by have := vs.q; omega) fun a2 l2 c2 w5 k5 s5 fr5 => ⟨_, _, _, _, rfl, ?_⟩
      have sl1 := s5.1
      rw [bvs_len, s512] at sl1
      obtain rfl : l2 = 512 := by omega
      have rd5 := s5.rd
      rw [← hSk] at rd5
      rw [foundN_drop S hkS] at hfd
      refine rbytes_c (n := k + 1) (s := S[k]) rd5 (by rw [hSk]; exact s512) (by have := s5.2.1; omega) (by omega) (fun hno => ⟨_, _, _, _, rfl, cond_t rfl (out (by rw [foundN_drop S hkS, hno]; rfl) w5 k5)⟩) (fun hyes a6 c6 w6 hs6 k6 hf6 => ⟨_, _, _, _, rfl, cond_f rfl ?_⟩)
      rw [if_pos hyes] at hfd
      have hkB : k < (bytsOf S).length := by omega
      have eB := bytsOf_get hkB hkS
      have hdr : (bytsOf S).drop k = bytB S[k] :: (bytsOf S).drop (k + 1) := by rw [List.drop_eq_getElem_cons hkB, eB]
      rw [hdr] at e1 e2
      obtain ⟨sh1, sh2⟩ := dec_short (bytB S[k])
      obtain ⟨q1, q2⟩ := isSec_n hyes
      have hbl : (bytB S[k]).length = bytN S[k] := by have := hs6.1; rw [bvs_len] at this; omega
      refine rdecode_c hs6.rd hbl (sl_some' hs6) (by omega) fun m w7 ow7 k7 o7 l7 => ⟨_, _, _, _, _, _, _, _, _, _, _, _, _, _, _, _, _, _, _, _, _, _, rfl, ?_⟩
      have own7 := l7.own o7
      refine rec_cp (decB (bytB S[k])).1 m fun b3 w8 h8 => ?_
      have hll : m.ll = (decB (bytB S[k])).1.live.length := own7.ll
      have hdl : m.dl = (decB (bytB S[k])).1.dirty.length := own7.dl
      have s8 := h8.nw
      have own8 := own7.kp0 h8.kp
      have k48 := (k5.trans0 k6).trans0 (k7.trans0 h8.kp)
      refine ⟨fun s w9 => Kp no w8 w9 ∧ s.1 = (recE (bytB S[k]) k : Int) ∧ (recE (bytB S[k]) k = 0 → False) ∨ (∃ w8', Kp (fun j => j = b3) w8 w8' ∧ Kp no w8' w9 ∧ Blk w8' b3 ((recOf (bytB S[k]) k).ca m) T_api_Record ∧ s.1 = (recE (bytB S[k]) k : Int)), cond_eq (fun h0 => ?_) (fun h0 => .inl ⟨Kp.refl _ _, ?_, ?_⟩), ?_⟩
      · refine h8.st rfl (Nat.le_of_ble_eq_true rfl) fun w9 h9 k9 => ?_
        have h9 : Loc w7 w9 b3 ((recOf (bytB S[k]) k).ca m) T_api_Record := h9
        have own9 : OwnL w6 w9 (recOf (bytB S[k]) k) m := by
          have nl : ∀ j, j < w7.heap.size → j ≠ b3 := fun j hj hh => by omega
          exact ⟨own8.l.kp k9 fun j hj hh => nl j (own7.l.lt j hj) hh, own8.d.kp k9 fun j hj hh => nl j (own7.d.lt j hj) hh, own8.ll, own8.dl, own8.fl, own8.fd, own8.ap⟩
        have lin9 : LiIn w9 m (recOf (bytB S[k]) k).live (recOf (bytB S[k]) k).dirty := ⟨own9.l.rd, hll.symm, by omega, own9.d.rd, hdl.symm, by omega⟩
        refine rec_rd h9.blk (rcheck_c (r := recOf (bytB S[k]) k) (m := m) lin9 fun w10 k10 => ⟨_, rfl, .inr ⟨w9, k9, k10, h9.blk, ?_⟩⟩)
        show ((chkN (recOf (bytB S[k]) k) : Nat) : Int) = _
        unfold recE
        rw [if_pos (by omega)]
      · show (((decB (bytB S[k])).2 : Nat) : Int) = _
        unfold recE
        rw [if_neg (by omega)]
      · unfold recE
        rw [if_neg (by omega)]
        omega
      rintro ⟨n0, u0⟩ w9 hJ _
      dsimp only at hJ ⊢
      have hn0 : n0 = (recE (bytB S[k]) k : Int) := by rcases hJ with h | ⟨_, _, _, _, h⟩; exact h.2.1; exact h
      subst hn0
      have k49 : Kp no w4 w9 := by
        rcases hJ with h | ⟨w8', k9, k10, _, _⟩
        · exact k48.trans0 h.1
        · exact (kp_blk k48 (by have := (k5.trans0 k6).trans0 k7; have := this.size; omega) k9).trans0 k10
      have f9 : Fro (fun _ => True) w4 ow4 w9 (ext ow4 w4.heap.size (t + 22)) := Fro.of_kp0 (t + 22) k49
      have D9 := D4.fr f9 trivial trivial trivial trivial
      obtain ⟨hb9, t9⟩ := blk_fr hb4 t4 f9 trivial
      have F9 := F4.trans (f9.mono fun _ _ => trivial)
      refine cond_ne (fun hne => ?_) (fun he => ?_)
      · have e1' : (readR (bytsOf S) 0).1 = k + 1 := by rw [e1, readR, if_pos (by omega)]
        refine fin w9 _ v1 (k + 1) 60 60 D9 F9 hb9 t9 ?_ (by decide) rfl _ rfl
        rw [hO]
        unfold openS
        rw [hrS, e1', if_pos (by omega)]
      have hE : recE (bytB S[k]) k = 0 := by omega
      obtain ⟨c1, c2', c3, c4⟩ := recE_ok hE
      rw [readR, if_neg (by omega)] at e1 e2
      dsimp only at e1 e2
      rcases hJ with ⟨_, _, hbad⟩ | ⟨w8', k9, k10, hb8', _⟩
      · exact (hbad hE).elim
      have own9 : OwnL w6 w9 (recOf (bytB S[k]) k) m := by
        have nl : ∀ j, j < w7.heap.size → j ≠ b3 := fun j hj hh => by omega
        have o9 : OwnL w6 w8' (recOf (bytB S[k]) k) m := ⟨own8.l.kp k9 fun j hj hh => nl j (own7.l.lt j hj) hh, own8.d.kp k9 fun j hj hh => nl j (own7.d.lt j hj) hh, own8.ll, own8.dl, own8.fl, own8.fd, own8.ap⟩
        exact o9.kp0 k10
      have sz46 := (k5.trans0 k6).size
      have own9' : OwnL w4 w9 (recOf (bytB S[k]) k) m := ⟨own9.l, own9.d, own9.ll, own9.dl, fun j hj => by have := own9.fl j hj; omega, fun j hj => by have := own9.fd j hj; omega, own9.ap⟩
      have l9 : LiT w9 (ext ow4 w4.heap.size (t + 22)) (t + 22) m (recOf (bytB S[k]) k) := own9'.lit (t + 22) (by omega) (by omega)
      have X9 := X4.fr f9 trivial trivial trivial
      have hb39 := k10.blk hb8' id
      have tb3 : ext ow4 w4.heap.size (t + 22) b3 = t + 22 := ext_new (by have := ((k5.trans0 k6).trans0 k7).size; omega)
      generalize ext ow4 w4.heap.size (t + 22) = ow9 at *
      have kd : Kp no w9 w9.drew := Kp.drew w9 1
      have fd : Fro (fun _ => True) w9 ow9 w9.drew ow9 := Fro.kp0 kd
      have X10 := X9.fr fd trivial trivial trivial
      have l10 := l9.fr fd trivial
      have D10 := D9.fr fd trivial trivial trivial trivial
      have F10 := F9.trans (fd.mono fun _ _ => trivial)
      have hb10 := kd.blk hb9 id
      have hb310 := kd.blk hb39 id
      refine ⟨fun w' => Blk w' b2 (mgc rb H ⟨fN, cN, recs, 0, 0⟩) T_quotaref06_Log ∧ Blk w' b3 ((recOf (bytB S[k]) k).ca m) T_api_Record, ⟨X10.blk, hb310⟩, ⟨_, _, _, fun w' hw => hw.1.at (add1 _ _) rfl, ?_⟩⟩
      refine ⟨_, _, _, _, _, _, _, _, _, _, _, _, _, _, _, _, _, _, _, _, _, fun w' hw => ⟨hw.2.at rfl rfl, hw.2.at rfl rfl, hw.2.at rfl rfl, hw.2.at rfl rfl, hw.2.at rfl rfl, hw.2.at rfl rfl, hw.2.at rfl rfl, hw.2.at rfl rfl, hw.2.at rfl rfl, hw.2.at rfl rfl, hw.2.at rfl rfl, hw.2.at rfl rfl, hw.2.at rfl rfl, hw.2.at rfl rfl, hw.2.at rfl rfl, hw.2.at rfl rfl, hw.2.at rfl rfl, trivial⟩, ?_⟩
      generalize w9.drew = w10 at *
      refine AlF.intro fun b4 w11 hb4e hb411 k11 _ => ?_
      have f11 : Fro (fun _ => True) w10 ow9 w11 (ext ow9 w10.heap.size (t + 26)) := Fro.of_kp0 (t + 26) k11
      have X11 := X10.fr f11 trivial trivial trivial
      have l11 := l10.fr f11 trivial
      have D11 := D10.fr f11 trivial trivial trivial trivial
      have F11 := F10.trans (f11.mono fun _ _ => trivial)
      obtain ⟨hb11, t11⟩ := blk_fr hb10 t9 f11 trivial
      obtain ⟨hb311, tb311⟩ := blk_fr hb310 tb3 f11 trivial
      generalize ext ow9 w10.heap.size (t + 26) = ow11 at *
      have hb411 : Blk w11 b4 ((recOf (bytB S[k]) k).ca m) T_api_Record := hb411
      refine ⟨⟨X11.blk, hb311⟩, app_c er_rec X11.rs (rd_cells hb411 (rfl : _ = cR (recOf (bytB S[k]) k, m))) (by rfl) (fun h => by cases h) (cR_one _) (by show recs.length + 1 ≤ _; omega) (by show (recs.length + 1) * _ ≤ _; omega) fun a' c' w12 hs12 k12 f12 => ⟨_, _, _, rfl, ?_⟩⟩
      obtain ⟨x12, tx12⟩ := blk_fr X11.blk X11.tb f12 (by omega)
      obtain ⟨hb12, t12⟩ := blk_fr hb11 t11 f12 (by omega)
      obtain ⟨hb312, tb312⟩ := blk_fr hb311 tb311 f12 (by omega)
      have F12 := F11.trans (f12.mono fun u hu => hu.2.2.1)
      have l12 := l11.fr f12 (by omega)
      have D12 := D11.fr f12 (by omega) (by omega) (by omega) (by omega)
      have li12 := fun k h' h'' => (X11.li k h' h'').fr f12 (by omega)
      generalize ext ow11 w11.heap.size (t + 21) = ow12 at *
      refine ⟨⟨x12, hb312⟩, StF.at (add1 _ _) x12 (Nat.le_of_ble_eq_true rfl) fun w13 x13 k13 _ => ?_⟩
      have f13 : Fro (fun u => u ≠ t + 20) w12 ow12 w13 ow12 := Fro.of_kp' k13 fun j _ hj hne => hne (by rw [hj]; exact tx12)
      obtain ⟨hb13, t13⟩ := blk_fr hb12 t12 f13 (by omega)
      have F13 := F12.trans (f13.mono fun u hu => hu.2.1)
      have l13 := l12.fr f13 (by omega)
      have D13 := D12.fr f13 (by omega) (by omega) (by omega) (by omega)
      have hs13 := hs12.fr f13 (by omega)
      have li13 := fun k h' h'' => (li12 k h' h'').fr f13 (by omega)
      have hml : H.ms.length = recs.length := X4.ml
      have elen : (recs ++ [recOf (bytB S[k]) k]).length = recs.length + 1 := by simp
      have hs13 : SlT w13 ow12 T_api_Record 17 a' (recs.length + 1) c' (flatV cR (List.zip recs H.ms) ++ cR (recOf (bytB S[k]) k, m)) (t + 21) := hs13
      rw [wi (k + 1) (by omega)]
      have okX := X4.ok
      refine ⟨⟨k + 1, by omega, rfl, ow12, ⟨a', c', H.ms ++ [m]⟩, recs ++ [recOf (bytB S[k]) k], D13, hb13, t13, F13, ⟨?_, tx12, ?_, ?_, ?_, ?_⟩, by rw [elen, hrl], by omega, e1, by rw [e2]; simp⟩, ?_⟩
      · show Blk w13 b2 #[.pointer (some ⟨rb, 0, none⟩), .int .i64 (fN : Int), .int .i64 (cN : Int), .slice a' (recs ++ [recOf (bytB S[k]) k]).length c', .int .i64 0, .string ByteArray.empty, .int .i64 0, .int .i64 0] T_quotaref06_Log
        rw [elen]
        exact x13
      · show (H.ms ++ [m]).length = (recs ++ [recOf (bytB S[k]) k]).length
        rw [List.length_append, List.length_append, hml]
        rfl
      · show SlT w13 ow12 T_api_Record 17 a' (recs ++ [recOf (bytB S[k]) k]).length c' (flatV cR (List.zip (recs ++ [recOf (bytB S[k]) k]) (H.ms ++ [m]))) (t + 21)
        rw [elen, List.zip_append hml.symm, flatV_app]
        have e : flatV cR (List.zip [recOf (bytB S[k]) k] [m]) = cR (recOf (bytB S[k]) k, m) := by simp [flatV]
        rw [e]
        exact hs13
      · intro j hj1 hj2
        have hj1 : j < (recs ++ [recOf (bytB S[k]) k]).length := hj1
        have hj2 : j < (H.ms ++ [m]).length := hj2
        show LiT w13 ow12 (t + 22) (H.ms ++ [m])[j] (recs ++ [recOf (bytB S[k]) k])[j]
        by_cases hjl : j < recs.length
        · rw [List.getElem_append_left hjl, List.getElem_append_left (by omega)]
          exact li13 j hjl _
        · have hje : j = recs.length := by omega
          subst hje
          rw [List.getElem_append_right (Nat.le_refl _), List.getElem_append_right (by omega)]
          simpa using l13
      · refine ⟨Nat.zero_le _, ?_, okX.c, okX.p, okX.e, fun j hj => ?_⟩
        · show (recs ++ [recOf (bytB S[k]) k]).length ≤ cN
          omega
        · have hj : j < (recs ++ [recOf (bytB S[k]) k]).length := hj
          show chkN (recs ++ [recOf (bytB S[k]) k])[j] = 0 ∧ ((recs ++ [recOf (bytB S[k]) k])[j]).w64 ∧ ((recs ++ [recOf (bytB S[k]) k])[j]).lsn = ((j + 1 : Nat) : Int)
          by_cases hjl : j < recs.length
          · rw [List.getElem_append_left hjl]
            exact okX.r j hjl
          · have hje : j = recs.length := by omega
            subst hje
            rw [List.getElem_append_right (Nat.le_refl _)]
            simp only [Nat.sub_self, List.getElem_cons_zero]
            exact ⟨c1, c2', by rw [c3, hrl]⟩
      · show cN + 1 - (((k + 1 + 1 : Nat) : Int)).toNat < cN + 1 - (((k + 1 : Nat) : Int)).toNat
        simp only [Int.toNat_natCast]
        omega
    · have hke : k = cN := by omega
      have hd : S.drop k = [] := List.drop_eq_nil_of_le (by omega)
      exact out (by rw [hd]; rfl) w4 (Kp.refl _ _)
  rintro _ w4 ⟨ow4, recs, D4, hb4, t4, F4, ⟨H, X4⟩, eR⟩ _
  refine rwipe_c X4 D4 vs hb4 t4 F4 hge Sl_ Sg S512 (by omega) (by omega) (wp := wipeS v1 fN cN) (by rw [hwS, eR]) (fun h0 w5 ow5 D5 F5 => ?_) (fun h0 w5 ow5 D5 F5 M5 => ?_)
  · have h40 : (wipeS v1 fN cN).1 = 40 := by
      rw [hwS] at h0 ⊢
      refine wipeL_40 _ _ _ _ (by omega) ?_ h0
      rw [List.length_drop, Sl_, eR]
      have : recs.length ≤ cN := X4.ok.n
      show ((fN + recs.length : Nat) : Int) + ((cN - recs.length : Nat) : Int) ≤ _
      omega
    have e : openR v (fN : Int) (cN : Int) = ((0, 40), (wipeS v1 fN cN).2, []) := by
      rw [hO]
      unfold openS
      rw [if_neg (by rw [eR]; exact fun h => h rfl), if_pos h0, h40]
    have hk := hK none zOp w5 ow5
    rw [e] at hk
    exact hk D5 F5 (fun _ => ⟨rfl, rfl⟩) (fun h => by cases h)
  · have e : openR v (fN : Int) (cN : Int) = ((0, 0), (wipeS v1 fN cN).2, recs) := by
      rw [hO]
      unfold openS
      rw [if_neg (by rw [eR]; exact fun h => h rfl), if_neg (by omega), eR]
    have hk := hK (some ⟨b2, 0, none⟩) ByteArray.empty w5 ow5
    rw [e] at hk
    exact hk D5 F5 (fun h => absurd rfl h) (fun _ => ⟨b2, rfl, M5⟩)
end
def wcs (p r : Nat) (l m : Option Addr) (f c : Nat) : Array Value := #[.pointer (some ⟨p, 0, none⟩), .pointer (some ⟨r, 0, none⟩), .pointer l, .pointer m, .int .i64 (f : Int), .int .i64 (c : Int)]
theorem lsame_c {w : World} {a a' : Option Addr} {l l' c c' : Nat} {bs : List UInt8} {R : Po} (h1 : Rd w a (bvs bs)) (l1 : bs.length = l) (n1 : a = none → l = 0) (h2 : Rd w a' (bvs bs)) (l2 : bs.length = l') (n2 : a' = none → l' = 0) (h : R (.returned (.bool true)) w) :
    GoC Tryz.prog F_law06_same #[.slice a l c, .slice a' l' c'] w R := by
  refine S_law06_same ?_
  unfold W_law06_same
  refine convert_bytes (e := T_uint8) (by kernel_rfl) (by kernel_rfl) (by kernel_rfl) h1 l1 n1 fun z1 e1 => ⟨_, rfl, convert_bytes (e := T_uint8) (by kernel_rfl) (by kernel_rfl) (by kernel_rfl) h2 l2 n2 fun z2 e2 => ⟨_, rfl, ?_⟩⟩
  rw [e1, e2, beq_self_eq_true]
  exact h
set_option maxRecDepth 100000 in
set_option maxHeartbeats 2000000 in
theorem disks_c {w : World} {ow : Nat → Nat} {t u wb p r f c : Nat} {l m : Option Addr} {v : Dv} {R : Po} (hb : Blk w wb (wcs p r l m f c) T_quotalaw06_World) (hD : DX w ow t p v) (hR : RX w ow u r v) (hq : v.q.length ≤ 1000000) (h : ∀ w', Kp no w w' → R (.returned (.bool true)) w') :
    GoC Tryz.prog F_law06_World_disks #[.pointer (some ⟨wb, 0, none⟩)] w R := by
  refine S_law06_World_disks ?_
  unfold W_law06_World_disks
  have kd : Kp no w w.drew := Kp.drew w 1
  have hD1 := hD.kp0 kd
  have hR1 := hR.kp0 kd
  have hbd := kd.blk hb id
  have x0 : ∀ w', Blk w' wb (wcs p r l m f c) T_quotalaw06_World → w'.cell? ⟨wb, 0, none⟩ = some (.pointer (some ⟨p, 0, none⟩)) := fun w' hb => c0 hb rfl
  have x1 : ∀ w', Blk w' wb (wcs p r l m f c) T_quotalaw06_World → w'.cell? (Addr.add ⟨wb, 0, none⟩ 1) = some (.pointer (some ⟨r, 0, none⟩)) := fun w' hb => cN hb rfl
  refine ⟨fun w' => Blk w' wb (wcs p r l m f c) T_quotalaw06_World, hbd, NilF.intro rfl ⟨_, x0, NilF.intro rfl ⟨_, x1, calls_c hD1 ⟨_, rfl, hbd, rcalls_c hR1 ⟨_, rfl, hbd, cond_f (by simp) ?_⟩⟩⟩⟩⟩
  refine NilF.intro rfl ⟨_, x0, NilF.intro rfl ⟨_, x1, down_c hD1 ⟨_, rfl, hbd, rdown_c hR1 ⟨_, rfl, hbd, cond_f (by cases v.down <;> rfl) ?_⟩⟩⟩⟩
  refine NilF.intro rfl ⟨_, x0, NilF.intro rfl ⟨_, x1, image_c hD1 fun a3 c3 w3 hs3 k3 fr3 => ⟨_, _, _, rfl, k3.blk hbd id, rimage_c (hR1.kp0 k3) fun a4 c4 w4 hs4 k4 fr4 => ⟨_, _, _, rfl, (k3.trans0 k4).blk hbd id, ?_⟩⟩⟩⟩
  have k34 := k3.trans0 k4
  have hb4 := k34.blk hbd id
  refine lsame_c (hs3.rd.kp0 k4) rfl (fun h0 => sl_some' hs3 h0) hs4.rd rfl (fun h0 => sl_some' hs4 h0) ⟨_, rfl, hb4, cond_f rfl ?_⟩
  refine NilF.intro rfl ⟨_, x0 _ hb4, cache_c (hD1.kp0 k34) hq fun a5 c5 X w5 hX hXv => ⟨_, _, _, rfl, NilF.intro rfl ⟨_, x1 _ (hX.k.blk hb4 id), rcache_c ((hR1.kp0 k34).kp0 hX.k) hq fun a6 c6 Y w6 hY hYv => ⟨_, _, _, rfl, cond_f (by simp) ?_⟩⟩⟩⟩
  have hXn := hX.n
  have hYn := hY.n
  have k06 := ((kd.trans0 k34).trans0 hX.k).trans0 hY.k
  have rX := hX.s.rd.kp0 hY.k
  have rY := hY.s.rd
  have he : X.map PD.v = Y.map PD.v := by rw [hXv, hYv]
  refine loopN (fun s w' => Kp no w6 w' ∧ ∃ k : Nat, s.1 = (k : Int)) (fun s _ => v.q.length - s.1.toNat) ⟨Kp.refl _ _, 0, rfl⟩ ?_
  rintro ⟨k0, u0⟩ w7 ⟨k7, k, hk0⟩ _
  dsimp only at hk0 ⊢
  subst hk0
  refine cond_d (fun hlt => ?_) (fun hge => h w7 (k06.trans0 k7))
  have hk : k < X.length := by omega
  have hk' : k < Y.length := by omega
  have hkw : IntKind.wrap .i64 ((k : Int) + 1) = ((k + 1 : Nat) : Int) := by rw [wrap_i64 (by omega) (by omega)]; omega
  rw [hkw]
  have hv : (X[k]).v = (Y[k]).v := by
    have := congrArg (fun l => l[k]?) he
    simpa [hk, hk'] using this
  have hs : (X[k]).sec = (Y[k]).sec := congrArg Prod.fst hv
  have hbb : (X[k]).bs = (Y[k]).bs := congrArg Prod.snd hv
  have kd7 := k7.trans0 (Kp.drew w7 1)
  obtain ⟨bx, ox, hax, x0', x1'⟩ := pdA (rX.kp0 kd7) hk
  obtain ⟨by_, oy, hay, y0, y1⟩ := pdA (rY.kp0 kd7) hk'
  have sx := (hX.x _ (List.getElem_mem hk)).1
  have sy := (hY.x _ (List.getElem_mem hk')).1
  refine ⟨by omega, hlt, _, hax, _, by rw [Int.toNat_natCast]; exact x0', by omega, hlt, _, hay, _, by rw [Int.toNat_natCast]; exact y0, cond_f (by rw [hs]; simp) ⟨by omega, hlt, _, hax, _, _, _, by rw [Int.toNat_natCast]; exact x1', by omega, hlt, _, hay, _, _, _, by rw [Int.toNat_natCast]; exact y1, ?_⟩⟩
  refine lsame_c ((sx.rd.kp0 hY.k).kp0 kd7) rfl (fun h0 => sl_some' sx h0) (by rw [hbb]; exact sy.rd.kp0 kd7) (by rw [hbb]) (fun h0 => sl_some' sy h0) ⟨_, rfl, cond_f rfl ⟨⟨kd7, k + 1, rfl⟩, ?_⟩⟩
  show v.q.length - (((k + 1 : Nat) : Int)).toNat < v.q.length - ((k : Nat) : Int).toNat
  simp only [Int.toNat_natCast]
  omega
theorem getG_short {g : Lg} (hok : g.Ok) (n : Int) : (getG g n).1.live.length ≤ 1000 ∧ (getG g n).1.dirty.length ≤ 1000 := by
  unfold getG
  split
  · exact ⟨Nat.zero_le _, Nat.zero_le _⟩
  split
  · exact ⟨Nat.zero_le _, Nat.zero_le _⟩
  split
  · exact ⟨Nat.zero_le _, Nat.zero_le _⟩
  · rename_i h1 h2 h3
    have hk : n.toNat - 1 < g.recs.length := by omega
    have e : g.recs.getD (n.toNat - 1) {} = g.recs[n.toNat - 1] := by rw [List.getD_eq_getElem?_getD, List.getElem?_eq_getElem hk]; rfl
    obtain ⟨a, b⟩ := chk_short (hok.r _ hk).1
    show (g.recs.getD (n.toNat - 1) {}).live.length ≤ 1000 ∧ (g.recs.getD (n.toNat - 1) {}).dirty.length ≤ 1000
    rw [e]
    exact ⟨by omega, by omega⟩
set_option maxRecDepth 100000 in
set_option maxHeartbeats 4000000 in
theorem tells_c {w : World} {ow : Nat → Nat} {t u wb p r lb mb f c : Nat} {g : Lg} {R : Po} (hb : Blk w wb (wcs p r (some ⟨lb, 0, none⟩) (some ⟨mb, 0, none⟩) f c) T_quotalaw06_World) (hL : LG w ow t lb p g) (hM : MG w ow u mb r g) (h : ∀ w', Kp no w w' → R (.returned (.bool true)) w') :
    GoC Tryz.prog F_law06_World_tells #[.pointer (some ⟨wb, 0, none⟩)] w R := by
  refine S_law06_World_tells ?_
  unfold W_law06_World_tells
  have hok := hL.ok
  have okn := hok.n
  have okc := hok.c
  refine NilF.intro rfl ⟨_, cN hb rfl, cond_f rfl ?_⟩
  have kd : Kp no w w.drew := Kp.drew w 1
  have L1 := hL.kp0 kd
  have M1 := hM.kp0 kd
  have hbd := kd.blk hb id
  let S : World → Prop := fun w' => Blk w' wb (wcs p r (some ⟨lb, 0, none⟩) (some ⟨mb, 0, none⟩) f c) T_quotalaw06_World ∧ MG w' ow u mb r g
  have x2 : ∀ w', S w' → w'.cell? (Addr.add ⟨wb, 0, none⟩ 2) = some (.pointer (some ⟨lb, 0, none⟩)) := fun w' hb => cN hb.1 rfl
  have x3 : ∀ w', S w' → w'.cell? (Addr.add ⟨wb, 0, none⟩ 3) = some (.pointer (some ⟨mb, 0, none⟩)) := fun w' hb => cN hb.1 rfl
  have Sd : S w.drew := ⟨hbd, M1⟩
  refine ⟨S, Sd, NilF.intro rfl ⟨_, x2, NilF.intro rfl ⟨_, x3, forced_c L1 ⟨_, rfl, Sd, rforced_c M1 ⟨_, rfl, Sd, cond_f (by simp) ?_⟩⟩⟩⟩⟩
  refine NilF.intro rfl ⟨_, x2, NilF.intro rfl ⟨_, x3, last_c L1 ⟨_, rfl, Sd, rlast_c M1 ⟨_, rfl, Sd, cond_f (by simp) ?_⟩⟩⟩⟩
  refine NilF.intro rfl ⟨_, x2, NilF.intro rfl ⟨_, x3, free_c L1 fun w3 k3 => ⟨_, rfl, ⟨k3.blk hbd id, M1.kp0 k3⟩, rfree_c (M1.kp0 k3) fun w4 k4 => ⟨_, rfl, ⟨(k3.trans0 k4).blk hbd id, M1.kp0 (k3.trans0 k4)⟩, cond_f (by simp) ?_⟩⟩⟩⟩
  have k34 := k3.trans0 k4
  have L4 := L1.kp0 k34
  have S4 : S w4 := ⟨k34.blk hbd id, M1.kp0 k34⟩
  refine NilF.intro rfl ⟨_, x2, NilF.intro rfl ⟨_, x3, NilF.intro rfl ⟨_, _, _, fun w' hw => ⟨hw.2.end_.1, hw.2.end_.2.1, hw.2.end_.2.2, trivial⟩, lerr_c L4 fun ev hev _ => ⟨_, rfl, S4, ?_⟩⟩⟩⟩
  refine is_c hev (fun hne => ⟨by unfold endS; rw [if_neg (by omega)], rfl⟩) fun w5 k5 => ⟨_, rfl, ⟨k5.blk S4.1 id, S4.2.kp0 k5⟩, cond_f rfl ?_⟩
  have k05 := (kd.trans0 k34).trans0 k5
  refine loopN (fun s w' => Kp no w5 w' ∧ ∃ k : Nat, k ≤ g.recs.length ∧ s.1 = ((k + 1 : Nat) : Int)) (fun s _ => g.recs.length + 1 - s.1.toNat) ⟨Kp.refl _ _, 0, by omega, rfl⟩ ?_
  rintro ⟨k0, u0⟩ w6 ⟨k6, k, hk, hk0⟩ _
  dsimp only at hk0 ⊢
  subst hk0
  have k06 := k05.trans0 k6
  have b6 := k06.blk hb id
  have L6 := hL.kp0 k06
  have M6 := hM.kp0 k06
  refine NilF.intro rfl ⟨_, cN b6 rfl, rlast_c M6 ⟨_, rfl, cond_d (fun hle => ?_) (fun hgt => h w6 k06)⟩⟩
  have wi : IntKind.wrap .i64 (((k + 1 : Nat) : Int) + 1) = ((k + 1 + 1 : Nat) : Int) := by rw [wrap_i64 (by omega) (by omega)]; omega
  rw [wi]
  refine NilF.intro rfl ⟨_, cN b6 rfl, lget_c L6 ⟨by omega, by omega⟩ fun m w7 k7 o7 => ⟨_, _, _, _, _, _, _, _, _, _, _, _, _, _, _, _, _, _, _, _, _, _, rfl, ?_⟩⟩
  refine rec_cp (getG g ((k + 1 : Nat) : Int)).1 m fun b1 w8 h8 => ?_
  have k08 := (k06.trans0 k7).trans0 h8.kp
  have b8 := k08.blk hb id
  refine NilF.intro rfl ⟨_, cN b8 rfl, rget_c (hM.kp0 k08) ⟨by omega, by omega⟩ fun m' w9 k9 o9 => ⟨_, _, _, _, _, _, _, _, _, _, _, _, _, _, _, _, _, _, _, _, _, _, rfl, ?_⟩⟩
  refine rec_cp (getG g ((k + 1 : Nat) : Int)).1 m' fun b2 w10 h10 => num_c ⟨_, rfl, cond_f (by simp) ?_⟩
  have k810 := k9.trans0 h10.kp
  have h8' := k810.blk h8.blk id
  obtain ⟨s1, s2⟩ := getG_short hok ((k + 1 : Nat) : Int)
  have li1 : LiIn w10 m (getG g ((k + 1 : Nat) : Int)).1.live (getG g ((k + 1 : Nat) : Int)).1.dirty := ⟨(o7.l.rd.kp0 h8.kp).kp0 k810, o7.ll.symm, by rw [o7.ll]; omega, (o7.d.rd.kp0 h8.kp).kp0 k810, o7.dl.symm, by rw [o7.dl]; omega⟩
  have li2 : LiIn w10 m' (getG g ((k + 1 : Nat) : Int)).1.live (getG g ((k + 1 : Nat) : Int)).1.dirty := ⟨o9.l.rd.kp0 h10.kp, o9.ll.symm, by rw [o9.ll]; omega, o9.d.rd.kp0 h10.kp, o9.dl.symm, by rw [o9.dl]; omega⟩
  refine rec_rd h8' (rec_rd h10.blk (rsame_c li1 li2 fun w11 k11 => ⟨_, rfl, cond_f (by simp) ⟨⟨((k6.trans0 k7).trans0 h8.kp).trans0 (k810.trans0 k11), k + 1, by omega, rfl⟩, ?_⟩⟩))
  show g.recs.length + 1 - (((k + 1 + 1 : Nat) : Int)).toNat < g.recs.length + 1 - (((k + 1 : Nat) : Int)).toNat
  simp only [Int.toNat_natCast]
  omega
theorem Dv.write_n {v : Dv} (h : v.Ok) (i : Int) (b : List UInt8) : (v.write i b).2.n = v.n := by
  unfold Dv.write
  split
  · rfl
  split
  · rfl
  rename_i hi
  split
  · rfl
  rename_i hb
  split
  · have ha := h.bump.add (i := i) (b := b) (Decidable.not_not.1 hi) (Decidable.not_not.1 hb)
    exact Dv.n_of (fallL_len _ _ _ v.n _ 0 v.img h.len ha.q)
  · rfl
theorem Dv.crash_n {v : Dv} (h : v.Ok) (keep : List Nat) (torn off : Int) : (v.crash keep torn off).2.n = v.n := by
  unfold Dv.crash
  split
  · rfl
  · exact Dv.n_of (fallL_len _ _ _ v.n _ 0 v.img h.len h.q)
theorem Dv.arm_n {v : Dv} (s : Int) (keep : List Nat) (torn off : Int) : (v.arm s keep torn off).2.n = v.n := by
  unfold Dv.arm
  repeat' split
  all_goals rfl
theorem wipeL_n : ∀ (l : List (List UInt8)) {v : Dv} (i : Int) (q : Bool), v.Ok → (wipeL v i l q).2.n = v.n
  | [], v, i, q, h => by
    rw [wipeL]
    split
    · exact sync_n h
    · rfl
  | s :: r, v, i, q, h => by
    rw [wipeL]
    split
    · exact wipeL_n r _ _ h
    split
    · exact Dv.write_n h _ _
    · rw [wipeL_n r _ _ (h.write i zer512), Dv.write_n h]
theorem openR_n {v : Dv} (h : v.Ok) (f c : Int) : (openR v f c).2.1.n = v.n := by
  obtain ⟨a, b⟩ := syncQ_ok h
  unfold openR
  split
  · rfl
  split
  · rfl
  split
  · exact b
  unfold openS
  split
  · exact b
  split
  · exact (wipeL_n _ _ _ a).trans b
  · exact (wipeL_n _ _ _ a).trans b
theorem openR_sm {v : Dv} {m : Nat} (h : v.Sm m) (f : Int) {c : Nat} : (openR v f (c : Int)).2.1.Sm (m + c) := by
  have hq : (syncQ v).2.Sm m := by
    unfold syncQ
    split
    · exact Dv.sync_sm h
    · exact h
  have hw : ∀ f', (wipeS (syncQ v).2 f' c).2.Sm (m + c) := fun f' => by
    unfold wipeS
    refine (wipeL_sm _ hq).mono ?_
    rw [List.length_drop, secsOf_len]
    omega
  unfold openR
  split
  · exact h.mono (by omega)
  split
  · exact h.mono (by omega)
  split
  · exact hq.mono (by omega)
  unfold openS
  rw [Int.toNat_natCast]
  split
  · exact hq.mono (by omega)
  split
  · exact hw _
  · exact hw _
theorem frcR_n {v : Dv} (h : v.Ok) (g : Lg) (n : Int) : (frcR v g n).2.1.n = v.n := by
  unfold frcR
  repeat' split
  all_goals first | rfl | exact putL_n _ _ h
theorem frcR_sm {v : Dv} {m : Nat} (h : v.Sm m) {g : Lg} (hg : g.recs.length ≤ 12) (n : Int) : (frcR v g n).2.1.Sm (m + 12) := by
  have hp : ∀ k, (frcP v g k).2.Sm (m + 12) := fun k => by
    unfold frcP frcL
    refine (putL_sm _ h).mono ?_
    rw [secL_len, List.length_take, List.length_drop]
    omega
  unfold frcR
  repeat' split
  all_goals first | exact h.mono (by omega) | exact hp _
theorem To.mk {t u : Nat} (h : u ≠ t ∧ u ≠ t + 1 ∧ u ≠ t + 2 ∧ u ≠ t + 20 ∧ u ≠ t + 21 ∧ u ≠ t + 28) : To t u := ⟨⟨h.1, h.2.1, h.2.2.1⟩, h.2.2.2.1, h.2.2.2.2.1, h.2.2.2.2.2⟩
structure Ex (W w : World) (ow : Nat → Nat) (wb p r f c : Nat) (v : Dv) (o : Option (Nat × Nat × Lg)) (m : Nat) : Prop where
  bk : Blk w wb (wcs p r (o.map fun x => ⟨x.1, 0, none⟩) (o.map fun x => ⟨x.2.1, 0, none⟩) f c) T_quotalaw06_World
  tw : ow wb = 8
  dd : DX w ow 10 p v
  rr : RX w ow 40 r v
  lg : ∀ x, o = some x → LG w ow 10 x.1 p x.2.2 ∧ MG w ow 40 x.2.1 r x.2.2 ∧ x.2.2.first = f ∧ x.2.2.count = c
  o : Old W w ow
  n : f + c ≤ v.n
  c1 : 1 ≤ c
  c12 : c ≤ 12
  f3 : f ≤ 3
  sm : v.Sm m
def OX (u : Nat) : Prop := u = 0 ∨ (8 ≤ u ∧ u ≤ 62 ∧ u ≠ 9)
theorem Ex.fr {T : Nat → Prop} {W w w' : World} {ow ow' : Nat → Nat} {wb p r f c m : Nat} {v : Dv} {o : Option (Nat × Nat × Lg)} (h : Ex W w ow wb p r f c v o m) (fr : Fro T w ow w' ow') (hT : ∀ u, OX u → T u) : Ex W w' ow' wb p r f c v o m := by
  have q : ∀ u, 10 ≤ u → u ≤ 62 → T u := fun u h1 h2 => hT u (.inr ⟨by omega, by omega, by omega⟩)
  obtain ⟨a, b⟩ := blk_fr h.bk h.tw fr (hT 8 (.inr ⟨by omega, by omega, by omega⟩))
  refine ⟨a, b, h.dd.fr fr (q _ (by omega) (by omega)) (q _ (by omega) (by omega)) (q _ (by omega) (by omega)) (q _ (by omega) (by omega)), h.rr.fr fr (q _ (by omega) (by omega)) (q _ (by omega) (by omega)) (q _ (by omega) (by omega)) (q _ (by omega) (by omega)), fun x hx => ?_, h.o.fr fr (hT 0 (.inl rfl)), h.n, h.c1, h.c12, h.f3, h.sm⟩
  obtain ⟨l1, l2, l3⟩ := h.lg x hx
  exact ⟨l1.fr fr (q _ (by omega) (by omega)) (q _ (by omega) (by omega)) (q _ (by omega) (by omega)) (q _ (by omega) (by omega)) (q _ (by omega) (by omega)), l2.fr fr (q _ (by omega) (by omega)) (q _ (by omega) (by omega)) (q _ (by omega) (by omega)), l3⟩
theorem Ex.kp0 {W w w' : World} {ow : Nat → Nat} {wb p r f c m : Nat} {v : Dv} {o : Option (Nat × Nat × Lg)} (h : Ex W w ow wb p r f c v o m) (k : Kp no w w') : Ex W w' ow wb p r f c v o m := h.fr (Fro.kp0 k) fun _ _ => trivial
theorem Ex.mono {W w : World} {ow : Nat → Nat} {wb p r f c m m' : Nat} {v : Dv} {o : Option (Nat × Nat × Lg)} (h : Ex W w ow wb p r f c v o m) (hm : m ≤ m') : Ex W w ow wb p r f c v o m' := ⟨h.bk, h.tw, h.dd, h.rr, h.lg, h.o, h.n, h.c1, h.c12, h.f3, h.sm.mono hm⟩
abbrev T7 : Nat → Prop := fun u => 1 ≤ u ∧ u ≤ 7
section
variable {R : Po}
theorem open_u {w : World} {ow : Nat → Nat} {t db : Nat} {v : Dv} {f c : Int} (hd : DX w ow t db v) (hs : v.Sm 600000) (hf : i64 f) (hc : i64 c)
    (hK : ∀ p e w' ow', DX w' ow' t db (openR v f c).2.1 → Fro (To t) w ow w' ow' → ErrV w' e zOp ((openR v f c).1.1 : Int) ((openR v f c).1.2 : Int) → ErrO ow' (t + 24) e → ((openR v f c).1.2 ≠ 0 → p = none) →
      ((openR v f c).1.2 = 0 → ∃ lb, p = some (⟨lb, 0, none⟩ : Addr) ∧ LG w' ow' t lb db ⟨f.toNat, c.toNat, (openR v f c).2.2, (openR v f c).2.2.length, 0⟩) → R (.returned (.tuple #[.pointer p, e])) w') :
    GoC Tryz.prog F_log_Open #[.pointer (some ⟨db, 0, none⟩), .int .i64 f, .int .i64 c] w R :=
  open_cO hd hs hf hc (fun hne e w' ow' D F ev ef eo => hK none e w' ow' D F ev eo (fun _ => rfl) (fun h => absurd h hne)) fun h0 lb w' ow' D L F _ => hK _ _ w' ow' D F (.inl ⟨by omega, rfl⟩) (ErrO.nil _ _) (fun h => absurd h0 h) (fun _ => ⟨lb, rfl, L⟩)
set_option maxRecDepth 100000 in
set_option maxHeartbeats 8000000 in
theorem opens_c {W w : World} {ow : Nat → Nat} {wb p r f c m : Nat} {v : Dv} {o : Option (Nat × Nat × Lg)} (E : Ex W w ow wb p r f c v o m) (hm : m ≤ 500000)
    (hK : ∀ w' ow' v' o', Ex W w' ow' wb p r f c v' o' (m + 12) → Fro T7 w ow w' ow' → v' = (openR v f c).2.1 → ((openR v f c).1.2 = 0 → o' ≠ none) → R (.returned (.bool true)) w') :
    GoC Tryz.prog F_law06_World_opens #[.pointer (some ⟨wb, 0, none⟩)] w R := by
  refine S_law06_World_opens ?_
  unfold W_law06_World_opens
  have hf3 := E.f3
  have hc1 := E.c1
  have hc12 := E.c12
  have vn := openR_n E.dd.ok (f : Int) (c : Int)
  have vsm := openR_sm E.sm (f : Int) (c := c)
  have en := E.n
  have kd : Kp no w w.drew := Kp.drew w 1
  have E1 := E.kp0 kd
  obtain ⟨l, hl⟩ : ∃ l, l = (o.map fun x => (⟨x.1, 0, none⟩ : Addr)) := ⟨_, rfl⟩
  obtain ⟨mm, hmm⟩ : ∃ l, l = (o.map fun x => (⟨x.2.1, 0, none⟩ : Addr)) := ⟨_, rfl⟩
  have wb1 := E1.bk
  rw [← hl, ← hmm] at wb1
  have F0 : Fro (fun _ => True) w ow w.drew ow := Fro.kp0 kd
  refine ⟨fun w' => Blk w' wb (wcs p r l mm f c) T_quotalaw06_World, wb1, NilF.intro rfl ⟨_, fun w' hw => c0 hw rfl, NilF.intro rfl ⟨_, fun w' hw => cN hw rfl, NilF.intro rfl ⟨_, fun w' hw => cN hw rfl, ?_⟩⟩⟩⟩
  refine open_u (t := 10) E1.dd (E1.sm.mono (by omega)) ⟨by omega, by omega⟩ ⟨by omega, by omega⟩ fun p3 ev w1 ow1 D1 F1 ev1 eo1 h30 h31 => ⟨_, _, rfl, ?_⟩
  obtain ⟨wb1, tw1⟩ := blk_fr wb1 E1.tw F1 (To.mk (by omega))
  have R1 := E1.rr.fr F1 (To.mk (by omega)) (To.mk (by omega)) (To.mk (by omega)) (To.mk (by omega))
  have O1 := E1.o.fr F1 (To.mk (by omega))
  have F01 : Fro T7 w ow w1 ow1 := (F0.mono fun _ _ => trivial).trans (F1.mono fun u hu => To.mk (by have := hu.1; have := hu.2; omega))
  refine ⟨wb1, ?_⟩
  have kd1 : Kp no w1 w1.drew := Kp.drew w1 1
  have fd1 : Fro (fun _ => True) w1 ow1 w1.drew ow1 := Fro.kp0 kd1
  have D2 := D1.kp0 kd1
  have R2 := R1.kp0 kd1
  have wb2 := kd1.blk wb1 id
  have O2 := O1.fr fd1 trivial
  obtain ⟨ev2, eo2⟩ := ev1.fr eo1 fd1 trivial
  have F02 := F01.trans (fd1.mono fun _ _ => trivial)
  have h31 := fun h => (h31 h).imp fun lb hlb => And.intro hlb.1 (hlb.2.kp0 kd1)
  clear D1 R1 O1 ev1 eo1 F01 wb1 E1
  unfold HeldF
  generalize w1.drew = w2 at *
  -- both have answered
  have tail : ∀ (w6 : World) (ow6 : Nat → Nat) (b : Nat) (p5 : Option Addr) (z : ByteArray), Blk w6 wb (wcs p r l mm f c) T_quotalaw06_World → ow6 wb = 8 → Blk w6 b #[.string z, .int .i64 ((openR v f c).1.1 : Int), .int .i64 ((openR v f c).1.2 : Int)] T_quotaref06_Fault → ow6 b = 9 →
      DX w6 ow6 10 p (openR v f c).2.1 → RX w6 ow6 40 r (openR v f c).2.1 → ErrV w6 ev zOp ((openR v f c).1.1 : Int) ((openR v f c).1.2 : Int) → ErrO ow6 34 ev → Old W w6 ow6 → Fro T7 w ow w6 ow6 → ((openR v f c).1.2 ≠ 0 → z = zOp ∧ p5 = none) →
      ((openR v f c).1.2 = 0 → ∃ mb, p5 = some (⟨mb, 0, none⟩ : Addr) ∧ MG w6 ow6 40 mb r ⟨f, c, (openR v f c).2.2, (openR v f c).2.2.length, 0⟩) → ((openR v f c).1.2 = 0 → ∃ lb, p3 = some (⟨lb, 0, none⟩ : Addr) ∧ LG w6 ow6 10 lb p ⟨f, c, (openR v f c).2.2, (openR v f c).2.2.length, 0⟩) →
      NilF (some ⟨wb, 0, none⟩) fun d7 => (StF w6 (Addr.add d7 2) (.pointer p3) fun w7 => (NilF (some ⟨wb, 0, none⟩) fun d8 => (StF w7 (Addr.add d8 3) (.pointer p5) fun w8 => (∃ (z2 : ByteArray) (n7 : Int) (n8 : Int), (w8.cell? ⟨b, 0, none⟩ = some (.string z2) ∧ w8.cell? (Addr.add ⟨b, 0, none⟩ 1) = some (.int .i64 n7) ∧ w8.cell? (Addr.add ⟨b, 0, none⟩ 2) = some (.int .i64 n8) ∧ True) ∧ (CallF Tryz.prog F_law06_is #[ev, (.agg #[(.string z2), (.int .i64 n7), (.int .i64 n8)])] w8 (fun r3 w9 => ∃ (q1 : Bool), r3 = (.bool q1) ∧ (cond q1 (cond ((!(Option.isNone p3)) == (!(Option.isNone p5))) (CallF Tryz.prog F_law06_World_disks #[(.pointer (some ⟨wb, 0, none⟩))] w9 (fun r4 w10 => ∃ (q2 : Bool), r4 = (.bool q2) ∧ (R (.returned (.bool q2)) w10)) (PanF R)) (R (.returned (.bool false)) w9)) (R (.returned (.bool false)) w9))) (PanF R)))))) := fun w6 ow6 b p5 z wb6 tw6 hb6 tb6 D6 R6 ev6 eo6 O6 F6 g1 g2 g3 => by
    refine NilF.intro rfl (StF.at (add1 _ _) wb6 (Nat.le_of_ble_eq_true rfl) fun w7 wb7 k7 _ => NilF.intro rfl (StF.at (add1 _ _) wb7 (Nat.le_of_ble_eq_true rfl) fun w8 wb8 k8 _ => ?_))
    have k78 := k7.trans0 k8
    have f8 : Fro (fun u => u ≠ 8) w6 ow6 w8 ow6 := Fro.of_kp' k78 fun j _ hj hne => hne (by rw [hj]; exact tw6)
    have wb8 : Blk w8 wb (wcs p r p3 p5 f c) T_quotalaw06_World := wb8
    obtain ⟨hb8, tb8⟩ := blk_fr hb6 tb6 f8 (by omega)
    obtain ⟨ev8, eo8⟩ := ev6.fr eo6 f8 (by omega)
    have D8 := D6.fr f8 (by omega) (by omega) (by omega) (by omega)
    have R8 := R6.fr f8 (by omega) (by omega) (by omega) (by omega)
    have O8 := O6.fr f8 (by omega)
    have F8 : Fro T7 w ow w8 ow6 := F6.trans (f8.mono fun u hu => by have := hu.2; omega)
    refine ⟨_, _, _, ⟨hb8.at rfl rfl, hb8.at (add1 _ _) rfl, hb8.at (add1 _ _) rfl, trivial⟩, is_c ev8 (fun hne => ⟨(g1 (by omega)).1, rfl⟩) fun w9 k9 => ⟨_, rfl, ?_⟩⟩
    have f9 : Fro (fun _ => True) w8 ow6 w9 ow6 := Fro.kp0 k9
    have wb9 := k9.blk wb8 id
    have fin : ∀ o', Ex W w9 ow6 wb p r f c (openR v f c).2.1 o' (m + 12) → ((openR v f c).1.2 = 0 → o' ≠ none) → CallF Tryz.prog F_law06_World_disks #[(.pointer (some ⟨wb, 0, none⟩))] w9 (fun r4 w10 => ∃ (q2 : Bool), r4 = (.bool q2) ∧ (R (.returned (.bool q2)) w10)) (PanF R) := fun o' E9 ho => by
      refine disks_c E9.bk E9.dd E9.rr (by have := E9.sm.q; omega) fun w10 k10 => ⟨_, rfl, ?_⟩
      exact hK w10 ow6 _ o' (E9.kp0 k10) (F8.trans ((f9.trans (Fro.kp0 k10)).mono fun _ _ => trivial)) rfl ho
    by_cases h0 : (openR v f c).1.2 = 0
    · obtain ⟨mb, rfl, M6⟩ := g2 h0
      obtain ⟨lb, rfl, L6⟩ := g3 h0
      refine cond_t rfl (cond_t rfl (fin (some (lb, mb, ⟨f, c, (openR v f c).2.2, (openR v f c).2.2.length, 0⟩)) ⟨wb9, tw6, D8.kp0 k9, R8.kp0 k9, fun x hx => ?_, O8.fr f9 trivial, by rw [vn]; exact en, hc1, hc12, hf3, vsm.mono (by omega)⟩ fun _ h => by cases h))
      cases hx
      exact ⟨(L6.fr f8 (by omega) (by omega) (by omega) (by omega) (by omega)).kp0 k9, (M6.fr f8 (by omega) (by omega) (by omega)).kp0 k9, rfl, rfl⟩
    · obtain ⟨_, rfl⟩ := g1 h0
      obtain rfl := h30 h0
      exact cond_t rfl (cond_t rfl (fin none ⟨wb9, tw6, D8.kp0 k9, R8.kp0 k9, (fun x hx => by cases hx), O8.fr f9 trivial, by rw [vn]; exact en, hc1, hc12, hf3, vsm.mono (by omega)⟩ fun h => absurd h h0))
  refine ⟨fun w' => Blk w' wb (wcs p r l mm f c) T_quotalaw06_World, wb2, NilF.intro rfl ⟨_, fun w' hw => cN hw rfl, NilF.intro rfl ⟨_, fun w' hw => cN hw rfl, NilF.intro rfl ⟨_, fun w' hw => cN hw rfl, ?_, ?_⟩⟩⟩⟩
  · refine ropen_c (t := 40) R2 (E.sm.mono (by omega)) ⟨by omega, by omega⟩ ⟨by omega, by omega⟩ fun p5 z w3 ow3 R3 F3 g1 g2 => ⟨_, _, _, _, rfl, ?_⟩
    obtain ⟨wb3, tw3⟩ := blk_fr wb2 tw1 F3 (To.mk (by omega))
    have D3 := D2.fr F3 (To.mk (by omega)) (To.mk (by omega)) (To.mk (by omega)) (To.mk (by omega))
    have O3 := O2.fr F3 (To.mk (by omega))
    obtain ⟨ev3, eo3⟩ := ev2.fr eo2 F3 (To.mk (by omega))
    have F03 : Fro T7 w ow w3 ow3 := F02.trans (F3.mono fun u hu => To.mk (by have := hu.1; have := hu.2; omega))
    have L3 := fun h => (h31 h).imp fun lb hlb => And.intro hlb.1 (hlb.2.fr F3 (To.mk (by omega)) (To.mk (by omega)) (To.mk (by omega)) (To.mk (by omega)) (To.mk (by omega)))
    refine ⟨wb3, AlF.intro fun b w4 hbe hb4 k4 _ => ?_⟩
    have f4 : Fro (fun _ => True) w3 ow3 w4 (ext ow3 w3.heap.size 9) := Fro.of_kp0 9 k4
    have tb4 : ext ow3 w3.heap.size 9 b = 9 := ext_new (by omega)
    obtain ⟨wb4, tw4⟩ := blk_fr wb3 tw3 f4 trivial
    have nb : b ≠ wb := by have := wb3.lt; omega
    refine ⟨wb4, StF.at rfl hb4 (Nat.le_of_ble_eq_true rfl) fun w5 hb5 k5 _ => StF.at (add1 _ _) hb5 (Nat.le_of_ble_eq_true rfl) fun w6 hb6 k6 _ => StF.at (add1 _ _) hb6 (Nat.le_of_ble_eq_true rfl) fun w7 hb7 k7 _ => ?_⟩
    have k37 := kp_blk k4 (by omega) ((k5.trans0 k6).trans0 k7)
    have f7 : Fro (fun _ => True) w3 ow3 w7 (ext ow3 w3.heap.size 9) := Fro.of_kp0 9 k37
    obtain ⟨wb7, tw7⟩ := blk_fr wb3 tw3 f7 trivial
    obtain ⟨ev7, eo7⟩ := ev3.fr eo3 f7 trivial
    exact ⟨wb7, tail w7 _ b p5 z wb7 tw7 hb7 tb4 (D3.fr f7 trivial trivial trivial trivial) (R3.fr f7 trivial trivial trivial trivial) ev7 eo7 (O3.fr f7 trivial) (F03.trans (f7.mono fun _ _ => trivial)) g1 (fun h => (g2 h).imp fun mb hmb => ⟨hmb.1, hmb.2.fr f7 trivial trivial trivial⟩) (fun h => (L3 h).imp fun lb hlb => ⟨hlb.1, hlb.2.fr f7 trivial trivial trivial trivial trivial⟩)⟩
  · refine AlF.intro fun b w4 hbe hb4 k4 _ => ?_
    have f4 : Fro (fun _ => True) w2 ow1 w4 (ext ow1 w2.heap.size 9) := Fro.of_kp0 9 k4
    have tb4 : ext ow1 w2.heap.size 9 b = 9 := ext_new (by omega)
    obtain ⟨wb4, tw4⟩ := blk_fr wb2 tw1 f4 trivial
    have D4 := D2.fr f4 trivial trivial trivial trivial
    have R4 := R2.fr f4 trivial trivial trivial trivial
    have O4 := O2.fr f4 trivial
    obtain ⟨ev4, eo4⟩ := ev2.fr eo2 f4 trivial
    have F04 : Fro T7 w ow w4 _ := F02.trans (f4.mono fun _ _ => trivial)
    have L4 := fun h => (h31 h).imp fun lb hlb => And.intro hlb.1 (hlb.2.fr f4 trivial trivial trivial trivial trivial)
    generalize ext ow1 w2.heap.size 9 = ow4 at *
    refine ⟨wb4, ropen_c (t := 40) R4 (E.sm.mono (by omega)) ⟨by omega, by omega⟩ ⟨by omega, by omega⟩ fun p5 z w5 ow5 R5 F5 g1 g2 => ⟨_, _, _, _, rfl, ?_⟩⟩
    obtain ⟨wb5, tw5⟩ := blk_fr wb4 tw4 F5 (To.mk (by omega))
    obtain ⟨hb5, tb5⟩ := blk_fr hb4 tb4 F5 (To.mk (by omega))
    have D5 := D4.fr F5 (To.mk (by omega)) (To.mk (by omega)) (To.mk (by omega)) (To.mk (by omega))
    have O5 := O4.fr F5 (To.mk (by omega))
    obtain ⟨ev5, eo5⟩ := ev4.fr eo4 F5 (To.mk (by omega))
    have F05 : Fro T7 w ow w5 ow5 := F04.trans (F5.mono fun u hu => To.mk (by have := hu.1; have := hu.2; omega))
    have L5 := fun h => (L4 h).imp fun lb hlb => And.intro hlb.1 (hlb.2.fr F5 (To.mk (by omega)) (To.mk (by omega)) (To.mk (by omega)) (To.mk (by omega)) (To.mk (by omega)))
    refine ⟨wb5, StF.at rfl hb5 (Nat.le_of_ble_eq_true rfl) fun w6 hb6 k6 _ => StF.at (add1 _ _) hb6 (Nat.le_of_ble_eq_true rfl) fun w7 hb7 k7 _ => StF.at (add1 _ _) hb7 (Nat.le_of_ble_eq_true rfl) fun w8 hb8 k8 _ => ?_⟩
    have f8 : Fro (fun u => u ≠ 9) w5 ow5 w8 ow5 := Fro.of_kp' ((k6.trans0 k7).trans0 k8) fun j _ hj hne => hne (by rw [hj]; exact tb5)
    obtain ⟨wb8, tw8⟩ := blk_fr wb5 tw5 f8 (by omega)
    obtain ⟨ev8, eo8⟩ := ev5.fr eo5 f8 (by omega)
    exact ⟨wb8, tail w8 ow5 b p5 z wb8 tw8 hb8 tb5 (D5.fr f8 (by omega) (by omega) (by omega) (by omega)) (R5.fr f8 (by omega) (by omega) (by omega) (by omega)) ev8 eo8 (O5.fr f8 (by omega)) (F05.trans (f8.mono fun u hu => by have := hu.2; omega)) g1 (fun h => (g2 h).imp fun mb hmb => ⟨hmb.1, hmb.2.fr f8 (by omega) (by omega) (by omega)⟩) (fun h => (L5 h).imp fun lb hlb => ⟨hlb.1, hlb.2.fr f8 (by omega) (by omega) (by omega) (by omega) (by omega)⟩)⟩
end
section
open Go Go.RowKit Go.ChangeShapes Go.WideShapes
structure Ey (W w : World) (ow : Nat → Nat) (wb p r f c : Nat) (o : Option (Nat × Nat × Lg)) : Prop where
  bk : Blk w wb (wcs p r (o.map fun x => ⟨x.1, 0, none⟩) (o.map fun x => ⟨x.2.1, 0, none⟩) f c) T_quotalaw06_World
  tw : ow wb = 8
  lg : ∀ x, o = some x → LG w ow 10 x.1 p x.2.2 ∧ MG w ow 40 x.2.1 r x.2.2 ∧ x.2.2.first = f ∧ x.2.2.count = c
  o : Old W w ow
def OY (u : Nat) : Prop := u = 0 ∨ u = 8 ∨ (30 ≤ u ∧ u ≤ 34) ∨ (60 ≤ u ∧ u ≤ 62)
theorem Ey.fr {T : Nat → Prop} {W w w' : World} {ow ow' : Nat → Nat} {wb p r f c : Nat} {o : Option (Nat × Nat × Lg)} (h : Ey W w ow wb p r f c o) (fr : Fro T w ow w' ow') (hT : ∀ u, OY u → T u) : Ey W w' ow' wb p r f c o := by
  have q : ∀ u, 30 ≤ u → u ≤ 34 → T u := fun u h1 h2 => hT u (.inr (.inr (.inl ⟨h1, h2⟩)))
  have q' : ∀ u, 60 ≤ u → u ≤ 62 → T u := fun u h1 h2 => hT u (.inr (.inr (.inr ⟨h1, h2⟩)))
  obtain ⟨a, b⟩ := blk_fr h.bk h.tw fr (hT 8 (.inr (.inl rfl)))
  refine ⟨a, b, fun x hx => ?_, h.o.fr fr (hT 0 (.inl rfl))⟩
  obtain ⟨l1, l2, l3⟩ := h.lg x hx
  exact ⟨l1.fr fr (q _ (by omega) (by omega)) (q _ (by omega) (by omega)) (q _ (by omega) (by omega)) (q _ (by omega) (by omega)) (q _ (by omega) (by omega)), l2.fr fr (q' _ (by omega) (by omega)) (q' _ (by omega) (by omega)) (q' _ (by omega) (by omega)), l3⟩
theorem Ex.y {W w : World} {ow : Nat → Nat} {wb p r f c m : Nat} {v : Dv} {o : Option (Nat × Nat × Lg)} (h : Ex W w ow wb p r f c v o m) : Ey W w ow wb p r f c o := ⟨h.bk, h.tw, h.lg, h.o⟩
theorem OY.td {t u : Nat} (h : OY u) (ht : t = 10 ∨ t = 40) : Td t u := by
  unfold OY at h
  exact ⟨by omega, by omega, by omega⟩
theorem Ex.st {W w0 w' : World} {ow0 ow' : Nat → Nat} {wb p r f c m m' : Nat} {v v' : Dv} {o : Option (Nat × Nat × Lg)} (h : Ex W w0 ow0 wb p r f c v o m) (y : Ey W w' ow' wb p r f c o) (d : DX w' ow' 10 p v') (rr : RX w' ow' 40 r v') (hn : v'.n = v.n) (hs : v'.Sm m') : Ex W w' ow' wb p r f c v' o m' :=
  ⟨y.bk, y.tw, d, rr, y.lg, y.o, by rw [hn]; exact h.n, h.c1, h.c12, h.f3, hs⟩
theorem T7.td {t u : Nat} (h : T7 u) (ht : t = 10 ∨ t = 40) : Td t u := ⟨by have := h.2; omega, by have := h.2; omega, by have := h.2; omega⟩
section
variable {R : Po}
set_option maxHeartbeats 2000000 in
theorem spoils_c {W w : World} {ow : Nat → Nat} {wb p r f c m : Nat} {v : Dv} {o : Option (Nat × Nat × Lg)} (E : Ex W w ow wb p r f c v o m) (hm : m ≤ 500000) {i : Int} {a : Option Addr} {cc : Nat} {bs : List UInt8} (hB : RdT w ow (fun u => u = 106) a (bvs bs)) (hl : bs.length = 512) (ha : a ≠ none)
    (hK : ∀ w' ow' v', Ex W w' ow' wb p r f c v' o (m + 1) → Fro T7 w ow w' ow' → R (.returned (.tuple #[])) w') :
    GoC Tryz.prog F_law06_World_spoils #[.pointer (some ⟨wb, 0, none⟩), .int .i64 i, .slice a 512 cc] w R := by
  refine S_law06_World_spoils ?_
  unfold W_law06_World_spoils
  have sm1 := Dv.write_sm (i := i) (b := bs) E.sm
  have q1 := E.sm.q
  have q2 := sm1.q
  have hBs : ∀ {t : Nat}, t = 10 ∨ t = 40 → ∀ {w' : World} {ow' : Nat → Nat}, RdT w' ow' (fun u => u = 106) a (bvs bs) → Bs w' ow' t a bs := fun ht w' ow' h => ⟨h.mono fun u hu => ⟨by omega, by omega, by omega⟩, by omega, fun hh => absurd hh ha⟩
  refine NilF.intro rfl ⟨_, c0 E.bk rfl, write_l hl E.dd (hBs (.inl rfl) hB) (by omega) E.sm.k fun w1 ow1 D1 f1 => ⟨_, rfl, ?_⟩⟩
  have y1 := E.y.fr f1 fun u hu => hu.td (.inl rfl)
  have R1 := E.rr.fr f1 ⟨by omega, by omega, by omega⟩ ⟨by omega, by omega, by omega⟩ ⟨by omega, by omega, by omega⟩ ⟨by omega, by omega, by omega⟩
  have B1 := hB.fr f1 fun u hu => by rw [hu]; exact ⟨by omega, by omega, by omega⟩
  refine NilF.intro rfl ⟨_, cN y1.bk rfl, rwrite_c R1 (hBs (.inr rfl) B1) hl (by omega) E.sm.k fun w2 ow2 R2 f2 => ⟨_, rfl, ?_⟩⟩
  have y2 := y1.fr f2 fun u hu => hu.td (.inr rfl)
  have D2 := D1.fr f2 ⟨by omega, by omega, by omega⟩ ⟨by omega, by omega, by omega⟩ ⟨by omega, by omega, by omega⟩ ⟨by omega, by omega, by omega⟩
  refine NilF.intro rfl ⟨_, c0 y2.bk rfl, sync_c D2 (by omega) sm1.k fun w3 ow3 D3 f3 => ⟨_, rfl, ?_⟩⟩
  have y3 := y2.fr f3 fun u hu => hu.td (.inl rfl)
  have R3 := R2.fr f3 ⟨by omega, by omega, by omega⟩ ⟨by omega, by omega, by omega⟩ ⟨by omega, by omega, by omega⟩ ⟨by omega, by omega, by omega⟩
  refine NilF.intro rfl ⟨_, cN y3.bk rfl, rsync_c R3 (by omega) sm1.k fun w4 ow4 R4 f4 => ⟨_, rfl, ?_⟩⟩
  have y4 := y3.fr f4 fun u hu => hu.td (.inr rfl)
  have D4 := D3.fr f4 ⟨by omega, by omega, by omega⟩ ⟨by omega, by omega, by omega⟩ ⟨by omega, by omega, by omega⟩ ⟨by omega, by omega, by omega⟩
  refine hK w4 ow4 _ (E.st y4 D4 R4 ?_ (Dv.sync_sm sm1)) ((((f1.mono fun u hu => hu.td (.inl rfl)).trans (f2.mono fun u hu => hu.td (.inr rfl))).trans (f3.mono fun u hu => hu.td (.inl rfl))).trans (f4.mono fun u hu => hu.td (.inr rfl)))
  rw [sync_n (E.dd.ok.write i bs), Dv.write_n E.dd.ok]
end
structure Op6 where
  kind : Int
  R : RV
  M : Mm
  made : Bool
  N : Int
  fill : Int
  la : Option Addr
  keep : List Nat
  lc : Nat
  torn : Int
  off : Int
def Op6.cs (x : Op6) : List Value := .int .i64 x.kind :: ((x.R.ca x.M).toList ++ [.bool x.made, .int .i64 x.N, .int .i64 x.fill, .slice x.la x.keep.length x.lc, .int .i64 x.torn, .int .i64 x.off])
theorem Op6.cs_len (x : Op6) : x.cs.length = 24 := rfl
def Op6.v (x : Op6) : Value := .agg x.cs.toArray
abbrev Op6.blk (x : Op6) (w : World) (b : Nat) : Prop := Blk w b x.cs.toArray T_quotalaw06_Op
structure Op6.Ok (W : World) (x : Op6) : Prop where
  r : RArg W x.R x.M
  n : i64 x.N
  fi : i64 x.fill
  l : LossOk W x.la x.keep.length x.keep x.torn x.off
theorem LossOk.ls {W w : World} {ow : Nat → Nat} {t : Nat} {a : Option Addr} {keep : List Nat} {torn off : Int} (h : LossOk W a keep.length keep torn off) (o : Old W w ow) (ht : 1 ≤ t) : Ls w ow t a keep :=
  ⟨(o.rdT h.rd).mono fun u hu => ⟨by omega, by omega, by omega⟩, h.lt, by have := h.ln; omega, h.nn⟩
theorem u8_any (x : Int) : ∃ y : UInt8, (Value.int .u8 (IntKind.wrap .u8 x)) = bv y := by
  obtain ⟨y, hy⟩ := u8_wf (wf_wrap .u8 x)
  exact ⟨y, by unfold bv; rw [hy]⟩
theorem u8_xor (a : UInt8) (x : Int) : ∃ y : UInt8, (Value.int .u8 (xorV .u8 (a.toNat : Int) (IntKind.wrap .u8 x))) = bv y := by
  obtain ⟨y, hy⟩ := u8_wf (wf_wrap .u8 x)
  rw [hy]
  have h1 := a.toNat_lt
  have h2 := y.toNat_lt
  refine ⟨a ^^^ y, ?_⟩
  rw [xorV_nat rfl (by simp only [IntKind.bits]; omega) (by simp only [IntKind.bits]; omega)]
  unfold bv
  rw [UInt8.toNat_xor]
end
section
open Go Go.RowKit Go.ChangeShapes Go.WideShapes
theorem Dv.arm_sm {v : Dv} {s torn off : Int} {keep : List Nat} {m : Nat} (h : v.Sm m) (hk : keep.length * 8 ≤ 140737488355328) : (v.arm s keep torn off).2.Sm m := by
  unfold Dv.arm
  repeat' split
  · exact h
  · exact h
  · exact ⟨h.q, hk⟩
theorem Dv.crash_sm {v : Dv} {torn off : Int} {keep : List Nat} {m : Nat} (h : v.Sm m) : (v.crash keep torn off).2.Sm m := by
  unfold Dv.crash
  split
  · exact h
  · exact ⟨by simp [Dv.fall], by simp [Dv.fall]⟩
theorem Dv.Ok.read_len {v : Dv} (hok : v.Ok) {i : Int} (h : (v.read i).2 = 0) : (v.read i).1.length = 512 := by
  unfold Dv.read at h ⊢
  split at h
  · cases h
  split at h
  · cases h
  rename_i h1 h2
  rw [if_neg h1, if_neg h2]
  have h3 : v.there i := Decidable.not_not.1 h2
  exact readL_len _ _ (fun p hp => (hok.q p hp).2.2) (sect_len hok (by have := h3.1; have := h3.2; omega))
section
variable {R : Po}
set_option maxRecDepth 100000 in
set_option maxHeartbeats 16000000 in
theorem disk_c {W w : World} {ow : Nat → Nat} {wb p r f c m : Nat} {v : Dv} {o : Option (Nat × Nat × Lg)} {x : Op6} (E : Ex W w ow wb p r f c v o m) (hm : m ≤ 500000) (hx : x.Ok W)
    (hK : ∀ w' ow' v', Ex W w' ow' wb p r f c v' o (m + 1) → Fro T7 w ow w' ow' → R (.returned (.bool true)) w') :
    GoC Tryz.prog F_law06_World_disk #[.pointer (some ⟨wb, 0, none⟩), x.v] w R := by
  refine S_law06_World_disk ?_
  unfold W_law06_World_disk
  have hf3 := E.f3
  have hc1 := E.c1
  have hc12 := E.c12
  have en := E.n
  have vok := E.dd.ok
  have n2 := vok.n2
  have n1 := vok.n1
  have kq := E.sm.k
  have qq := E.sm.q
  refine AlF.intro fun b1 w1 hb1e hb1 k1 _ => ?_
  have x1 : x.blk w1 b1 := hb1
  have f1 : Fro (fun _ => True) w ow w1 (ext ow w.heap.size 100) := Fro.of_kp0 100 k1
  have t1 : ext ow w.heap.size 100 b1 = 100 := ext_new (by omega)
  have E1 := E.fr f1 fun _ _ => trivial
  have F1 : Fro T7 w ow w1 (ext ow w.heap.size 100) := f1.mono fun _ _ => trivial
  generalize ext ow w.heap.size 100 = ow1 at *
  refine NilF.intro rfl ⟨_, cN E1.bk rfl, rsize_c E1.rr ⟨_, rfl, _, c0 x1 rfl, ?_⟩⟩
  have kd : Kp no w1 w1.drew := Kp.drew w1 1
  have Ed := E1.kp0 kd
  have xd : x.blk w1.drew b1 := kd.blk x1 id
  have Fd : Fro T7 w ow w1.drew ow1 := F1.trans ((Fro.kp0 kd).mono fun _ _ => trivial)
  let S : World → Prop := fun w' => x.blk w' b1 ∧ Blk w' wb (wcs p r (o.map fun x => ⟨x.1, 0, none⟩) (o.map fun x => ⟨x.2.1, 0, none⟩) f c) T_quotalaw06_World
  have Sd : S w1.drew := ⟨xd, Ed.bk⟩
  -- both disks have made a step
  have step2 : ∀ {w3 w4 : World} {ow3 ow4 : Nat → Nat} {v' : Dv}, Fro (Td 10) w1.drew ow1 w3 ow3 → Fro (Td 40) w3 ow3 w4 ow4 → DX w3 ow3 10 p v' → RX w4 ow4 40 r v' → v'.n = v.n → v'.Sm (m + 1) → R (.returned (.bool true)) w4 := fun {w3 w4 ow3 ow4 v'} f3 f4 D3 R4 hn hs => by
    have y3 := Ed.y.fr f3 fun u hu => hu.td (.inl rfl)
    have y4 := y3.fr f4 fun u hu => hu.td (.inr rfl)
    have D4 := D3.fr f4 ⟨by omega, by omega, by omega⟩ ⟨by omega, by omega, by omega⟩ ⟨by omega, by omega, by omega⟩ ⟨by omega, by omega, by omega⟩
    exact hK w4 ow4 v' (E.st y4 D4 R4 hn hs) ((Fd.trans (f3.mono fun u hu => hu.td (.inl rfl))).trans (f4.mono fun u hu => hu.td (.inr rfl)))
  have S3 : ∀ {w3 : World} {ow3 : Nat → Nat}, Fro (Td 10) w1.drew ow1 w3 ow3 → S w3 ∧ RX w3 ow3 40 r v ∧ ow3 b1 = 100 ∧ Ey W w3 ow3 wb p r f c o := fun {w3 ow3} f3 => by
    have y3 := Ed.y.fr f3 fun u hu => hu.td (.inl rfl)
    obtain ⟨x3, t3⟩ := blk_fr xd t1 f3 ⟨by omega, by omega, by omega⟩
    exact ⟨⟨x3, y3.bk⟩, Ed.rr.fr f3 ⟨by omega, by omega, by omega⟩ ⟨by omega, by omega, by omega⟩ ⟨by omega, by omega, by omega⟩ ⟨by omega, by omega, by omega⟩, t3, y3⟩
  have S4 : ∀ {w3 w4 : World} {ow3 ow4 : Nat → Nat}, Fro (Td 10) w1.drew ow1 w3 ow3 → Fro (Td 40) w3 ow3 w4 ow4 → S w4 := fun {w3 w4 ow3 ow4} f3 f4 => by
    obtain ⟨s3, _, t3, y3⟩ := S3 f3
    exact ⟨(blk_fr s3.1 t3 f4 ⟨by omega, by omega, by omega⟩).1, (y3.fr f4 fun u hu => hu.td (.inr rfl)).bk⟩
  have beqT : ∀ {n : Int} {w' : World}, R (.returned (.bool true)) w' → R (.returned (.bool (n == n))) w' := fun hh => by rw [beq_self_eq_true]; exact hh
  refine cond_eq (fun _ => ?_) (fun _ => cond_eq (fun _ => ?_) (fun _ => cond_eq (fun _ => ?_) (fun _ => cond_eq (fun _ => ?_) (fun _ => cond_eq (fun _ => ?_) (fun _ => ?_)))))
  · -- Arm
    refine ⟨S, Sd, NilF.intro rfl ⟨_, fun w' hw => c0 hw.2 rfl, _, fun w' hw => cN hw.1 rfl, _, _, _, _, _, fun w' hw => ⟨cN hw.1 rfl, cNM hw.1 rfl, cNM hw.1 rfl, trivial⟩, NilF.intro rfl ⟨_, fun w' hw => cN hw.2 rfl, _, fun w' hw => cN hw.1 rfl, _, _, _, _, _, fun w' hw => ⟨cN hw.1 rfl, cNM hw.1 rfl, cNM hw.1 rfl, trivial⟩, ?_⟩⟩⟩
    refine arm_c (keep := x.keep) Ed.dd (hx.l.ls Ed.o (by omega)) hx.n.2 fun w3 ow3 D3 f3 => ⟨_, rfl, ?_⟩
    obtain ⟨s3, R3, t3, y3⟩ := S3 f3
    refine ⟨s3, num_c ⟨_, rfl, s3, rarm_c (keep := x.keep) R3 (hx.l.ls y3.o (by omega)) hx.n.2 fun w4 ow4 R4 f4 => ⟨_, rfl, S4 f3 f4, beqT (step2 f3 f4 D3 R4 (Dv.arm_n _ _ _ _) ((Dv.arm_sm E.sm (by have := hx.l.ln; omega)).mono (by omega)))⟩⟩⟩
  · -- Crash
    refine ⟨S, Sd, NilF.intro rfl ⟨_, fun w' hw => c0 hw.2 rfl, _, _, _, _, _, fun w' hw => ⟨cN hw.1 rfl, cNM hw.1 rfl, cNM hw.1 rfl, trivial⟩, NilF.intro rfl ⟨_, fun w' hw => cN hw.2 rfl, _, _, _, _, _, fun w' hw => ⟨cN hw.1 rfl, cNM hw.1 rfl, cNM hw.1 rfl, trivial⟩, ?_⟩⟩⟩
    refine crash_c (keep := x.keep) Ed.dd (hx.l.ls Ed.o (by omega)) (by omega) fun w3 ow3 D3 f3 => ⟨_, rfl, ?_⟩
    obtain ⟨s3, R3, t3, y3⟩ := S3 f3
    refine ⟨s3, num_c ⟨_, rfl, s3, rcrash_c (keep := x.keep) R3 (hx.l.ls y3.o (by omega)) (by omega) fun w4 ow4 R4 f4 => ⟨_, rfl, S4 f3 f4, beqT (step2 f3 f4 D3 R4 (Dv.crash_n vok _ _ _) ((Dv.crash_sm E.sm).mono (by omega)))⟩⟩⟩
  · -- Up
    refine ⟨S, Sd, NilF.intro rfl ⟨_, fun w' hw => c0 hw.2 rfl, NilF.intro rfl ⟨_, fun w' hw => cN hw.2 rfl, up_c Ed.dd fun w3 ow3 D3 f3 => ⟨_, rfl, ?_⟩⟩⟩⟩
    obtain ⟨s3, R3, t3, y3⟩ := S3 f3
    refine ⟨s3, num_c ⟨_, rfl, s3, rup_c R3 fun w4 ow4 R4 f4 => ⟨_, rfl, S4 f3 f4, beqT (step2 f3 f4 D3 R4 rfl ⟨by show v.q.length ≤ m + 1; omega, kq⟩)⟩⟩⟩
  · -- a byte is turned
    have e1 : IntKind.wrap .i64 (((v.n : Nat) : Int) * 512) = ((v.n * 512 : Nat) : Int) := by rw [wrap_i64 (by omega) (by omega)]; omega
    rw [e1]
    refine ⟨_, cN x1 rfl, brought_c (by omega) (by omega) ⟨_, rfl, NilF.intro rfl ⟨_, cN E1.bk rfl, by decide, ?_⟩⟩⟩
    obtain ⟨k, hk⟩ := Int.eq_ofNat_of_zero_le (Int.emod_nonneg x.N (show ((v.n * 512 : Nat) : Int) ≠ 0 by omega))
    have hk2 := Int.emod_lt_of_pos x.N (show (0 : Int) < ((v.n * 512 : Nat) : Int) by omega)
    rw [hk] at hk2 ⊢
    have e2 : IntKind.wrap .i64 (Int.tdiv (k : Int) 512) = ((k / 512 : Nat) : Int) := by
      rw [show Int.tdiv (k : Int) 512 = ((k / 512 : Nat) : Int) from rfl, wrap_i64 (by omega) (by omega)]
    have e3 : Int.tmod (k : Int) 512 = ((k % 512 : Nat) : Int) := rfl
    rw [e2, e3]
    refine rread_c E1.rr (by omega) fun a2 l2 c2 w3 k3 s3 fr3 => ⟨_, _, _, _, rfl, cond_eq (fun h0 => ?_) (fun _ => hK w3 ow1 v ((E1.kp0 k3).mono (by omega)) (F1.trans ((Fro.kp0 k3).mono fun _ _ => trivial)))⟩
    have r0 : (v.read ((k / 512 : Nat) : Int)).2 = 0 := by omega
    have r512 := vok.read_len r0
    have sl1 := s3.1
    rw [bvs_len, r512] at sl1
    obtain rfl : l2 = 512 := by omega
    have f3 : Fro (fun _ => True) w1 ow1 w3 (ext ow1 w1.heap.size 106) := Fro.of_kp0 106 k3
    have E3 := E1.fr f3 fun _ _ => trivial
    obtain ⟨x3, t3⟩ := blk_fr x1 t1 f3 trivial
    have F3 := F1.trans (f3.mono fun _ _ => trivial)
    have st3 : SlT w3 (ext ow1 w1.heap.size 106) T_uint8 1 a2 512 c2 (bvs (v.read ((k / 512 : Nat) : Int)).1) 106 := ⟨s3, fun j hj => ext_new (fr3 j hj)⟩
    generalize ext ow1 w1.heap.size 106 = ow3 at *
    obtain ⟨b2, cur, ha2, _⟩ := s3.addr (by omega)
    have kd3 : Kp no w3 w3.drew := Kp.drew w3 1
    have hj : k % 512 < 512 := Nat.mod_lt _ (by omega)
    have st3d := st3.fr (Fro.kp0 kd3) trivial
    have E3d := E3.kp0 kd3
    have x3d := kd3.blk x3 id
    obtain ⟨b', o', ha', hc'⟩ := st3d.sl.rd (k % 512) (bv ((v.read ((k / 512 : Nat) : Int)).1[k % 512]'(by rw [r512]; exact hj))) (bvs_get (by rw [r512]; exact hj))
    refine ⟨by decide, by decide, by omega, by omega, _, ha', ((v.read ((k / 512 : Nat) : Int)).1[k % 512]'(by rw [r512]; exact hj)).toNat, by rw [Int.toNat_natCast, add_at]; exact hc', _, cN x3d rfl, by omega, by omega, _, ha', ?_⟩
    obtain ⟨y, hy⟩ := u8_xor ((v.read ((k / 512 : Nat) : Int)).1[k % 512]'(by rw [r512]; exact hj)) x.fill
    rw [hy]
    refine st3d.q.put (i := k % 512) (by omega) ha' (by rw [Int.toNat_natCast, add_at]) fun w4 s4 f4 => ⟨by decide, ?_⟩
    have E4 := E3d.fr f4 fun u hu => by unfold OX at hu; omega
    rw [bvs_set] at s4
    have F4 : Fro T7 w ow w4 ow3 := (F3.trans ((Fro.kp0 kd3).mono fun _ _ => trivial)).trans (f4.mono fun u hu => by have := hu.2; omega)
    obtain ⟨cx, s4'⟩ := s4.ex
    refine spoils_c E4 hm (s4'.rdT.mono fun u hu => hu) (by rw [List.length_set]; exact r512) (by rw [ha2]; exact fun h => by cases h) fun w5 ow5 v5 E5 F5 => ⟨rfl, hK w5 ow5 v5 E5 (F4.trans F5)⟩
  · -- a record's sector is laid
    obtain ⟨i, hi⟩ := Int.eq_ofNat_of_zero_le (Int.emod_nonneg x.N (show (c : Int) ≠ 0 by omega))
    have hi2 := Int.emod_lt_of_pos x.N (show (0 : Int) < (c : Int) by omega)
    obtain ⟨j, hj⟩ := Int.eq_ofNat_of_zero_le (Int.emod_nonneg x.fill (show (4 : Int) ≠ 0 by omega))
    have hj2 := Int.emod_lt_of_pos x.fill (show (0 : Int) < 4 by omega)
    refine ⟨_, cN xd rfl, NilF.intro rfl ⟨_, cN Ed.bk rfl, brought_c (by omega) (by omega) ⟨_, rfl, _, cN xd rfl, brought_c (by omega) (by omega) ⟨_, rfl, by decide, ?_⟩⟩⟩⟩
    rw [hi] at hi2 ⊢
    rw [hj] at hj2 ⊢
    have eL : IntKind.wrap .i64 (IntKind.wrap .i64 ((i : Int) + 1) + IntKind.wrap .i64 (Int.tdiv (j : Int) 3)) = ((i + 1 + j / 3 : Nat) : Int) := by
      rw [show Int.tdiv (j : Int) 3 = ((j / 3 : Nat) : Int) from rfl, wrap_i64 (x := (i : Int) + 1) (by omega) (by omega), wrap_i64 (x := ((j / 3 : Nat) : Int)) (by omega) (by omega), wrap_i64 (by omega) (by omega)]
      omega
    rw [eL]
    have hL : 1 ≤ i + 1 + j / 3 ∧ i + 1 + j / 3 ≤ 20 := by omega
    generalize i + 1 + j / 3 = L at hL ⊢
    refine ⟨_, _, _, _, _, _, _, _, _, _, _, _, _, _, _, _, _, _, _, _, _, ⟨cN xd rfl, cNM xd rfl, cNM xd rfl, cNM xd rfl, cNM xd rfl, cNM xd rfl, cNM xd rfl, cNM xd rfl, cNM xd rfl, cNM xd rfl, cNM xd rfl, cNM xd rfl, cNM xd rfl, cNM xd rfl, cNM xd rfl, cNM xd rfl, cNM xd rfl, trivial⟩, ?_⟩
    have hra : RArg w1.drew x.R x.M := hx.r.kp0 Ed.o.kp
    refine made_c (r := x.R) (m := x.M) hra ⟨by omega, by omega⟩ fun q m' w3 k3 o3 qc q64 ql qk => ⟨_, _, _, _, _, _, _, _, _, _, _, _, _, _, _, _, _, _, _, _, _, rfl, ?_⟩
    have qc0 : chkN q = 0 := by
      have h := chk_lsn0 qc
      have e : ({ ({ q with lsn := ((L : Nat) : Int) } : RV) with lsn := 0 } : RV) = q := by rw [← ql]
      rw [e] at h
      exact h
    obtain ⟨q32, q16⟩ := chk_short qc0
    obtain ⟨en1, en2⟩ := enc_len qc0 q64
    have ql3 : LiIn w3 m' q.live q.dirty := ⟨o3.l.rd, o3.ll.symm, by rw [o3.ll]; omega, o3.d.rd, o3.dl.symm, by rw [o3.dl]; omega⟩
    refine rencode_c (r := q) (m := m') ql3 q64 (fun hne => absurd qc0 hne) fun _ a4 c4 w4 k4 s4 fr4 => ⟨_, _, _, _, rfl, ?_⟩
    have k14 : Kp no w1.drew w4 := k3.trans0 k4
    have sz4 := k14.size
    have fr14 : Fresh w1.drew a4 := fun j hj => by have := fr4 j hj; have := k3.size; omega
    refine ⟨fun s w' => Kp no w1.drew w' ∧ ∃ bs : List UInt8, Rd w' s.1.1 (bvs bs) ∧ bs.length = s.1.2.1 ∧ bs.length ≤ 505 ∧ (s.1.1 = none → s.1.2.1 = 0), ⟨_, cN (k14.blk xd id) rfl, brought_c (by omega) (by omega) ⟨_, rfl, cond_eq (fun _ => ?_) (fun _ => ⟨k14, encB q, s4.rd, rfl, by omega, sl_some' s4⟩)⟩⟩, ?_⟩
    · refine push_own er_u8 s4 (v := .int .u8 0) rfl (by omega) (by omega) fun a5 c5 w5 s5 k5 hi5 => ⟨k14.trans k5 (fun _ _ h => h) fun j hj hh => by have := fr14 j hh; omega, encB q ++ [0], ?_, by simp, by simp; omega, sl_some' s5⟩
      have e : bvs (encB q ++ [0]) = bvs (encB q) ++ [Value.int .u8 0] := by simp [bvs, bv]
      rw [e]
      exact s5.rd
    rintro ⟨⟨a5, l5, c5⟩, u5⟩ w5 ⟨k15, bs, rd5, bl5, b505, n5⟩ _
    dsimp only at rd5 bl5 n5 ⊢
    refine rsector_g (n := L) rd5 bl5 (by omega) n5 (by omega) fun b w6 hb6 k6 hge6 => ⟨_, _, _, rfl, ?_⟩
    have k16 := k15.trans0 k6
    have hge : w1.drew.heap.size ≤ b := by have := k15.size; omega
    have bl6 : ((ovr (secH L bs ++ List.replicate 505 0) 7 bs).set 511 165).length = 512 := by
      have l4 : (secH L bs ++ List.replicate 505 (0 : UInt8)).length = 512 := by rw [List.length_append, secH_len, List.length_replicate]
      rw [List.length_set, ovr_len (by omega), l4]
    generalize (ovr (secH L bs ++ List.replicate 505 0) 7 bs).set 511 165 = bs6 at *
    have nb1 : b1 ≠ b := by have := xd.lt; omega
    refine ⟨fun _ w' => Kp no w1.drew w' ∧ ∃ bs' : List UInt8, B8 w' b bs' ∧ bs'.length = 512, ⟨_, cN (k16.blk xd id) rfl, brought_c (by omega) (by omega) ⟨_, rfl, cond_eq (fun _ => ?_) (fun _ => ⟨k16, bs6, hb6, bl6⟩)⟩⟩, ?_⟩
    · have kd6 : Kp no w6 w6.drew := Kp.drew w6 1
      have k17 := k16.trans0 kd6
      have x7 := k17.blk xd id
      refine ⟨fun w' => x.blk w' b1, x7, _, fun w' hw => cN hw rfl, _, fun w' hw => cN hw rfl, by decide, brought_c (by omega) (by omega) ⟨_, rfl, x7, ?_⟩⟩
      obtain ⟨jj, hjj⟩ := Int.eq_ofNat_of_zero_le (Int.emod_nonneg x.fill (show (512 : Int) ≠ 0 by omega))
      have hjj2 := Int.emod_lt_of_pos x.fill (show (0 : Int) < 512 by omega)
      rw [hjj] at hjj2 ⊢
      refine ⟨by omega, by omega, _, rfl, ?_⟩
      obtain ⟨y, hy⟩ := u8_any (IntKind.wrap .i64 (Int.tdiv x.fill 7))
      rw [hy]
      have hb7 : B8 w6.drew b bs6 := by
        obtain ⟨cur, hb, hc⟩ := hb6
        exact ⟨cur, kd6.blk hb id, hc⟩
      refine hb7.st (i := jj) (by omega) (by rw [Int.toNat_natCast, add_at, Nat.zero_add]) fun w8 x8 k8 => ⟨k8.blk x7 nb1, kp_blk k17 hge k8, _, x8, by rw [List.length_set]; exact bl6⟩
    rintro _ w8 ⟨k18, bs8, x8, bl8⟩ _
    have f8 : Fro (fun _ => True) w1.drew ow1 w8 (ext ow1 w1.drew.heap.size 106) := Fro.of_kp0 106 k18
    have E8 := Ed.fr f8 fun _ _ => trivial
    have F8 := Fd.trans (f8.mono fun _ _ => trivial)
    have r8 : RdT w8 (ext ow1 w1.drew.heap.size 106) (fun u => u = 106) (some ⟨b, 0, none⟩) (bvs bs8) := rdT_new 106 x8.sl.rd fun j hj => by obtain ⟨_, he, rfl⟩ := hj; cases he; exact hge
    refine NilF.intro rfl ⟨_, cN E8.bk rfl, spoils_c E8 hm r8 bl8 (fun h => by cases h) fun w9 ow9 v9 E9 F9 => ⟨rfl, hK w9 ow9 v9 E9 (F8.trans F9)⟩⟩
  · exact hK w1 ow1 v (E1.mono (by omega)) F1
end
end
section
open Go Go.RowKit Go.ChangeShapes Go.WideShapes
theorem appR_fc (g : Lg) (q : RV) : (appR g q).2.first = g.first ∧ (appR g q).2.count = g.count := by
  unfold appR
  repeat' split
  all_goals exact ⟨rfl, rfl⟩
theorem frcR_fc (v : Dv) (g : Lg) (n : Int) : (frcR v g n).2.2.first = g.first ∧ (frcR v g n).2.2.count = g.count := by
  unfold frcR
  repeat' split
  all_goals exact ⟨rfl, rfl⟩
structure LiU (w : World) (ow : Nat → Nat) (m : Mm) (r : RV) : Prop where
  l : RdT w ow (fun x => x = 0 ∨ x = 5) m.la (flatV LV.cs r.live)
  ll : r.live.length = m.ll
  lb : (m.ll + 1) * 24 ≤ 140737488355328
  d : RdT w ow (fun x => x = 0 ∨ x = 5) m.da (flatV DV.cs r.dirty)
  dl : r.dirty.length = m.dl
  db : (m.dl + 1) * 16 ≤ 140737488355328
theorem LiU.fr {T : Nat → Prop} {w w' : World} {ow ow' : Nat → Nat} {m : Mm} {r : RV} (h : LiU w ow m r) (f : Fro T w ow w' ow') (h0 : T 0) (h5 : T 5) : LiU w' ow' m r :=
  ⟨h.l.fr f fun u hu => by rcases hu with hu | hu <;> rw [hu] <;> assumption, h.ll, h.lb, h.d.fr f fun u hu => by rcases hu with hu | hu <;> rw [hu] <;> assumption, h.dl, h.db⟩
theorem LiU.li {w : World} {ow : Nat → Nat} {m : Mm} {r : RV} (h : LiU w ow m r) : LiIn w m r.live r.dirty := ⟨h.l.rd, h.ll, by have := h.lb; omega, h.d.rd, h.dl, by have := h.db; omega⟩
section
variable {R : Po}
theorem open1_nil_c {w : World} {k1 k2 k3 k4 : Nat} (b1 : Blk w k1 #[.pointer none] T_p_sectors_Device) (hG : Gv 0 3 R w) : GoC Tryz.prog F_log_Open_1 #[.pointer (some ⟨k1, 0, none⟩), .pointer (some ⟨k2, 0, none⟩), .pointer (some ⟨k3, 0, none⟩), .pointer (some ⟨k4, 0, none⟩)] w R := by
  refine S_log_Open_1 ?_
  unfold W_log_Open_1
  exact ⟨fun _ _ => False, ⟨_, b1.at rfl rfl, cond_t rfl (asked_c (fun h => absurd h (by decide)) fun _ => hG)⟩, fun s w' h => h.elim⟩
set_option maxHeartbeats 2000000 in
theorem open1_bad_c {w : World} {ow : Nat → Nat} {t db k1 k2 k3 k4 : Nat} {v : Dv} {f c : Int} (hd : DX w ow t db v) (hf : i64 f) (hc : i64 c) (hb : placeBad v.n f c) (b1 : Blk w k1 #[.pointer (some ⟨db, 0, none⟩)] T_p_sectors_Device) (b2 : Blk w k2 #[.int .i64 f] T_int) (b3 : Blk w k3 #[.int .i64 c] T_int) (hG : ∀ w', Kp no w w' → Gv 0 4 R w') :
    GoC Tryz.prog F_log_Open_1 #[.pointer (some ⟨k1, 0, none⟩), .pointer (some ⟨k2, 0, none⟩), .pointer (some ⟨k3, 0, none⟩), .pointer (some ⟨k4, 0, none⟩)] w R := by
  refine S_log_Open_1 ?_
  unfold W_log_Open_1
  obtain ⟨hf1, hf2⟩ := hf
  obtain ⟨hc1, hc2⟩ := hc
  have n2 := hd.ok.n2
  refine ⟨fun _ _ => False, ⟨_, b1.at rfl rfl, cond_f rfl ?_⟩, fun s w' h => h.elim⟩
  have kd : Kp no w w.drew := Kp.drew w 1
  have c1 := kd.blk b1 id
  have c2 := kd.blk b2 id
  have c3 := kd.blk b3 id
  have hdd := hd.kp0 kd
  refine ⟨fun w' => Blk w' k1 #[.pointer (some ⟨db, 0, none⟩)] T_p_sectors_Device ∧ Blk w' k2 #[.int .i64 f] T_int ∧ Blk w' k3 #[.int .i64 c] T_int, ⟨c1, c2, c3⟩, ?_⟩
  refine ⟨_, fun w' hw => hw.2.1.at rfl rfl, cond_d (fun h0 => asked_c (fun h => absurd h (by decide)) (fun _ => hG _ kd)) (fun h0 => ?_)⟩
  refine ⟨_, fun w' hw => hw.2.2.at rfl rfl, cond_d (fun h1 => asked_c (fun h => absurd h (by decide)) (fun _ => hG _ kd)) (fun h1 => ?_)⟩
  refine ⟨_, fun w' hw => hw.2.2.at rfl rfl, _, fun w' hw => hw.1.at rfl rfl, size_c hdd ⟨_, rfl, ⟨c1, c2, c3⟩, cond_d (fun h2 => asked_c (fun h => absurd h (by decide)) (fun _ => hG _ kd)) (fun h2 => ?_)⟩⟩
  refine ⟨_, fun w' hw => hw.2.1.at rfl rfl, _, fun w' hw => hw.1.at rfl rfl, _, fun w' hw => hw.2.2.at rfl rfl, size_c hdd ⟨_, rfl, ⟨c1, c2, c3⟩, ?_⟩⟩
  rw [wrap_i64 (by omega) (by omega)]
  refine cond_d (fun h3 => asked_c (fun h => absurd h (by decide)) (fun _ => hG _ kd)) (fun h3 => ?_)
  exact absurd hb (fun hh => by rcases hh with h | h | h | h <;> omega)
set_option maxHeartbeats 2000000 in
theorem open_fail_c {w : World} {pp : Option Addr} {f c e : Int} (he : e ≠ 0)
    (h1 : ∀ (w8 : World) (R8 : Po) (k1 k2 k3 k4 : Nat), Kp no w w8 → Blk w8 k1 #[.pointer pp] T_p_sectors_Device → Blk w8 k2 #[.int .i64 f] T_int → Blk w8 k3 #[.int .i64 c] T_int → (∀ w9, Kp no w8 w9 → Gv 0 e R8 w9) →
      GoC Tryz.prog F_log_Open_1 #[.pointer (some ⟨k1, 0, none⟩), .pointer (some ⟨k2, 0, none⟩), .pointer (some ⟨k3, 0, none⟩), .pointer (some ⟨k4, 0, none⟩)] w8 R8)
    (hK : ∀ v w', Kp no w w' → ErrV w' v zOp 0 e → R (.returned (.tuple #[.pointer none, v])) w') : GoC Tryz.prog F_log_Open #[.pointer pp, .int .i64 f, .int .i64 c] w R := by
  refine S_log_Open ?_
  unfold W_log_Open
  refine AlF.intro fun b1 w1 hb1e hb1 k1 _ => AlF.intro fun b2 w2 hb2e hb2 k2 _ => AlF.intro fun b3 w3 hb3e hb3 k3 _ => ?_
  have hb1 := (k2.trans0 k3).blk hb1 id
  have hb2 := k3.blk hb2 id
  refine ⟨_, hb1.at rfl rfl, _, hb2.at rfl rfl, _, hb3.at rfl rfl, ?_⟩
  refine AlF.intro fun b4 w4 hb4e hb4 k4 _ => AlF.intro fun b5 w5 hb5e hb5 k5 _ => StF.at rfl hb5 (by simp) fun w6 hb6 k6 _ => ?_
  have k45 := k4.trans0 k5
  have k05 := (((k1.trans0 k2).trans0 k3).trans0 k4).trans0 k5
  have l1 := (k4.blk hb1 id).lt
  have l2 := (k4.blk hb2 id).lt
  have l3 := (k4.blk hb3 id).lt
  have hb16 := k6.blk (k45.blk hb1 id) (fun hh => by omega)
  have hb26 := k6.blk (k45.blk hb2 id) (fun hh => by omega)
  have hb36 := k6.blk (k45.blk hb3 id) (fun hh => by omega)
  have k06 := kp_blk k05 (by have := (((k1.trans0 k2).trans0 k3).trans0 k4).size; omega) k6
  refine CallF.intro (S_log_caught_Open ?_)
  unfold W_log_caught_Open
  refine AlF.intro fun c1 w7 hc1e hc1 kc _ => AlF.intro fun c2 w8 hc2e hc2 kd _ => ?_
  have hc1 := kd.blk hc1 id
  have kcd := kc.trans0 kd
  have k08 := (k06.trans0 kc).trans0 kd
  refine h1 w8 _ _ _ _ _ k08 (kcd.blk hb16 id) (kcd.blk hb26 id) (kcd.blk hb36 id) fun w9 k9 => ?_
  refine caught_pan (z := zOp) (a := 0) (e := e) he (k9.blk hc1 id) (k9.blk hc2 id) fun v' w10 ev ef hc210 k10 => ⟨_, hc210.at rfl rfl, _, rfl, ?_⟩
  refine err_nil ev (cond_not ?_)
  rw [decide_eq_false he]
  exact hK v' w10 (kp_blk (k08.trans0 k9) (by have := (k06.trans0 kc).size; omega) k10) ev
theorem open_nil_c {w : World} {f c : Int} (hK : ∀ e w', Kp no w w' → ErrV w' e zOp 0 3 → R (.returned (.tuple #[.pointer none, e])) w') : GoC Tryz.prog F_log_Open #[.pointer none, .int .i64 f, .int .i64 c] w R :=
  open_fail_c (by decide) (fun w8 R8 k1 k2 k3 k4 k b1 b2 b3 hG => open1_nil_c b1 (hG w8 (Kp.refl _ _))) hK
theorem tells_E {W w : World} {ow : Nat → Nat} {wb p r f c m : Nat} {v : Dv} {o : Option (Nat × Nat × Lg)} (E : Ex W w ow wb p r f c v o m) (h : ∀ w', Kp no w w' → R (.returned (.bool true)) w') :
    GoC Tryz.prog F_law06_World_tells #[.pointer (some ⟨wb, 0, none⟩)] w R := by
  match o, E with
  | none, E =>
    refine S_law06_World_tells ?_
    unfold W_law06_World_tells
    exact NilF.intro rfl ⟨_, cN E.bk rfl, cond_t rfl (h w (Kp.refl _ _))⟩
  | some ⟨lb, mb, g⟩, E =>
    obtain ⟨L, M, _, _⟩ := E.lg _ rfl
    exact tells_c E.bk L M h
end
theorem odd_c {w : World} {ow : Nat → Nat} {p : Nat} {v : Dv} {N F : Int} (hd : DX w ow 10 p v) (hN : i64 N) (hF : i64 F) (hb : placeBad v.n N F) {S : World → Prop} {R : Po} (K : Bool → World → Prop)
    (h : ∀ w', Kp no w w' → S w' ∧ ∀ w'', Kp no w' w'' → K true w'') :
    CallF Tryz.prog F_log_Open #[(.pointer (some ⟨p, 0, none⟩)), (.int .i64 N), (.int .i64 F)] w (fun r29 w192 => ∃ (p15 : Option Addr) (v3 : Value), r29 = (.tuple #[(.pointer p15), v3]) ∧ (S w192 ∧ (cond true (cond (Option.isNone p15) (CallF Tryz.prog F_law06_is #[v3, (.agg #[(.string (ByteArray.mk #[79, 112, 101, 110])), (.int .i64 (0 : Int)), (.int .i64 (4 : Int))])] w192 (fun r30 w193 => ∃ (q12 : Bool), r30 = (.bool q12) ∧ (K q12 w193)) (PanF R)) (K false w192)) (K false w192)))) (PanF R) := by
  refine CallF.intro (open_fail_c (e := 4) (by decide) (fun w8 R8 k1 k2 k3 k4 k b1 b2 b3 hG => open1_bad_c (hd.kp0 k) hN hF hb b1 b2 b3 hG) fun ev w1 k1 ev1 => ?_)
  obtain ⟨s1, h1⟩ := h w1 k1
  exact ⟨_, _, rfl, s1, cond_t rfl (cond_t rfl (CallF.intro (is_c ev1 (fun _ => ⟨rfl, rfl⟩) fun w2 k2 => ⟨_, rfl, h1 w2 k2⟩)))⟩
end
section
open Go Go.RowKit Go.ChangeShapes Go.WideShapes
structure Op6.Ok2 (W : World) (x : Op6) : Prop where
  ok : x.Ok W
  lw : (x.M.ll + 1) * 24 ≤ 140737488355328
  dw : (x.M.dl + 1) * 16 ≤ 140737488355328
section
variable {R : Po}
set_option maxRecDepth 100000 in
set_option maxHeartbeats 32000000 in
theorem plays_c {W w : World} {ow : Nat → Nat} {wb p r f c m : Nat} {v : Dv} {o : Option (Nat × Nat × Lg)} {x : Op6} (E : Ex W w ow wb p r f c v o m) (hm : m ≤ 400000) (hx2 : x.Ok2 W)
    (hK : ∀ w' ow' v' o', Ex W w' ow' wb p r f c v' o' (m + 12) → R (.returned (.bool true)) w') :
    GoC Tryz.prog F_law06_World_plays #[.pointer (some ⟨wb, 0, none⟩), x.v] w R := by
  refine S_law06_World_plays ?_
  unfold W_law06_World_plays
  have hx := hx2.ok
  have hf3 := E.f3
  have hc1 := E.c1
  have hc12 := E.c12
  have en := E.n
  have vok := E.dd.ok
  have n2 := vok.n2
  refine AlF.intro fun b1 w1 hb1e hb1 k1 _ => ?_
  have x1 : x.blk w1 b1 := hb1
  have f1 : Fro (fun _ => True) w ow w1 (ext ow w.heap.size 7) := Fro.of_kp0 7 k1
  have t1 : ext ow w.heap.size 7 b1 = 7 := ext_new (by omega)
  have E1 := E.fr f1 fun _ _ => trivial
  generalize ext ow w.heap.size 7 = ow1 at *
  have en1 := E1.n
  refine ⟨fun s w' => s.1 = true ∧ ∃ ow' v' o', Ex W w' ow' wb p r f c v' o' (m + 12), ?_, ?_⟩
  rotate_left
  · rintro ⟨q, u⟩ w2 ⟨hq, ow2, v2, o2, E2⟩ _
    dsimp only at hq ⊢
    subst hq
    exact cond_t rfl (disks_c E2.bk E2.dd E2.rr (by have := E2.sm.q; omega) fun w3 k3 => ⟨_, rfl, hK w3 ow2 v2 o2 (E2.kp0 k3)⟩)
  have kd : Kp no w1 w1.drew := Kp.drew w1 1
  have Ed := E1.kp0 kd
  have xd : x.blk w1.drew b1 := kd.blk x1 id
  refine ⟨_, c0 x1 rfl, cond_eq (fun _ => ?_) (fun _ => cond_eq (fun _ => ?_) (fun _ => cond_eq (fun _ => ?_) (fun _ => cond_eq (fun _ => ?_) (fun _ => cond_eq (fun _ => ?_) (fun _ => cond_eq (fun _ => ?_) (fun _ => ?_))))))⟩
  · -- Append
    match o, E1 with
    | none, E1 => exact NilF.intro rfl ⟨_, cN E1.bk rfl, cond_t rfl (hK w1 ow1 v none (E1.mono (by omega)))⟩
    | some ⟨lb, mb, g⟩, E1 =>
    refine NilF.intro rfl ⟨_, cN E1.bk rfl, cond_f rfl ?_⟩
    refine ⟨_, _, _, _, _, _, _, _, _, _, _, _, _, _, _, _, _, _, _, _, _, ⟨cN x1 rfl, cNM x1 rfl, cNM x1 rfl, cNM x1 rfl, cNM x1 rfl, cNM x1 rfl, cNM x1 rfl, cNM x1 rfl, cNM x1 rfl, cNM x1 rfl, cNM x1 rfl, cNM x1 rfl, cNM x1 rfl, cNM x1 rfl, cNM x1 rfl, cNM x1 rfl, cNM x1 rfl, trivial⟩, ?_⟩
    refine rec_cp x.R x.M fun b2 w2 h2 => ?_
    have f2 : Fro (fun _ => True) w1 ow1 w2 (ext ow1 w1.heap.size 6) := Fro.of_kp0 6 h2.kp
    have tb2 : ext ow1 w1.heap.size 6 b2 = 6 := ext_new h2.nw
    have E2 := E1.fr f2 fun _ _ => trivial
    obtain ⟨x2, t2⟩ := blk_fr x1 t1 f2 trivial
    have h2b := h2.blk
    generalize ext ow1 w1.heap.size 6 = ow2 at *
    have wf64 := hx.r.wf.w64
    have lu2 : LiU w2 ow2 x.M x.R := ⟨(E2.o.rdT hx.r.li.l).mono fun u hu => .inl hu, hx.r.li.ll, hx2.lw, (E2.o.rdT hx.r.li.d).mono fun u hu => .inl hu, hx.r.li.dl, hx2.dw⟩
    refine ⟨fun _ w' => ∃ ow' q m', Ex W w' ow' wb p r f c v (some (lb, mb, g)) m ∧ Blk w' b2 (q.ca m') T_api_Record ∧ ow' b2 = 6 ∧ LiU w' ow' m' q ∧ q.w64, ?_, ?_⟩
    · refine ⟨_, cN x2 rfl, cond_b (fun _ => ?_) (fun _ => ⟨ow2, x.R, x.M, E2, h2b, tb2, lu2, wf64⟩)⟩
      have kd2 : Kp no w2 w2.drew := Kp.drew w2 1
      have E2d := E2.kp0 kd2
      have h2d := kd2.blk h2b id
      obtain ⟨L2, M2, g1, g2⟩ := E2d.lg _ rfl
      have okn : g.recs.length ≤ g.count := L2.ok.n
      have g2' : g.count = c := g2
      refine ⟨fun w' => Blk w' b2 (x.R.ca x.M) T_api_Record ∧ Blk w' wb (wcs p r (some ⟨lb, 0, none⟩) (some ⟨mb, 0, none⟩) f c) T_quotalaw06_World, ⟨h2d, E2d.bk⟩, ?_⟩
      refine ⟨_, _, _, _, _, _, _, _, _, _, _, _, _, _, _, _, _, _, _, _, _, fun w' hw => ⟨hw.1.at rfl rfl, hw.1.at rfl rfl, hw.1.at rfl rfl, hw.1.at rfl rfl, hw.1.at rfl rfl, hw.1.at rfl rfl, hw.1.at rfl rfl, hw.1.at rfl rfl, hw.1.at rfl rfl, hw.1.at rfl rfl, hw.1.at rfl rfl, hw.1.at rfl rfl, hw.1.at rfl rfl, hw.1.at rfl rfl, hw.1.at rfl rfl, hw.1.at rfl rfl, hw.1.at rfl rfl, trivial⟩, ?_⟩
      refine NilF.intro rfl ⟨_, fun w' hw => cN hw.2 rfl, rlast_c M2 ⟨_, rfl, ⟨h2d, E2d.bk⟩, ?_⟩⟩
      have eL : IntKind.wrap .i64 ((g.recs.length : Int) + 1) = ((g.recs.length + 1 : Nat) : Int) := by rw [wrap_i64 (by omega) (by omega)]; omega
      have hra : RArg w2.drew x.R x.M := hx.r.kp0 E2d.o.kp
      rw [eL]
      refine made_c (r := x.R) (m := x.M) hra ⟨by omega, by omega⟩ fun q m' w3 k3 o3 qc q64 ql qk => ⟨_, _, _, _, _, _, _, _, _, _, _, _, _, _, _, _, _, _, _, _, _, rfl, ?_⟩
      have f3 : Fro (fun _ => True) w2.drew ow2 w3 (ext ow2 w2.drew.heap.size 5) := Fro.of_kp0 5 k3
      have E3 := E2d.fr f3 fun _ _ => trivial
      obtain ⟨h23, tb3⟩ := blk_fr h2d tb2 f3 trivial
      obtain ⟨q32, q16⟩ := chk_short qc
      have q32 : q.live.length ≤ 32 := q32
      have q16 : q.dirty.length ≤ 16 := q16
      have lu3 : LiU w3 (ext ow2 w2.drew.heap.size 5) m' q := ⟨(rdT_new 5 o3.l.rd o3.fl).mono fun u hu => .inr hu, o3.ll.symm, by rw [o3.ll]; omega, (rdT_new 5 o3.d.rd o3.fd).mono fun u hu => .inr hu, o3.dl.symm, by rw [o3.dl]; omega⟩
      generalize ext ow2 w2.drew.heap.size 5 = ow3 at *
      refine ⟨⟨h23, E3.bk⟩, rec_st h23 q m' fun w4 h4 k4 => ?_⟩
      have f4 : Fro (fun u => u ≠ 6) w3 ow3 w4 ow3 := Fro.of_kp' k4 fun j _ hj hne => hne (by rw [hj]; exact tb3)
      exact ⟨ow3, q, m', E3.fr f4 fun u hu => by unfold OX at hu; omega, h4, tb3, lu3.fr f4 (by omega) (by omega), q64⟩
    clear lu2 h2b x2 tb2 t2 E2 f2
    rintro _ w3 ⟨ow3, q, m', E3, h3b, t3, lu3, q64⟩ _
    refine rec_rd h3b (mlent_c (r := q) (m := m') lu3.li lu3.lb lu3.db fun mo w4 k4 om mo1 mo2 => ⟨_, _, _, _, _, _, _, _, _, _, _, _, _, _, _, _, _, _, _, _, _, rfl, ?_⟩)
    have f4 : Fro (fun _ => True) w3 ow3 w4 (ext ow3 w3.heap.size 70) := Fro.of_kp0 70 k4
    have sl4 : SlT w4 (ext ow3 w3.heap.size 70) T_api_Live 4 mo.la (mo.ll + 1) mo.lc (flatV LV.cs (q.live ++ [mkl])) 70 := ⟨om.l, fun j hj => ext_new (om.fl j hj)⟩
    have sd4 : SlT w4 (ext ow3 w3.heap.size 70) T_api_Dirty 2 mo.da (mo.dl + 1) mo.dc (flatV DV.cs (q.dirty ++ [mkd])) 70 := ⟨om.d, fun j hj => ext_new (om.fd j hj)⟩
    have E4 := E3.fr f4 fun _ _ => trivial
    obtain ⟨h4b, t4⟩ := blk_fr h3b t3 f4 trivial
    have lu4 := lu3.fr f4 trivial trivial
    have apm := om.ap
    have omll := om.ll
    have omdl := om.dl
    generalize ext ow3 w3.heap.size 70 = ow4 at *
    refine rec_cp q mo fun b3 w5 h5 => ?_
    have f5 : Fro (fun _ => True) w4 ow4 w5 (ext ow4 w4.heap.size 101) := Fro.of_kp0 101 h5.kp
    have tb3 : ext ow4 w4.heap.size 101 b3 = 101 := ext_new h5.nw
    have sl5 := sl4.fr f5 trivial
    have sd5 := sd4.fr f5 trivial
    have E5 := E4.fr f5 fun _ _ => trivial
    obtain ⟨h52, t5⟩ := blk_fr h4b t4 f5 trivial
    have lu5 := lu4.fr f5 trivial trivial
    have h53 := h5.blk
    generalize ext ow4 w4.heap.size 101 = ow5 at *
    have kd5 : Kp no w5 w5.drew := Kp.drew w5 1
    have fd5 : Fro (fun _ => True) w5 ow5 w5.drew ow5 := Fro.kp0 kd5
    have sl6 := sl5.fr fd5 trivial
    have sd6 := sd5.fr fd5 trivial
    have E6 := E5.fr fd5 fun _ _ => trivial
    have h62 := kd5.blk h52 id
    have h63 := kd5.blk h53 id
    have lu6 := lu5.fr fd5 trivial trivial
    obtain ⟨L6, M6, g1, g2⟩ := E6.lg _ rfl
    have li6 : LiIn w5.drew mo q.live q.dirty := ⟨rd_init sl6.sl.rd, omll, by have := lu5.lb; omega, rd_init sd6.sl.rd, omdl, by have := lu5.db; omega⟩
    refine ⟨fun w' => Blk w' b3 (q.ca mo) T_api_Record ∧ Blk w' wb (wcs p r (some ⟨lb, 0, none⟩) (some ⟨mb, 0, none⟩) f c) T_quotalaw06_World, ⟨h63, E6.bk⟩, NilF.intro rfl ⟨_, fun w' hw => cN hw.2 rfl, ?_⟩⟩
    refine ⟨_, _, _, _, _, _, _, _, _, _, _, _, _, _, _, _, _, _, _, _, _, fun w' hw => ⟨hw.1.at rfl rfl, hw.1.at rfl rfl, hw.1.at rfl rfl, hw.1.at rfl rfl, hw.1.at rfl rfl, hw.1.at rfl rfl, hw.1.at rfl rfl, hw.1.at rfl rfl, hw.1.at rfl rfl, hw.1.at rfl rfl, hw.1.at rfl rfl, hw.1.at rfl rfl, hw.1.at rfl rfl, hw.1.at rfl rfl, hw.1.at rfl rfl, hw.1.at rfl rfl, hw.1.at rfl rfl, trivial⟩, ?_⟩
    refine append_c (r := q) (m := mo) L6 li6 q64 fun w7 ow7 L7 f7 => ⟨_, _, rfl, ?_⟩
    obtain ⟨h72, t7⟩ := blk_fr h62 t5 f7 (by omega)
    obtain ⟨h73, t73⟩ := blk_fr h63 tb3 f7 (by omega)
    obtain ⟨b7, tw7⟩ := blk_fr E6.bk E6.tw f7 (by omega)
    have D7 := E6.dd.fr f7 (by omega) (by omega) (by omega) (by omega)
    have R7 := E6.rr.fr f7 (by omega) (by omega) (by omega) (by omega)
    have M7 := M6.fr f7 (by omega) (by omega) (by omega)
    have O7 := E6.o.fr f7 (by omega)
    have sl7 := sl6.fr f7 (by omega)
    have sd7 := sd6.fr f7 (by omega)
    have lu7 := lu6.fr f7 (by omega) (by omega)
    have kd7 : Kp no w7 w7.drew := Kp.drew w7 1
    have fd7 : Fro (fun _ => True) w7 ow7 w7.drew ow7 := Fro.kp0 kd7
    have b7' := kd7.blk b7 id
    refine ⟨⟨h73, b7⟩, fun w' => Blk w' b2 (q.ca m') T_api_Record ∧ Blk w' wb (wcs p r (some ⟨lb, 0, none⟩) (some ⟨mb, 0, none⟩) f c) T_quotalaw06_World, ⟨kd7.blk h72 id, b7'⟩, NilF.intro rfl ⟨_, fun w' hw => cN hw.2 rfl, ?_⟩⟩
    refine ⟨_, _, _, _, _, _, _, _, _, _, _, _, _, _, _, _, _, _, _, _, _, fun w' hw => ⟨hw.1.at rfl rfl, hw.1.at rfl rfl, hw.1.at rfl rfl, hw.1.at rfl rfl, hw.1.at rfl rfl, hw.1.at rfl rfl, hw.1.at rfl rfl, hw.1.at rfl rfl, hw.1.at rfl rfl, hw.1.at rfl rfl, hw.1.at rfl rfl, hw.1.at rfl rfl, hw.1.at rfl rfl, hw.1.at rfl rfl, hw.1.at rfl rfl, hw.1.at rfl rfl, hw.1.at rfl rfl, trivial⟩, ?_⟩
    refine rappend_c (r := q) (m := m') (M7.kp0 kd7) (lu7.fr fd7 trivial trivial).li q64 fun w8 ow8 M8 f8 => ⟨_, _, rfl, ?_⟩
    have f78 : Fro (Tm 40) w7 ow7 w8 ow8 := (fd7.mono fun _ _ => trivial).trans f8
    obtain ⟨h82, t8⟩ := blk_fr h72 t7 f78 (by omega)
    obtain ⟨h83, t83⟩ := blk_fr h73 t73 f78 (by omega)
    obtain ⟨b8, tw8⟩ := blk_fr b7 tw7 f78 (by omega)
    have D8 := D7.fr f78 (by omega) (by omega) (by omega) (by omega)
    have R8 := R7.fr f78 (by omega) (by omega) (by omega) (by omega)
    have L8 := L7.fr f78 (by omega) (by omega) (by omega) (by omega) (by omega)
    have O8 := O7.fr f78 (by omega)
    have sl8 := sl7.fr f78 (by omega)
    have sd8 := sd7.fr f78 (by omega)
    have lu8 := lu7.fr f78 (by omega) (by omega)
    refine ⟨⟨h82, b8⟩, cond_t (beq_self_eq_true _) (num_c ⟨_, rfl, cond_t (beq_self_eq_true _) ?_⟩)⟩
    refine rec_rd h83 (rec_rd h82 (mkept_c (r := q) (mo := mo) (m := m') sl8.sl sd8.sl omll omdl apm lu8.li fun w9 k9 => ⟨_, rfl, rfl, ?_⟩))
    have f9 : Fro (fun u => u ≠ 70) w8 ow8 w9 ow8 := Fro.of_kp' k9 fun j _ hj hne => hne (by rcases hj with h | h; exact sl8.tg j h; exact sd8.tg j h)
    obtain ⟨b9, tw9⟩ := blk_fr b8 tw8 f9 (by omega)
    obtain ⟨a1, a2⟩ := appR_fc g q
    refine ⟨ow8, v, some (lb, mb, (appR g q).2), b9, tw9, D8.fr f9 (by omega) (by omega) (by omega) (by omega), R8.fr f9 (by omega) (by omega) (by omega) (by omega), fun y hy => ?_, O8.fr f9 (by omega), en, hc1, hc12, hf3, E.sm.mono (by omega)⟩
    cases hy
    exact ⟨L8.fr f9 (by omega) (by omega) (by omega) (by omega) (by omega), M8.fr f9 (by omega) (by omega) (by omega), a1.trans g1, a2.trans g2⟩
  · -- Force
    match o, E1, Ed with
    | none, E1, Ed => exact NilF.intro rfl ⟨_, cN E1.bk rfl, cond_t rfl (hK w1 ow1 v none (E1.mono (by omega)))⟩
    | some ⟨lb, mb, g⟩, E1, Ed =>
    refine NilF.intro rfl ⟨_, cN E1.bk rfl, cond_f rfl ?_⟩
    obtain ⟨L1, M1, g1, g2⟩ := Ed.lg _ rfl
    have g1' : g.first = f := g1
    have g2' : g.count = c := g2
    have okn : g.recs.length ≤ g.count := L1.ok.n
    refine ⟨fun w' => x.blk w' b1 ∧ Blk w' wb (wcs p r (some ⟨lb, 0, none⟩) (some ⟨mb, 0, none⟩) f c) T_quotalaw06_World, ⟨xd, Ed.bk⟩, NilF.intro rfl ⟨_, fun w' hw => cN hw.2 rfl, _, fun w' hw => cN hw.1 rfl, NilF.intro rfl ⟨_, fun w' hw => cN hw.2 rfl, _, fun w' hw => cN hw.1 rfl, ?_⟩⟩⟩
    refine force_cO L1 Ed.dd (E.sm.mono (by omega)) hx.n fun e w2 ow2 D2 L2 F2 ev2 eo2 => ⟨_, rfl, ?_⟩
    have tf : ∀ {u : Nat}, (u < 10 ∨ (12 < u ∧ u ≠ 30)) → Tf 10 u := fun hu => ⟨⟨by omega, by omega, by omega⟩, by omega⟩
    have tg : ∀ {u : Nat}, (u < 40 ∨ (42 < u ∧ u ≠ 60)) → Tf 40 u := fun hu => ⟨⟨by omega, by omega, by omega⟩, by omega⟩
    obtain ⟨b2, tw2⟩ := blk_fr Ed.bk Ed.tw F2 (tf (by omega))
    obtain ⟨x2, t2⟩ := blk_fr xd t1 F2 (tf (by omega))
    have R2 := Ed.rr.fr F2 (tf (by omega)) (tf (by omega)) (tf (by omega)) (tf (by omega))
    have M2 := M1.fr F2 (tf (by omega)) (tf (by omega)) (tf (by omega))
    have O2 := Ed.o.fr F2 (tf (by omega))
    refine ⟨⟨x2, b2⟩, rforce_c M2 R2 (E.sm.mono (by omega)) (by omega) hx.n fun z w3 ow3 R3 M3 F3 hz => ⟨_, _, _, rfl, ?_⟩⟩
    obtain ⟨b3, tw3⟩ := blk_fr b2 tw2 F3 (tg (by omega))
    obtain ⟨x3, t3⟩ := blk_fr x2 t2 F3 (tg (by omega))
    have D3 := D2.fr F3 (tg (by omega)) (tg (by omega)) (tg (by omega)) (tg (by omega))
    have L3 := L2.fr F3 (tg (by omega)) (tg (by omega)) (tg (by omega)) (tg (by omega)) (tg (by omega))
    have O3 := O2.fr F3 (tg (by omega))
    obtain ⟨ev3, eo3⟩ := ev2.fr eo2 F3 (tg (by omega))
    refine ⟨⟨x3, b3⟩, is_c ev3 (fun hne => ⟨hz (by omega), rfl⟩) fun w4 k4 => ⟨_, rfl, ⟨k4.blk x3 id, k4.blk b3 id⟩, rfl, ?_⟩⟩
    have f4 : Fro (fun _ => True) w3 ow3 w4 ow3 := Fro.kp0 k4
    obtain ⟨a1, a2⟩ := frcR_fc v g x.N
    refine ⟨ow3, _, some (lb, mb, (frcR v g x.N).2.2), k4.blk b3 id, tw3, D3.kp0 k4, R3.kp0 k4, fun y hy => ?_, O3.fr f4 trivial, by rw [frcR_n vok]; exact en, hc1, hc12, hf3, frcR_sm E.sm (g := g) (by omega) x.N⟩
    cases hy
    exact ⟨L3.kp0 k4, M3.kp0 k4, a1.trans g1, a2.trans g2⟩
  · -- Get
    match o, E1, Ed with
    | none, E1, Ed => exact NilF.intro rfl ⟨_, cN E1.bk rfl, cond_t rfl (hK w1 ow1 v none (E1.mono (by omega)))⟩
    | some ⟨lb, mb, g⟩, E1, Ed =>
    refine NilF.intro rfl ⟨_, cN E1.bk rfl, cond_f rfl ?_⟩
    obtain ⟨L1, M1, _, _⟩ := E1.lg _ rfl
    have L1 : LG w1 ow1 10 lb p g := L1
    have M1 : MG w1 ow1 40 mb r g := M1
    obtain ⟨gs1, gs2⟩ := getG_short L1.ok x.N
    let S : World → Prop := fun w' => x.blk w' b1 ∧ Blk w' wb (wcs p r (some ⟨lb, 0, none⟩) (some ⟨mb, 0, none⟩) f c) T_quotalaw06_World
    have Sk : ∀ w', Kp no w1 w' → S w' := fun w' k => ⟨k.blk x1 id, k.blk E1.bk id⟩
    refine ⟨S, Sk _ kd, NilF.intro rfl ⟨_, fun w' hw => cN hw.2 rfl, _, fun w' hw => cN hw.1 rfl, ?_, ?_⟩⟩
    · refine lget_c (L1.kp0 kd) hx.n fun m4 w2 k2 o2 => ⟨_, _, _, _, _, _, _, _, _, _, _, _, _, _, _, _, _, _, _, _, _, _, rfl, Sk w2 (kd.trans0 k2), Loc.al (Kp.refl _ w2) fun b4 w3 h3 k3 _ => ⟨Sk w3 ((kd.trans0 k2).trans0 k3), rec_st (q := {}) (n := {}) h3.blk (getG g x.N).1 m4 fun w4 hb4 k4 => ?_⟩⟩
      have k24 : Kp no w2 w4 := kp_blk k3 h3.nw k4
      have k14 : Kp no w1 w4 := (kd.trans0 k2).trans0 k24
      have li4 : LiIn w4 m4 (getG g x.N).1.live (getG g x.N).1.dirty := ⟨o2.l.rd.kp0 k24, o2.ll.symm, by rw [o2.ll]; omega, o2.d.rd.kp0 k24, o2.dl.symm, by rw [o2.dl]; omega⟩
      refine ⟨Sk w4 k14, ?_⟩
      have kd4 : Kp no w4 w4.drew := Kp.drew w4 1
      have k15 := k14.trans0 kd4
      have hb5 := kd4.blk hb4 id
      have li5 := li4.kp0 kd4
      refine ⟨S, Sk _ k15, NilF.intro rfl ⟨_, fun w' hw => cN hw.2 rfl, _, fun w' hw => cN hw.1 rfl, ?_, ?_⟩⟩
      · refine rget_c (M1.kp0 k15) hx.n fun m6 w6 k6 o6 => ⟨_, _, _, _, _, _, _, _, _, _, _, _, _, _, _, _, _, _, _, _, _, _, rfl, Sk w6 (k15.trans0 k6), Loc.al (Kp.refl _ w6) fun b7 w7 h7 k7 _ => ⟨Sk w7 ((k15.trans0 k6).trans0 k7), rec_st (q := {}) (n := {}) h7.blk (getG g x.N).1 m6 fun w8 h8b k8 => ?_⟩⟩
        have k68 : Kp no w6 w8 := kp_blk k7 h7.nw k8
        have k58 : Kp no w4.drew w8 := k6.trans0 k68
        have li8 : LiIn w8 m6 (getG g x.N).1.live (getG g x.N).1.dirty := ⟨o6.l.rd.kp0 k68, o6.ll.symm, by rw [o6.ll]; omega, o6.d.rd.kp0 k68, o6.dl.symm, by rw [o6.dl]; omega⟩
        refine ⟨Sk w8 (k15.trans0 k58), num_c ⟨_, rfl, cond_t (beq_self_eq_true _) (rec_rd (k58.blk hb5 id) (rec_rd h8b (rsame_c (li5.kp0 k58) li8 fun w9 k9 => ⟨_, rfl, decide_eq_true rfl, ow1, v, some (lb, mb, g), (E1.kp0 ((k15.trans0 k58).trans0 k9)).mono (by omega)⟩)))⟩⟩
      · refine Loc.al (Kp.refl _ w4.drew) fun b7 w6 h6 k6 _ => ⟨Sk w6 (k15.trans0 k6), rget_c (M1.kp0 (k15.trans0 k6)) hx.n fun m6 w7 k7 o7 => ⟨_, _, _, _, _, _, _, _, _, _, _, _, _, _, _, _, _, _, _, _, _, _, rfl, Sk w7 ((k15.trans0 k6).trans0 k7), rec_st (q := {}) (n := {}) (k7.blk h6.blk id) (getG g x.N).1 m6 fun w8 h8b k8 => ?_⟩⟩
        have l6 := h6.blk.lt
        have k58 : Kp no w4.drew w8 := kp_blk (k6.trans0 k7) h6.nw k8
        have li8 : LiIn w8 m6 (getG g x.N).1.live (getG g x.N).1.dirty := ⟨o7.l.rd.kp k8 fun j hj hh => by have := o7.fl j hj; omega, o7.ll.symm, by rw [o7.ll]; omega, o7.d.rd.kp k8 fun j hj hh => by have := o7.fd j hj; omega, o7.dl.symm, by rw [o7.dl]; omega⟩
        refine ⟨Sk w8 (k15.trans0 k58), num_c ⟨_, rfl, cond_t (beq_self_eq_true _) (rec_rd (k58.blk hb5 id) (rec_rd h8b (rsame_c (li5.kp0 k58) li8 fun w9 k9 => ⟨_, rfl, decide_eq_true rfl, ow1, v, some (lb, mb, g), (E1.kp0 ((k15.trans0 k58).trans0 k9)).mono (by omega)⟩)))⟩⟩
    · refine Loc.al (Kp.refl _ w1.drew) fun b4 w2 h2 k2 _ => ⟨Sk w2 (kd.trans0 k2), lget_c (L1.kp0 (kd.trans0 k2)) hx.n fun m4 w3 k3 o3 => ⟨_, _, _, _, _, _, _, _, _, _, _, _, _, _, _, _, _, _, _, _, _, _, rfl, Sk w3 ((kd.trans0 k2).trans0 k3), rec_st (q := {}) (n := {}) (k3.blk h2.blk id) (getG g x.N).1 m4 fun w4 hb4 k4 => ?_⟩⟩
      have l2 := h2.blk.lt
      have k14 : Kp no w1 w4 := kd.trans0 (kp_blk (k2.trans0 k3) h2.nw k4)
      have li4 : LiIn w4 m4 (getG g x.N).1.live (getG g x.N).1.dirty := ⟨o3.l.rd.kp k4 fun j hj hh => by have := o3.fl j hj; omega, o3.ll.symm, by rw [o3.ll]; omega, o3.d.rd.kp k4 fun j hj hh => by have := o3.fd j hj; omega, o3.dl.symm, by rw [o3.dl]; omega⟩
      refine ⟨Sk w4 k14, ?_⟩
      have kd4 : Kp no w4 w4.drew := Kp.drew w4 1
      have k15 := k14.trans0 kd4
      have hb5 := kd4.blk hb4 id
      have li5 := li4.kp0 kd4
      refine ⟨S, Sk _ k15, NilF.intro rfl ⟨_, fun w' hw => cN hw.2 rfl, _, fun w' hw => cN hw.1 rfl, ?_, ?_⟩⟩
      · refine rget_c (M1.kp0 k15) hx.n fun m6 w6 k6 o6 => ⟨_, _, _, _, _, _, _, _, _, _, _, _, _, _, _, _, _, _, _, _, _, _, rfl, Sk w6 (k15.trans0 k6), Loc.al (Kp.refl _ w6) fun b7 w7 h7 k7 _ => ⟨Sk w7 ((k15.trans0 k6).trans0 k7), rec_st (q := {}) (n := {}) h7.blk (getG g x.N).1 m6 fun w8 h8b k8 => ?_⟩⟩
        have k68 : Kp no w6 w8 := kp_blk k7 h7.nw k8
        have k58 : Kp no w4.drew w8 := k6.trans0 k68
        have li8 : LiIn w8 m6 (getG g x.N).1.live (getG g x.N).1.dirty := ⟨o6.l.rd.kp0 k68, o6.ll.symm, by rw [o6.ll]; omega, o6.d.rd.kp0 k68, o6.dl.symm, by rw [o6.dl]; omega⟩
        refine ⟨Sk w8 (k15.trans0 k58), num_c ⟨_, rfl, cond_t (beq_self_eq_true _) (rec_rd (k58.blk hb5 id) (rec_rd h8b (rsame_c (li5.kp0 k58) li8 fun w9 k9 => ⟨_, rfl, decide_eq_true rfl, ow1, v, some (lb, mb, g), (E1.kp0 ((k15.trans0 k58).trans0 k9)).mono (by omega)⟩)))⟩⟩
      · refine Loc.al (Kp.refl _ w4.drew) fun b7 w6 h6 k6 _ => ⟨Sk w6 (k15.trans0 k6), rget_c (M1.kp0 (k15.trans0 k6)) hx.n fun m6 w7 k7 o7 => ⟨_, _, _, _, _, _, _, _, _, _, _, _, _, _, _, _, _, _, _, _, _, _, rfl, Sk w7 ((k15.trans0 k6).trans0 k7), rec_st (q := {}) (n := {}) (k7.blk h6.blk id) (getG g x.N).1 m6 fun w8 h8b k8 => ?_⟩⟩
        have l6 := h6.blk.lt
        have k58 : Kp no w4.drew w8 := kp_blk (k6.trans0 k7) h6.nw k8
        have li8 : LiIn w8 m6 (getG g x.N).1.live (getG g x.N).1.dirty := ⟨o7.l.rd.kp k8 fun j hj hh => by have := o7.fl j hj; omega, o7.ll.symm, by rw [o7.ll]; omega, o7.d.rd.kp k8 fun j hj hh => by have := o7.fd j hj; omega, o7.dl.symm, by rw [o7.dl]; omega⟩
        refine ⟨Sk w8 (k15.trans0 k58), num_c ⟨_, rfl, cond_t (beq_self_eq_true _) (rec_rd (k58.blk hb5 id) (rec_rd h8b (rsame_c (li5.kp0 k58) li8 fun w9 k9 => ⟨_, rfl, decide_eq_true rfl, ow1, v, some (lb, mb, g), (E1.kp0 ((k15.trans0 k58).trans0 k9)).mono (by omega)⟩)))⟩⟩
  · -- what is told
    exact tells_E E1 fun w2 k2 => ⟨_, rfl, rfl, ow1, v, o, (E1.kp0 k2).mono (by omega)⟩
  · -- Open
    exact opens_c E1 (by omega) fun w2 ow2 v2 o2 E2 F2 _ _ => ⟨_, rfl, rfl, ow2, v2, o2, E2⟩
  · -- Opens that can't be
    let S : World → Prop := fun w' => x.blk w' b1 ∧ Blk w' wb (wcs p r (o.map fun x => ⟨x.1, 0, none⟩) (o.map fun x => ⟨x.2.1, 0, none⟩) f c) T_quotalaw06_World
    have Sk : ∀ w', Kp no w1 w' → S w' := fun w' k => ⟨k.blk x1 id, k.blk E1.bk id⟩
    have odd := fun (w5 : World) (k5 : Kp no w1 w5) (hb : placeBad v.n x.N x.fill) => odd_c (R := R) (S := S) (E1.kp0 k5).dd hx.n hx.fi hb (fun q w' => q = true ∧ ∃ ow' v' o', Ex W w' ow' wb p r f c v' o' (m + 12)) fun w' k' =>
      ⟨Sk w' (k5.trans0 k'), fun w'' k'' => ⟨rfl, ow1, v, o, (E1.kp0 ((k5.trans0 k').trans0 k'')).mono (by omega)⟩⟩
    refine open_nil_c fun e w2 k2 ev2 => ⟨_, _, rfl, cond_t rfl (is_c ev2 (fun _ => ⟨rfl, rfl⟩) fun w3 k3 => ⟨_, rfl, ?_⟩)⟩
    have k13 := k2.trans0 k3
    have kd3 : Kp no w3 w3.drew := Kp.drew w3 1
    have k14 := k13.trans0 kd3
    have k15 := k14.trans0 (Kp.drew w3.drew 1)
    refine ⟨S, Sk _ k14, _, fun w' hw => cN hw.1 rfl, cond_d (fun h0 => ?_) (fun h0 => ⟨_, fun w' hw => cN hw.1 rfl, cond_d (fun h1 => ?_) (fun h1 => ⟨_, fun w' hw => cN hw.1 rfl, NilF.intro rfl ⟨_, fun w' hw => cN hw.2 rfl, rsize_c (E1.kp0 k14).rr ⟨_, rfl, Sk _ k14, cond_d (fun h2 => ?_) (fun h2 => ⟨_, fun w' hw => cN hw.1 rfl, NilF.intro rfl ⟨_, fun w' hw => cN hw.2 rfl, _, fun w' hw => cN hw.1 rfl, rsize_c (E1.kp0 k14).rr ⟨_, rfl, Sk _ k14, ?_⟩⟩⟩)⟩⟩⟩)⟩)⟩
    · exact ⟨S, Sk _ k15, NilF.intro rfl ⟨_, fun w' hw => c0 hw.2 rfl, _, fun w' hw => cN hw.1 rfl, _, fun w' hw => cN hw.1 rfl, odd _ k15 (.inl h0)⟩⟩
    · exact ⟨S, Sk _ k15, NilF.intro rfl ⟨_, fun w' hw => c0 hw.2 rfl, _, fun w' hw => cN hw.1 rfl, _, fun w' hw => cN hw.1 rfl, odd _ k15 (.inr (.inl h1))⟩⟩
    · exact ⟨S, Sk _ k15, NilF.intro rfl ⟨_, fun w' hw => c0 hw.2 rfl, _, fun w' hw => cN hw.1 rfl, _, fun w' hw => cN hw.1 rfl, odd _ k15 (.inr (.inr (.inl h2)))⟩⟩
    · rw [wrap_i64 (by omega) (by omega)]
      refine cond_d (fun h3 => ?_) (fun h3 => ⟨rfl, ow1, v, o, (E1.kp0 k14).mono (by omega)⟩)
      exact ⟨S, Sk _ k15, NilF.intro rfl ⟨_, fun w' hw => c0 hw.2 rfl, _, fun w' hw => cN hw.1 rfl, _, fun w' hw => cN hw.1 rfl, odd _ k15 (.inr (.inr (.inr h3)))⟩⟩
  · -- the disk's steps
    refine ⟨_, _, _, _, _, _, _, _, _, _, _, _, _, _, _, _, _, _, _, _, _, _, _, _, _, _, _, _, _, _, ⟨c0 x1 rfl, cN x1 rfl, cN x1 rfl, cN x1 rfl, cN x1 rfl, cN x1 rfl, cN x1 rfl, cN x1 rfl, cN x1 rfl, cN x1 rfl, cN x1 rfl, cN x1 rfl, cN x1 rfl, cN x1 rfl, cN x1 rfl, cN x1 rfl, cN x1 rfl, cN x1 rfl, cN x1 rfl, cN x1 rfl, cN x1 rfl, cN x1 rfl, cN x1 rfl, cN x1 rfl, trivial⟩, ?_⟩
    refine disk_c (x := x) E1 (by omega) hx fun w2 ow2 v2 E2 F2 => ⟨_, rfl, ?_⟩
    obtain ⟨x2, t2⟩ := blk_fr x1 t1 F2 (show T7 7 from ⟨by omega, by omega⟩)
    have hd : NilF (some ⟨wb, 0, none⟩) fun d24 => (StF w2 (Addr.add d24 2) (.pointer none) fun w209 => (NilF (some ⟨wb, 0, none⟩) fun d25 => (StF w209 (Addr.add d25 3) (.pointer none) fun w210 => (true = true ∧ ∃ ow' v' o', Ex W w210 ow' wb p r f c v' o' (m + 12))))) := by
      refine NilF.intro rfl (StF.at (add1 _ _) E2.bk (Nat.le_of_ble_eq_true rfl) fun w3 b3 k3 _ => NilF.intro rfl (StF.at (add1 _ _) b3 (Nat.le_of_ble_eq_true rfl) fun w4 b4 k4 _ => ⟨rfl, ow2, v2, none, ?_⟩))
      have f4 : Fro (fun u => u ≠ 8) w2 ow2 w4 ow2 := Fro.of_kp' (k3.trans0 k4) fun j _ hj hne => hne (by rw [hj]; exact E2.tw)
      exact ⟨b4, E2.tw, E2.dd.fr f4 (by omega) (by omega) (by omega) (by omega), E2.rr.fr f4 (by omega) (by omega) (by omega) (by omega), (fun x hx => by cases hx), E2.o.fr f4 (by omega), E2.n, E2.c1, E2.c12, E2.f3, E2.sm.mono (by omega)⟩
    exact ⟨_, c0 x2 rfl, cond_eq (fun _ => hd) (fun _ => ⟨_, c0 x2 rfl, cond_eq (fun _ => hd) (fun _ => ⟨rfl, ow2, v2, o, E2.mono (by omega)⟩)⟩)⟩
end
end
section
open Go Go.RowKit Go.ChangeShapes Go.WideShapes
instance : Inhabited Op6 := ⟨⟨0, {}, {}, false, 0, 0, none, [], 0, 0, 0⟩⟩
theorem op6_open {W : World} {cs : List Value} (h : ClW Tryz.prog W T_quotalaw06_Op cs) : ∃ x : Op6, cs = x.cs ∧ x.Ok2 W := by
  have hl := h.cl.slen (s := 24) (by kernel_rfl)
  have f0 := h.cl.field 0 (e := T_int) (o := 0) (s := 1) (by kernel_rfl)
  have f1 := h.field 1 (e := T_api_Record) (o := 1) (s := 17) (by kernel_rfl)
  have f2 := h.cl.field 2 (e := T_bool) (o := 18) (s := 1) (by kernel_rfl)
  have f3 := h.cl.field 3 (e := T_int) (o := 19) (s := 1) (by kernel_rfl)
  have f4 := h.cl.field 4 (e := T_int) (o := 20) (s := 1) (by kernel_rfl)
  have f5 := h.field 5 (e := T_api_Loss) (o := 21) (s := 3) (by kernel_rfl)
  obtain ⟨r, m, hr, hra⟩ := rec_open f1
  have fp := f1.field 8 (e := T_api_Points) (o := 14) (s := 3) (by kernel_rfl)
  have fl := fp.field 0 (e := T_s_api_Live) (o := 0) (s := 1) (by kernel_rfl)
  have fd := fp.field 1 (e := T_s_api_Dirty) (o := 1) (s := 1) (by kernel_rfl)
  rw [hr] at fl fd
  have fl : ClW Tryz.prog W T_s_api_Live [.slice m.la m.ll m.lc] := fl
  have fd : ClW Tryz.prog W T_s_api_Dirty [.slice m.da m.dl m.dc] := fd
  have ll := fl.len (e := T_api_Live) (by kernel_rfl)
  have ld := fd.len (e := T_api_Dirty) (by kernel_rfl)
  have b1 : Tryz.prog.bytesOf T_api_Live = 24 := by kernel_rfl
  have b2 : Tryz.prog.bytesOf T_api_Dirty = 16 := by kernel_rfl
  have hreach : reachBytes = 140737488351232 := by decide
  rw [b1, hreach] at ll
  rw [b2, hreach] at ld
  clear fp fl fd
  match cs, hl with
  | [y0, x0, x1, x2, x3, x4, x5, x6, x7, x8, x9, x10, x11, x12, x13, x14, x15, x16, y1, y2, y3, y4, y5, y6], _ =>
    simp only [List.drop_zero, List.drop_succ_cons, List.take_succ_cons, List.take_zero] at hr f0 f2 f3 f4 f5
    obtain ⟨n0, e0, w0⟩ := f0.int (k := .i64) (by kernel_rfl)
    obtain ⟨q2, e2⟩ := f2.bool (by kernel_rfl)
    obtain ⟨n3, e3, w3⟩ := f3.int (k := .i64) (by kernel_rfl)
    obtain ⟨n4, e4, w4⟩ := f4.int (k := .i64) (by kernel_rfl)
    obtain ⟨a, l, c, keep, torn, off, e5, hL⟩ := loss_open' f5
    cases e0; cases e2; cases e3; cases e4; cases e5
    have hn := hL.n
    subst hn
    refine ⟨⟨n0, r, m, q2, n3, n4, a, keep, c, torn, off⟩, ?_, ⟨⟨hra, i64_wf w3, i64_wf w4, hL⟩, by show (m.ll + 1) * 24 ≤ _; omega, by show (m.dl + 1) * 16 ≤ _; omega⟩⟩
    unfold Op6.cs
    dsimp only
    rw [← hr]
    rfl
structure Ops6Ok (W : World) (a : Option Addr) (l : Nat) (L : List Op6) : Prop where
  n : L.length = l
  rd : Rd W a (flatV Op6.cs L)
  ok : ∀ x ∈ L, x.Ok2 W
theorem rd_flat6 {W : World} {a : Option Addr} {L : List Op6} (h : ∀ (i : Nat) (hi : i < L.length) (q : Nat) (v : Value), (L[i]).cs[q]? = some v → ∃ b o, a = some ⟨b, o, none⟩ ∧ W.cell? ⟨b, o + i * 24 + q, none⟩ = some v) : Rd W a (flatV Op6.cs L) := by
  intro j v hv
  have hj : j < L.length * 24 := by have := (List.getElem?_eq_some_iff.1 hv).1; rwa [flatV_len Op6.cs_len] at this
  have hq : j % 24 < 24 := Nat.mod_lt _ (by omega)
  have hi : j / 24 < L.length := by omega
  have e : j / 24 * 24 + j % 24 = j := by omega
  have hg := flatV_get Op6.cs_len L (j / 24) hi (j % 24) hq
  rw [e] at hg
  rw [hv] at hg
  obtain ⟨b, o, ha, hc⟩ := h (j / 24) hi (j % 24) v hg.symm
  refine ⟨b, o, ha, ?_⟩
  rwa [Nat.add_assoc, e] at hc
theorem ops6_open {W : World} {v : Value} (h : ArgW Tryz.prog W T_s_quotalaw06_Op v) : ∃ a l c L, v = .slice a l c ∧ Ops6Ok W a l L := by
  obtain ⟨a, l, c, rfl, hc⟩ := h.arg.slice (e := T_quotalaw06_Op) (by kernel_rfl)
  have hw : ClW Tryz.prog W T_s_quotalaw06_Op [.slice a l c] := h.clw
  obtain ⟨css, h1, h2⟩ := hw.cells (e := T_quotalaw06_Op) (s := 24) (by kernel_rfl) (by kernel_rfl) (by omega)
  have each : ∀ i, i < l → ∃ x : Op6, css i = x.cs ∧ x.Ok2 W := fun i hi => op6_open (h1 i hi)
  obtain ⟨f, hf⟩ := Deep.choose_lt (α := Op6) (p := fun i x => css i = x.cs ∧ x.Ok2 W) each
  refine ⟨a, l, c, (List.range l).map f, rfl, by simp, rd_flat6 fun i hi q v hv => ?_, fun x hx => ?_⟩
  · have hil : i < l := by simpa using hi
    have e : ((List.range l).map f)[i] = f i := by simp
    rw [e] at hv
    exact h2 i hil q v (by rw [(hf i hil).1]; exact hv)
  · simp only [List.mem_map, List.mem_range] at hx
    obtain ⟨i, hi, rfl⟩ := hx
    exact (hf i hi).2
theorem op6I {w : World} {a : Option Addr} {L : List Op6} (h : Rd w a (flatV Op6.cs L)) {i : Nat} (hi : i < L.length) : ∃ b o, a = some ⟨b, o, none⟩ ∧ ∀ q v, (L[i]).cs[q]? = some v → w.cell? (Addr.add ((⟨b, o, none⟩ : Addr).add (i * 24)) q) = some v := by
  have hg := fun q hq => flatV_get Op6.cs_len L i hi q hq
  obtain ⟨b, o, ha, hc⟩ := h (i * 24) (.int .i64 (L[i]).kind) (by have := hg 0 (by omega); rw [Nat.add_zero] at this; rw [this]; rfl)
  refine ⟨b, o, ha, fun q v hv => ?_⟩
  have hq : q < 24 := (List.getElem?_eq_some_iff.1 hv).1
  obtain ⟨b', o', ha', hc'⟩ := h (i * 24 + q) v (by rw [hg q hq]; exact hv)
  rw [ha] at ha'
  cases ha'
  rw [add_at, add_at, Nat.add_assoc]
  exact hc'
section
variable {R : Po}
set_option maxHeartbeats 4000000 in
theorem begun_c {W : World} {n1 n2 : Int}
    (hK : ∀ wb p r f c v o w' ow', Ex W w' ow' wb p r f c v o 12 → R (.returned (.tuple #[.pointer (some ⟨wb, 0, none⟩), .bool true])) w') : GoC Tryz.prog F_law06_begun #[.int .i64 n1, .int .i64 n2] W R := by
  refine S_law06_begun ?_
  unfold W_law06_begun
  obtain ⟨f, hf⟩ := Int.eq_ofNat_of_zero_le (Int.emod_nonneg n1 (show (4 : Int) ≠ 0 by omega))
  have hf2 := Int.emod_lt_of_pos n1 (show (0 : Int) < 4 by omega)
  obtain ⟨k, hk⟩ := Int.eq_ofNat_of_zero_le (Int.emod_nonneg n2 (show (12 : Int) ≠ 0 by omega))
  have hk2 := Int.emod_lt_of_pos n2 (show (0 : Int) < 12 by omega)
  refine brought_c (by omega) (by omega) ⟨_, rfl, brought_c (by omega) (by omega) ⟨_, rfl, ?_⟩⟩
  rw [hf] at hf2 ⊢
  rw [hk] at hk2 ⊢
  have e1 : IntKind.wrap .i64 (1 + (k : Int)) = ((1 + k : Nat) : Int) := by rw [wrap_i64 (by omega) (by omega)]; omega
  have e2 : IntKind.wrap .i64 (IntKind.wrap .i64 ((f : Int) + ((1 + k : Nat) : Int)) + 1) = ((f + (1 + k) + 1 : Nat) : Int) := by
    rw [wrap_i64 (x := (f : Int) + ((1 + k : Nat) : Int)) (by omega) (by omega), wrap_i64 (by omega) (by omega)]; omega
  rw [e1, e2]
  have hc : 1 ≤ 1 + k ∧ 1 + k ≤ 12 := by omega
  generalize 1 + k = c at hc ⊢
  have o0 : Old W W fun _ => 0 := ⟨Kp.refl _ _, fun _ _ => rfl⟩
  refine new_c (ow := fun _ => 0) (n := f + c + 1) (by omega) (by omega) 10 fun p w1 ow1 D1 k1 ag1 ge1 => ⟨_, _, rfl, ?_⟩
  have f1 : Fro (fun _ => True) W (fun _ => 0) w1 ow1 := Fro.new k1 ag1
  have o1 := o0.fr f1 trivial
  refine rnew_c (ow := ow1) (n := f + c + 1) (by omega) (by omega) 40 fun r w2 ow2 R2 k2 ag2 ge2 => ⟨_, _, rfl, cond_f rfl (num_c ⟨_, rfl, cond_f rfl ?_⟩)⟩
  have f2 : Fro (fun _ => True) w1 ow1 w2 ow2 := Fro.new k2 ag2
  have o2 := o1.fr f2 trivial
  have D2 := D1.fr f2 trivial trivial trivial trivial
  refine AlF.intro fun wb w3 hbe hb3 k3 _ => ?_
  have f3 : Fro (fun _ => True) w2 ow2 w3 (ext ow2 w2.heap.size 8) := Fro.of_kp0 8 k3
  have tb3 : ext ow2 w2.heap.size 8 wb = 8 := ext_new (by omega)
  have nn := new_n (f + c + 1)
  have E3 : Ex W w3 (ext ow2 w2.heap.size 8) wb p r f c (Dv.new (f + c + 1)) none 0 :=
    ⟨hb3, tb3, D2.fr f3 trivial trivial trivial trivial, R2.fr f3 trivial trivial trivial trivial, (fun x hx => by cases hx), o2.fr f3 trivial, by rw [nn]; omega, hc.1, hc.2, by omega, new_sm _ _⟩
  refine opens_c E3 (by omega) fun w4 ow4 v4 o4 E4 F4 hv ho => ⟨_, rfl, cond_t rfl ?_⟩
  have hz := open_zero (f := f) (c := c) (new_ok (n := f + c + 1) (by omega) (by omega)) rfl rfl (by rw [nn]; omega) hc.1 (by omega) (fun j hj => by
    unfold Dv.sect Dv.new zer512
    show ((List.replicate ((f + c + 1) * 512) (0 : UInt8)).drop ((f + j) * 512)).take 512 = _
    rw [List.drop_replicate, List.take_replicate]
    congr 1
    omega)
  have ho := ho (by rw [hz])
  match o4, E4, ho with
  | some ⟨lb, mb, g⟩, E4, _ => exact ⟨_, cN E4.bk rfl, fun k => hK wb p r f c v4 _ _ ow4 ((E4.mono (by omega)).kp0 (Kp.drew w4 k))⟩
  | none, _, ho => exact absurd rfl ho
set_option maxRecDepth 100000 in
set_option maxHeartbeats 4000000 in
theorem logExact_c {W : World} {n1 n2 : Int} {a1 : Option Addr} {l1 c1 : Nat} {L : List Op6} (hL : Ops6Ok W a1 l1 L) (hK : ∀ w', Kp no W w' → R (.returned (.bool true)) w') :
    GoC Tryz.prog F_law06_LogExact #[.int .i64 n1, .int .i64 n2, .slice a1 l1 c1] W R := by
  refine S_law06_LogExact ?_
  unfold W_law06_LogExact
  refine begun_c fun wb p r f c v o w1 ow1 E1 => ⟨_, _, rfl, cond_f rfl (awake_c fun w2 k2 => ⟨_, rfl, cond_f rfl ?_⟩)⟩
  refine loopN (fun st w' => ∃ i : Nat, i ≤ 120 ∧ st.1 = (i : Int) ∧ ∃ ow' v' o', Ex W w' ow' wb p r f c v' o' (12 + 12 * i)) (fun st _ => 120 - st.1.toNat) ⟨0, by omega, rfl, ow1, v, o, E1.kp0 k2⟩ ?_
  rintro ⟨i0, u⟩ w3 ⟨i, hi, hi0, ow3, v3, o3, E3⟩ _
  dsimp only at hi0 ⊢
  subst hi0
  have fin : CallF Tryz.prog F_law06_World_tells #[(.pointer (some ⟨wb, 0, none⟩))] w3 (fun r6 w7 => ∃ (q7 : Bool), r6 = (.bool q7) ∧ (cond q7 (CallF Tryz.prog F_law06_World_disks #[(.pointer (some ⟨wb, 0, none⟩))] w7 (fun r7 w8 => ∃ (q8 : Bool), r7 = (.bool q8) ∧ (R (.returned (.bool q8)) w8)) (PanF R)) (R (.returned (.bool false)) w7))) (PanF R) := by
    refine CallF.intro (tells_E E3 fun w4 k4 => ⟨_, rfl, cond_t rfl ?_⟩)
    have E4 := E3.kp0 k4
    exact CallF.intro (disks_c E4.bk E4.dd E4.rr (by have := E4.sm.q; omega) fun w5 k5 => ⟨_, rfl, hK w5 (E4.o.kp.trans0 k5)⟩)
  refine cond_d (fun hlt => cond_d (fun h120 => ?_) (fun _ => fin)) (fun _ => fin)
  have hiL : i < L.length := by have := hL.n; omega
  have ho := hL.ok _ (List.getElem_mem hiL)
  obtain ⟨fb, fo, fa, fc⟩ := op6I (hL.rd.kp0 E3.o.kp) hiL
  have fc0 : ∀ v, (L[i]).cs[0]? = some v → w3.cell? ((⟨fb, fo, none⟩ : Addr).add (i * 24)) = some v := fun v hv => by
    have := fc 0 v hv
    rw [add_at, add_at] at this
    rw [add_at]
    exact this
  have wi : IntKind.wrap .i64 ((i : Int) + 1) = ((i + 1 : Nat) : Int) := by rw [wrap_i64 (by omega) (by omega)]; omega
  rw [wi]
  refine ⟨by omega, hlt, _, fa, ?_⟩
  rw [Int.toNat_natCast]
  refine ⟨_, _, _, _, _, _, _, _, _, _, _, _, _, _, _, _, _, _, _, _, _, _, _, _, _, _, _, _, _, _, ⟨fc0 _ rfl, fc 1 _ rfl, fc 2 _ rfl, fc 3 _ rfl, fc 4 _ rfl, fc 5 _ rfl, fc 6 _ rfl, fc 7 _ rfl, fc 8 _ rfl, fc 9 _ rfl, fc 10 _ rfl, fc 11 _ rfl, fc 12 _ rfl, fc 13 _ rfl, fc 14 _ rfl, fc 15 _ rfl, fc 16 _ rfl, fc 17 _ rfl, fc 18 _ rfl, fc 19 _ rfl, fc 20 _ rfl, fc 21 _ rfl, fc 22 _ rfl, fc 23 _ rfl, trivial⟩, ?_⟩
  refine plays_c (x := L[i]) E3 (by omega) ho fun w4 ow4 v4 o4 E4 => ⟨_, rfl, cond_f rfl ⟨⟨i + 1, by omega, rfl, ow4, v4, o4, E4.mono (by omega)⟩, ?_⟩⟩
  show 120 - (((i + 1 : Nat) : Int)).toNat < 120 - ((i : Nat) : Int).toNat
  simp only [Int.toNat_natCast]
  omega
end
theorem logExact_walk {W : World} {v0 v1 v2 : Value} (h0 : ArgW Tryz.prog W T_int v0) (h1 : ArgW Tryz.prog W T_int v1) (h2 : ArgW Tryz.prog W T_s_quotalaw06_Op v2) : GoC Tryz.prog F_law06_LogExact #[v0, v1, v2] W fun e W' => e = .returned (.bool true) ∧ Kp no W W' := by
  obtain ⟨n, rfl, _⟩ := h0.arg.int (k := .i64) (by kernel_rfl)
  obtain ⟨n', rfl, _⟩ := h1.arg.int (k := .i64) (by kernel_rfl)
  obtain ⟨a, l, c, L, rfl, hL⟩ := ops6_open h2
  exact logExact_c hL fun w' k => ⟨rfl, k⟩
end
end Go.Proofs.YtkfdkcclojepnaaGreat
