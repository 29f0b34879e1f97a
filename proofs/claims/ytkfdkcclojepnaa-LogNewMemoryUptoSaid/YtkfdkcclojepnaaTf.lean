/- The disk's other calls: their contracts. Conditions: none. -/
import Derived.Test.YtkfdkcclojepnaaTe
set_option linter.unusedVariables false
set_option linter.unusedSimpArgs false
namespace Go.Proofs.Ytkfdkcclojepnaa
open Go Go.RowKit

/-- The program's disk, wherever its lists lie. -/
def DX (w : World) (ow : Nat → Nat) (t b : Nat) (v : Dv) : Prop := ∃ (H : Dh) (Q : List PD) (ka : Option Addr) (kc : Nat), DP w ow t b H Q ka kc v
theorem DX.fr {T : Nat → Prop} {w w' : World} {ow ow' : Nat → Nat} {t b : Nat} {v : Dv} (h : DX w ow t b v) (f : Fro T w ow w' ow') (h0 : T t) (h1 : T (t + 1)) (h2 : T (t + 2)) (h3 : T (t + 3)) : DX w' ow' t b v := by
  obtain ⟨H, Q, ka, kc, h⟩ := h
  exact ⟨H, Q, ka, kc, h.fr f h0 h1 h2 h3⟩
theorem DX.kp0 {w w' : World} {ow : Nat → Nat} {t b : Nat} {v : Dv} (h : DX w ow t b v) (k : Kp no w w') : DX w' ow t b v := h.fr (Fro.kp0 k) trivial trivial trivial trivial
theorem DX.ok {w : World} {ow : Nat → Nat} {t b : Nat} {v : Dv} (h : DX w ow t b v) : v.Ok := by
  obtain ⟨H, Q, ka, kc, h⟩ := h
  exact h.l.ok
theorem DX.lt {w : World} {ow : Nat → Nat} {t b : Nat} {v : Dv} (h : DX w ow t b v) : b < w.heap.size := by
  obtain ⟨H, Q, ka, kc, h⟩ := h
  exact h.hb.lt
section
variable {w : World} {ow : Nat → Nat} {t b : Nat} {v : Dv} {R : Ending → World → Prop}
theorem size_c (h : DX w ow t b v) (hK : R (.returned (.int .i64 (v.n : Int))) w) : GoC Try.prog F_sectors_Device_Sectors #[.pointer (some ⟨b, 0, none⟩)] w R := by
  obtain ⟨H, Q, ka, kc, h⟩ := h
  have := h.l.ok.len
  have := h.l.ok.n2
  exact sectors_c (c0 h.hb rfl) (by omega) (by have e : v.img.length / 512 = v.n := rfl; rw [e]; exact hK)
theorem down_c (h : DX w ow t b v) (hK : R (.returned (.bool v.down)) w) : GoC Try.prog F_sectors_Device_Down #[.pointer (some ⟨b, 0, none⟩)] w R := by
  obtain ⟨H, Q, ka, kc, h⟩ := h
  refine S_sectors_Device_Down ?_
  exact ⟨_, cN h.hb rfl, hK⟩
theorem calls_c (h : DX w ow t b v) (hK : R (.returned (.int .i64 v.calls)) w) : GoC Try.prog F_sectors_Device_Calls #[.pointer (some ⟨b, 0, none⟩)] w R := by
  obtain ⟨H, Q, ka, kc, h⟩ := h
  refine S_sectors_Device_Calls ?_
  exact ⟨_, cN h.hb rfl, hK⟩
theorem up_c (h : DX w ow t b v) (hK : ∀ w' ow', DX w' ow' t b v.up → Fro (Td t) w ow w' ow' → R (.returned (.int .i64 0)) w') : GoC Try.prog F_sectors_Device_Up #[.pointer (some ⟨b, 0, none⟩)] w R := by
  obtain ⟨H, Q, ka, kc, h⟩ := h
  refine S_sectors_Device_Up ?_
  unfold W_sectors_Device_Up
  refine NilF.intro rfl (stb (add1 b 6) h.hb h.bt (by simp [Dh.cs]) fun w1 hb1 f1 s1 => NilF.intro rfl (stb (add1 b 2) hb1 h.bt (by simp [Dh.cs]) fun w2 hb2 f2 s2 => ?_))
  have f := f1.trans f2
  have l2 := h.l.fr f (by omega) (by omega) (by omega)
  exact hK w2 ow ⟨H, Q, ka, kc, ⟨l2.im, l2.pl, l2.pb, l2.qv, h.l.ok.up⟩, hb2, h.bt, h.kp.fr f (by omega)⟩ (f.mono fun u hu => hu.1)
theorem readX_c {i : Int} (h : DX w ow t b v) (hq : v.q.length ≤ 1000000)
    (hK : ∀ a' l' c' w', Kp no w w' → Sl w' T_uint8 1 a' l' c' (bvs (v.read i).1) → Fresh w a' → R (.returned (.tuple #[.slice a' l' c', .int .i64 ((v.read i).2 : Int)])) w') :
    GoC Try.prog F_sectors_Device_Read #[.pointer (some ⟨b, 0, none⟩), .int .i64 i] w R := by
  obtain ⟨H, Q, ka, kc, h⟩ := h
  exact read_c h (by have := h.l.qv; rw [this] at hq; simpa using hq) hK
theorem crash_c {la : Option Addr} {lc : Nat} {keep : List Nat} {torn off : Int} (h : DX w ow t b v) (hl : Ls w ow t la keep) (hq : v.q.length ≤ 1000000)
    (hK : ∀ w' ow', DX w' ow' t b (v.crash keep torn off).2 → Fro (Td t) w ow w' ow' → R (.returned (.int .i64 ((v.crash keep torn off).1 : Int))) w') :
    GoC Try.prog F_sectors_Device_Crash #[.pointer (some ⟨b, 0, none⟩), .agg #[.slice la keep.length lc, .int .i64 torn, .int .i64 off]] w R := by
  obtain ⟨H, Q, ka, kc, h⟩ := h
  refine S_sectors_Device_Crash ?_
  unfold W_sectors_Device_Crash
  refine AlF.intro fun b1 w1 hb1e hb1 k1 s1 => ?_
  have f1 : Fro (fun _ => True) w ow w1 (ext ow w.heap.size (t + 3)) := Fro.of_kp0 (t + 3) k1
  have h1 := h.fr f1 trivial trivial trivial trivial
  have hl1 := hl.fr f1 fun _ _ => trivial
  refine ⟨v.down, cN h1.hb rfl, cond_b (fun hd => ?_) (fun hd => ?_)⟩
  · have e : v.crash keep torn off = (40, v) := by unfold Dv.crash; rw [if_pos hd]
    have := hK w1 _ (by rw [e]; exact ⟨H, Q, ka, kc, h1⟩) (f1.mono fun _ _ => trivial)
    rw [e] at this
    exact this
  · have e : v.crash keep torn off = (0, v.fall keep torn off) := by unfold Dv.crash; rw [hd, if_neg (by decide)]
    refine ⟨_, _, _, _, _, ⟨c0 hb1 rfl, cN hb1 rfl, cN hb1 rfl, trivial⟩, fall_c h1 hl1 (by have := h.l.qv; rw [this] at hq; simpa using hq) fun H' w' ow' h' f' => ⟨_, rfl, ?_⟩⟩
    have := hK w' ow' (by rw [e]; exact ⟨H', [], none, 0, h'⟩) ((f1.mono fun _ _ => trivial).trans (f'.mono fun u hu => ⟨hu.1, hu.2.1⟩))
    rw [e] at this
    exact this
theorem kp_ls {ka : Option Addr} {kc : Nat} {H : Dh} {Q : List PD} (h : DP w ow t b H Q ka kc v) (hln : v.keep.length * 8 ≤ 140737488355328) : Ls w ow t ka v.keep :=
  ⟨h.kp.rdT.mono fun u hu => ⟨by omega, by omega, by omega⟩, h.l.ok.keep, hln, fun h0 => by have := h.kp.sl; rw [h0] at this; exact (this.zero).1⟩
theorem sync_c (h : DX w ow t b v) (hq : v.q.length ≤ 1000000) (hln : v.keep.length * 8 ≤ 140737488355328) (hK : ∀ w' ow', DX w' ow' t b v.sync.2 → Fro (Td t) w ow w' ow' → R (.returned (.int .i64 (v.sync.1 : Int))) w') :
    GoC Try.prog F_sectors_Device_Sync #[.pointer (some ⟨b, 0, none⟩)] w R := by
  obtain ⟨H, Q, ka, kc, h⟩ := h
  have hql : v.q.length = Q.length := by rw [h.l.qv]; simp
  refine S_sectors_Device_Sync ?_
  unfold W_sectors_Device_Sync
  refine ⟨v.down, cN h.hb rfl, cond_b (fun hd => ?_) (fun hd => ?_)⟩
  · have e : v.sync = (40, v) := by unfold Dv.sync; rw [if_pos hd]
    have := hK w ow (by rw [e]; exact ⟨H, Q, ka, kc, h⟩) ⟨Kp.refl _ _, fun _ _ _ => rfl⟩
    rw [e] at this
    exact this
  refine crashes_c h fun w1 h1 f1 => ⟨_, rfl, cond_d (fun hs => ?_) (fun hs => ?_)⟩
  · have e : v.sync = (40, v.bump.fall v.keep v.torn v.off) := by unfold Dv.sync; rw [hd, if_neg (by decide), if_pos hs]
    refine ⟨_, _, _, _, _, ⟨cN h1.hb rfl, cNM h1.hb rfl, cNM h1.hb rfl, trivial⟩, fall_c (v := v.bump) (keep := v.keep) h1 (kp_ls (v := v.bump) h1 hln) (by omega) fun H' w' ow' h' f' => ⟨_, rfl, ?_⟩⟩
    have := hK w' ow' (by rw [e]; exact ⟨H', [], none, 0, h'⟩) ((f1.mono fun u hu => hu.1).trans (f'.mono fun u hu => ⟨hu.1, hu.2.1⟩))
    rw [e] at this
    exact this
  have e : v.sync = (0, v.bump.synced) := by unfold Dv.sync; rw [hd, if_neg (by decide), if_neg hs]
  have hok := h1.l.ok
  have hn2 := hok.n2
  have hlen : v.img.length = v.n * 512 := hok.len
  have hnn : v.bump.n = v.n := rfl
  refine ⟨_, _, _, cN h1.hb rfl, ?_⟩
  have hQv : ∀ k (hk : k < Q.length), v.q[k]? = some ((Q[k]).sec, (Q[k]).bs) := fun k hk => by rw [h.l.qv]; simp [hk, PD.v]
  refine loopN (fun s w' => ∃ (k : Nat) (ow' : Nat → Nat) (img : List UInt8), s.1 = (k : Int) ∧ k ≤ Q.length ∧ img.length = v.n * 512 ∧ syncL (v.q.drop k) img = syncL v.q v.img ∧ SlT w' ow' T_uint8 1 H.ia (v.n * 512) H.ic (bvs img) (t + 1) ∧ Fro (fun u => u ≠ t + 1) w1 ow w' ow') (fun s _ => Q.length - s.1.toNat)
    ⟨0, ow, v.img, rfl, by omega, hlen, by simp, by have : SlT w1 ow T_uint8 1 H.ia v.img.length H.ic (bvs v.img) (t + 1) := h1.l.im; rw [hlen] at this; exact this, ⟨Kp.refl _ _, fun _ _ _ => rfl⟩⟩ ?_
  rintro ⟨k0, u⟩ w2 ⟨k, ow2, img, hk0, hk, hil, hfl, him, f2⟩ _
  dsimp only at hk0 ⊢
  subst hk0
  refine cond_d (fun hlt => ?_) (fun hge => ?_)
  · have hkl : k < Q.length := by omega
    have hkw : IntKind.wrap .i64 ((k : Int) + 1) = ((k + 1 : Nat) : Int) := by rw [wrap_i64 (by omega) (by omega)]; omega
    rw [hkw]
    have hpl2 := h1.l.pl.fr f2 (by omega)
    have hqk := hok.q ((Q[k]).sec, (Q[k]).bs) (List.mem_of_getElem? (hQv k hkl))
    dsimp only at hqk
    have hpb := (h1.l.pb _ (List.getElem_mem hkl)).fr f2 (by omega)
    refine pdI hpl2.sl.rd hkl rfl rfl ?_
    have hsec : (Q[k]).sec = (((Q[k]).sec.toNat : Nat) : Int) := by omega
    generalize hx : Q[k] = x at *
    refine AlF.intro fun b2 w3 hb2e hb2 k3 s3 => st2 hb2 fun w5 hb25 k5 s5 => ?_
    have k25 : Kp no w2 w5 := kp_blk k3 (by omega) k5
    have f5 : Fro (fun _ => True) w2 ow2 w5 (ext ow2 w2.heap.size (t + 3)) := Fro.of_kp0 (t + 3) k25
    have ht2 : ext ow2 w2.heap.size (t + 3) b2 = t + 3 := ext_new (by omega)
    have f15 : Fro (fun u => u ≠ t + 1) w1 ow w5 (ext ow2 w2.heap.size (t + 3)) := f2.trans (f5.mono fun _ _ => trivial)
    have him5 := him.fr f5 trivial
    have hpb5 := hpb.fr f5 trivial
    generalize ext ow2 w2.heap.size (t + 3) = ow5 at *
    obtain ⟨hbd6, _⟩ := blk_fr h1.hb h1.bt f15 (by omega)
    have hbd6' : w5.cell? ⟨b, 0, none⟩ = some (.slice H.ia (v.n * 512) H.ic) := by have := c0 hbd6 (v := .slice H.ia v.img.length H.ic) rfl; rwa [hlen] at this
    have hst := syncL_step v.q k img (by omega)
    have hvk : v.q[k]'(by omega) = (x.sec, x.bs) := by have := hQv k hkl; rw [List.getElem?_eq_getElem (by omega)] at this; simp only [hx] at this; exact Option.some.inj this
    rw [hvk] at hst
    dsimp only at hst
    have hx0 : x.a = none → x.bs = [] := fun h0 => by
      have := hpb5.sl
      rw [h0] at this
      obtain ⟨e1, _⟩ := this.zero
      exact List.eq_nil_of_length_eq_zero e1
    have hin : x.sec.toNat < v.n := by omega
    rw [hsec] at hb25
    refine lay_h him5 hn2 hin hbd6' hb25 (by omega) hpb5.sl.rd hx0 (by omega) fun w8 hs8 f8 => ⟨⟨k + 1, ow5, _, rfl, by omega, ?_, by rw [← hst]; exact hfl, hs8, f15.trans f8⟩, by simp only [Int.toNat_natCast]; omega⟩
    rw [ovr_len (by rw [hil]; omega)]
    exact hil
  · have hke : k = Q.length := by omega
    subst hke
    rw [List.drop_eq_nil_of_le (by omega), syncL] at hfl
    obtain ⟨hbd, hbt⟩ := blk_fr h1.hb h1.bt f2 (by omega)
    refine NilF.intro rfl (stb (add1 b 1) hbd hbt (by simp [Dh.cs]) fun w11 hb11 f11 s11 => ?_)
    have hlen' : (syncL v.q v.img).length = v.img.length := by rw [← hfl, hil]; exact hlen.symm
    have := hK w11 ow2 (by
      rw [e]
      refine ⟨⟨H.ia, H.ic, none, 0⟩, [], ka, kc, ⟨?_, slt_nil _ _ _ _ _, fun x hx => absurd hx (by simp), rfl, hok.synced⟩, ?_, hbt, (h1.kp.fr f2 (by omega)).fr f11 (by omega)⟩
      · show SlT w11 ow2 T_uint8 1 H.ia (syncL v.q v.img).length H.ic (bvs (syncL v.q v.img)) (t + 1)
        rw [← hfl, hil]
        exact him.fr f11 (by omega)
      · show Blk w11 b #[.slice H.ia (syncL v.q v.img).length H.ic, .slice none 0 0, .int .i64 v.bump.step, .slice ka v.keep.length kc, .int .i64 v.torn, .int .i64 v.off, .bool v.down, .int .i64 v.bump.calls] T_sectors_Device
        rw [hlen']
        exact hb11) (((f1.mono fun u hu => hu.1).trans (f2.mono fun u hu => hu.2.1)).trans (f11.mono fun u hu => hu.1))
    rw [e] at this
    exact this
end
end Go.Proofs.Ytkfdkcclojepnaa
