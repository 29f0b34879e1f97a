/- The document's disk: its contracts, third part: Cache, Write, Sync. Conditions: none. -/
import Derived.Test.YtaehmogilimmfaaUe
set_option linter.unusedVariables false
set_option linter.unusedSimpArgs false
namespace Go.Proofs.Ytaehmogilimmfaa
open Go Go.RowKit

section
variable {w : World} {ow : Nat → Nat} {t b : Nat} {v : Dv} {R : Ending → World → Prop}
set_option maxRecDepth 100000 in
theorem rcache_c (h : RX w ow t b v) (hq : v.q.length ≤ 1000000) (hK : ∀ a c X w', Ca w w' a v.q.length c X → X.map PD.v = v.q → R (.returned (.slice a v.q.length c)) w') : GoC Try.prog F_ref03_Device_Cache #[.pointer (some ⟨b, 0, none⟩)] w R := by
  obtain ⟨H, Q, ka, kc, kp, kt, ko, h⟩ := h
  have hql : v.q.length = Q.length := by rw [h.l.qv]; simp
  have hok := h.l.ok
  refine S_ref03_Device_Cache ?_
  unfold W_ref03_Device_Cache
  refine loopN (fun s w' => ∃ (k : Nat) (a : Option Addr) (c : Nat) (X : List PD), s = ((a, k, c), (k : Int), ()) ∧ k ≤ Q.length ∧ Ca w w' a k c X ∧ X.map PD.v = v.q.take k) (fun s _ => Q.length - s.2.1.toNat)
    ⟨0, none, 0, [], rfl, by omega, ⟨Kp.refl _ _, Sl.nil _ _ _, rfl, fun k hk => (is_none hk).elim, fun x hx => absurd hx (by simp), List.Pairwise.nil⟩, by simp⟩ ?_
  rintro s w1 ⟨k, a, c, X, rfl, hk, hC, hX⟩ _
  dsimp only
  have h1 := h.kp0 hC.k
  refine NilF.intro rfl ⟨_, _, _, cN h1.hb rfl, cond_d (fun hlt => ?_) (fun hge => ?_)⟩
  rotate_left
  · have hke : k = Q.length := by omega
    subst hke
    have := hK a c X w1 (by rw [hql]; exact hC) (by rw [hX, ← hql, List.take_length])
    rw [hql] at this
    exact this
  have hkl : k < Q.length := by omega
  have hkw : IntKind.wrap .i64 ((k : Int) + 1) = ((k + 1 : Nat) : Int) := by rw [wrap_i64 (by omega) (by omega)]; omega
  rw [hkw]
  have hpb := h1.l.pb _ (List.getElem_mem hkl)
  have hvk : v.q.take (k + 1) = v.q.take k ++ [(Q[k]).v] := by rw [h.l.qv]; exact take_map PD.v Q k hkl
  have hqk := hok.q (Q[k]).v (by rw [h.l.qv]; exact List.mem_map_of_mem (List.getElem_mem hkl))
  obtain ⟨bq, oq, hqa, q0, q1⟩ := pdA h1.l.pl.sl.rd hkl
  generalize Q[k] = x at *
  have kd : Kp no w1 w1.drew := Kp.drew w1 1
  have la := hC.s.lt
  have sz0 := hC.k.size
  have nb : ¬ Is a b := fun hh => by have := hC.f b hh; have := h.hb.lt; omega
  have nq : ¬ Is a bq := fun hh => by have := hC.f bq hh; have := h.l.pl.sl.lt bq ⟨_, hqa, rfl⟩; omega
  refine ⟨fun w' => Kp (Is a) w1 w', kd.of_no, NilF.intro rfl ⟨_, _, _, fun w' kz => cN (kz.blk h1.hb nb) rfl, by omega, hlt, _, hqa, _, fun w' kz => by rw [Int.toNat_natCast]; exact kz.cell q0 (by rw [add_at]; exact nq), ?_⟩⟩
  refine NilF.intro rfl ⟨_, _, _, fun w' kz => cN (kz.blk h1.hb nb) rfl, by omega, hlt, _, hqa, _, _, _, fun w' kz => by rw [Int.toNat_natCast]; exact kz.cell q1 (by rw [add_at, add_at]; exact nq), ?_⟩
  have hx0 : x.a = none → x.bs.length = 0 := fun h0 => sl_some' hpb.sl h0
  refine rown_c (hpb.sl.rd.kp0 kd) rfl hx0 (by have := hqk.2.2; show x.bs.length ≤ _; have e : x.v.2.length = x.bs.length := rfl; omega) fun a4 c4 w5 hs5 k5 fr5 => ⟨_, _, _, rfl, (kd.trans0 k5).of_no, ?_⟩
  refine AlF.intro fun b2 w6 hb2e hb2 k6 s6 => ⟨((kd.trans0 k5).trans0 k6).of_no, ?_⟩
  have k16 := (kd.trans0 k5).trans0 k6
  have sz5 := k5.size
  have szd := kd.size
  refine append_own er_pd (hC.s.kp0 k16) (rd_cells (xs := PD.cs ⟨x.sec, a4, c4, x.bs⟩) hb2 rfl) rfl (fun h => by cases h) (fun u hu => by
    simp only [PD.cs, List.mem_cons, List.not_mem_nil, or_false] at hu
    rcases hu with rfl | rfl <;> rfl) (by omega) (by omega) fun a5 c5 w7 hs7 k7 hi7 _ _ => ⟨_, _, _, rfl, k16.of_no.trans0 k7, ?_⟩
  have la4 := hs5.lt
  refine ⟨⟨k + 1, a5, c5, X ++ [⟨x.sec, a4, c4, x.bs⟩], rfl, by omega, ⟨?_, ?_, by simp [hC.n], fun j hj => ?_, fun y hy => ?_, List.pairwise_append.2 ⟨hC.d, List.pairwise_singleton _ _, fun y hy z hz j hj hj' => ?_⟩⟩, ?_⟩, by simp only [Int.toNat_natCast]; omega⟩
  · exact (hC.k.trans0 k16).trans k7 (fun _ _ h => h) fun j hj hh => by have := hC.f j hh; omega
  · have e : fP (X ++ [⟨x.sec, a4, c4, x.bs⟩]) = fP X ++ PD.cs ⟨x.sec, a4, c4, x.bs⟩ := by unfold fP; rw [flatV_app]; simp [flatV]
    rw [e]
    exact hs7
  · rcases hi7 j hj with hh | hh
    · exact hC.f j hh
    · have := k6.size; omega
  · rcases List.mem_append.1 hy with hy | hy
    · obtain ⟨q1, q2, q3⟩ := hC.x y hy
      refine ⟨(q1.kp0 k16).kp k7 q3, q2, fun j hj hh => ?_⟩
      have := q1.lt j hj
      rcases hi7 j hh with h' | h'
      · exact q3 j hj h'
      · have := k6.size; omega
    · rw [List.mem_singleton] at hy
      subst hy
      refine ⟨(hs5.kp0 k6).kp k7 fun j hj hh => ?_, fun j hj => ?_, fun j hj hh => ?_⟩
      · have := fr5 j hj; have := la j hh; omega
      · have := fr5 j hj; omega
      · have q1 := fr5 j hj
        have q2 := la4 j hj
        rcases hi7 j hh with h' | h'
        · have := la j h'; omega
        · have := k6.size; omega
  · rw [List.mem_singleton] at hz
    subst hz
    have := (hC.x y hy).1.lt j hj
    have := fr5 j hj'
    omega
  · rw [hvk, List.map_append, hX]
    rfl

set_option maxRecDepth 100000 in
theorem rwrite_c {i : Int} {a : Option Addr} {l c : Nat} {bs : List UInt8} (h : RX w ow t b v) (hr : Bs w ow t a bs) (hl : bs.length = l) (hq : v.q.length ≤ 999999) (hln : v.keep.length * 8 ≤ 140737488355328)
    (hK : ∀ w' ow', RX w' ow' t b (v.write i bs).2 → Fro (Td t) w ow w' ow' → R (.returned (.int .i64 ((v.write i bs).1 : Int))) w') :
    GoC Try.prog F_ref03_Device_Write #[.pointer (some ⟨b, 0, none⟩), .int .i64 i, .slice a l c] w R := by
  subst hl
  have hX := h
  obtain ⟨H, Q, ka, kc, kp, kt, ko, h⟩ := h
  have hql : v.q.length = Q.length := by rw [h.l.qv]; simp
  refine S_ref03_Device_Write ?_
  unfold W_ref03_Device_Write
  have same : ∀ n, v.write i bs = (n, v) → R (.returned (.int .i64 (n : Int))) w := fun n e => by
    have := hK w ow (by rw [e]; exact hX) ⟨Kp.refl _ _, fun _ _ _ => rfl⟩
    rw [e] at this
    exact this
  refine NilF.intro rfl ⟨v.down, cN h.hb rfl, cond_b (fun hd => ?_) (fun hd => ?_)⟩
  · exact same 40 (by unfold Dv.write; rw [if_pos hd])
  have ed : ∀ {A B : Nat × Dv}, (if v.down then A else B) = B := fun {A B} => by rw [hd, if_neg (by decide)]
  refine rthere_c hX ⟨_, rfl, cond_not (cond_d (fun hth => ?_) (fun hth => ?_))⟩
  rotate_left
  · exact same 41 (by unfold Dv.write; rw [ed, if_pos hth])
  refine cond_ne (fun hbl => ?_) (fun hbl => ?_)
  · exact same 42 (by unfold Dv.write; rw [ed, if_neg (by simpa using hth), if_pos (by omega)])
  have hb5 : bs.length = 512 := by omega
  have kd : Kp no w w.drew := Kp.drew w 1
  have nb : ¬ Is H.pa b := fun hh => by have := h.l.pl.tg b hh; have := h.bt; omega
  refine ⟨fun w' => Kp (Is H.pa) w w', kd.of_no, NilF.intro rfl ⟨_, _, _, fun w' kz => cN (kz.blk h.hb nb) rfl, ?_⟩⟩
  refine rown_c (hr.rd.rd.kp0 kd) rfl hr.nn hr.ln fun a3 c3 w3 hsl3 k3 fr3 => ⟨_, _, _, rfl, (kd.trans0 k3).of_no, ?_⟩
  refine AlF.intro fun b1 w4 hb1e hb1 k4 s4 => ⟨((kd.trans0 k3).trans0 k4).of_no, ?_⟩
  have k24 := (kd.trans0 k3).trans0 k4
  have f4 : Fro (fun _ => True) w ow w4 (ext ow w.heap.size (t + 3)) := Fro.of_kp0 (t + 3) k24
  have h4 := h.fr f4 trivial trivial trivial trivial
  have hb4 : SlT w4 (ext ow w.heap.size (t + 3)) T_uint8 1 a3 bs.length c3 (bvs bs) (t + 3) := ⟨hsl3.kp0 k4, fun j hj => ext_new (fr3 j hj)⟩
  generalize ext ow w.heap.size (t + 3) = ow4 at *
  refine app_c er_pd h4.l.pl (rd_cells (xs := PD.cs ⟨i, a3, c3, bs⟩) hb1 rfl) rfl (fun h => by cases h) (fun u hu => by
    simp only [PD.cs, List.mem_cons, List.not_mem_nil, or_false] at hu
    rcases hu with rfl | rfl <;> rfl) (by omega) (by omega) fun a4 c4 w5 hs5 k5 f5 => ⟨_, _, _, rfl, k24.of_no.trans0 k5, ?_⟩
  obtain ⟨hbd5, hbt5⟩ := blk_fr h4.hb h4.bt f5 (by omega)
  refine NilF.intro rfl (stb (add1 b 1) hbd5 hbt5 (by simp [Dh.rs]) fun w6 hb6 f6 s6 => ?_)
  have f46 : Fro (fun u => u ≠ t ∧ u ≠ t + 2) w4 ow4 w6 (ext ow4 w4.heap.size (t + 2)) := (f5.mono fun u hu => hu.2).trans (f6.mono fun u hu => hu.1)
  have hokA := h4.l.ok.add (i := i) (b := bs) hth hb5
  have h6 : RP w6 (ext ow4 w4.heap.size (t + 2)) t b ⟨H.ia, H.ic, a4, c4⟩ (Q ++ [⟨i, a3, c3, bs⟩]) ka kc kp kt ko (v.add i bs) := by
    refine ⟨⟨h4.l.im.fr f46 (by omega), ?_, fun x hx => ?_, ?_, hokA⟩, ?_, hbt5, h4.ks.fr f46 (by omega), h4.kl, h4.ke⟩
    · have := hs5.fr f6 (by omega)
      rw [List.length_append]
      show SlT w6 _ T_api_Pending 2 a4 (Q.length + 1) c4 (fP (Q ++ [⟨i, a3, c3, bs⟩])) (t + 2)
      have e : fP (Q ++ [⟨i, a3, c3, bs⟩]) = fP Q ++ PD.cs ⟨i, a3, c3, bs⟩ := by unfold fP; rw [flatV_app]; simp [flatV]
      rw [e]
      exact this
    · rcases List.mem_append.1 hx with hx | hx
      · exact (h4.l.pb x hx).fr f46 (by omega)
      · rw [List.mem_singleton] at hx
        subst hx
        exact hb4.fr f46 (by omega)
    · show v.q ++ [(i, bs)] = (Q ++ ([⟨i, a3, c3, bs⟩] : List PD)).map PD.v
      rw [h.l.qv, List.map_append]
      rfl
    · rw [List.length_append]
      exact hb6
  have f06 : Fro (Td t) w ow w6 (ext ow4 w4.heap.size (t + 2)) := (f4.mono fun _ _ => trivial).trans (f46.mono fun u hu => ⟨hu.1, hu.2.2⟩)
  refine counted_c h6 fun w7 h7 f7 => ⟨_, rfl, cond_d (fun hs => ?_) (fun hs => ?_)⟩
  · have hs' : v.step = 1 := hs
    have e : v.write i bs = (40, (v.bump.add i bs).fall v.keep v.torn v.off) := by unfold Dv.write; rw [ed, if_neg (by simpa using hth), if_neg (by omega), if_pos hs']
    obtain ⟨rfl, rfl, rfl⟩ := h.ke (by omega)
    refine NilF.intro rfl ⟨_, _, _, _, _, ⟨cN h7.hb rfl, cNM h7.hb rfl, cNM h7.hb rfl, trivial⟩, rfall_c h7 (rkp_ls h7 hln) (by rw [List.length_append]; simp; omega) fun w' ow' h' f' => ⟨rfl, ?_⟩⟩
    have := hK w' ow' (by rw [e]; exact h') ((f06.trans (f7.mono fun u hu => hu.1)).trans (f'.mono fun u hu => ⟨hu.1, hu.2.1⟩))
    rw [e] at this
    exact this
  · have hs' : ¬ v.step = 1 := hs
    have e : v.write i bs = (0, v.bump.add i bs) := by unfold Dv.write; rw [ed, if_neg (by simpa using hth), if_neg (by omega), if_neg hs']
    have := hK w7 _ (by rw [e]; exact ⟨_, _, _, _, _, _, _, h7⟩) (f06.trans (f7.mono fun u hu => hu.1))
    rw [e] at this
    exact this

set_option maxRecDepth 100000 in
theorem rsync_c (h : RX w ow t b v) (hq : v.q.length ≤ 1000000) (hln : v.keep.length * 8 ≤ 140737488355328) (hK : ∀ w' ow', RX w' ow' t b v.sync.2 → Fro (Td t) w ow w' ow' → R (.returned (.int .i64 (v.sync.1 : Int))) w') :
    GoC Try.prog F_ref03_Device_Sync #[.pointer (some ⟨b, 0, none⟩)] w R := by
  obtain ⟨H, Q, ka, kc, kp, kt, ko, h⟩ := h
  have hql : v.q.length = Q.length := by rw [h.l.qv]; simp
  refine S_ref03_Device_Sync ?_
  unfold W_ref03_Device_Sync
  refine NilF.intro rfl ⟨v.down, cN h.hb rfl, cond_b (fun hd => ?_) (fun hd => ?_)⟩
  · have e : v.sync = (40, v) := by unfold Dv.sync; rw [if_pos hd]
    have := hK w ow (by rw [e]; exact ⟨H, Q, ka, kc, kp, kt, ko, h⟩) ⟨Kp.refl _ _, fun _ _ _ => rfl⟩
    rw [e] at this
    exact this
  refine counted_c h fun w1 h1 f1 => ⟨_, rfl, cond_d (fun hs => ?_) (fun hs => ?_)⟩
  · have e : v.sync = (40, v.bump.fall v.keep v.torn v.off) := by unfold Dv.sync; rw [hd, if_neg (by decide), if_pos hs]
    obtain ⟨rfl, rfl, rfl⟩ := h.ke (by omega)
    refine NilF.intro rfl ⟨_, _, _, _, _, ⟨cN h1.hb rfl, cNM h1.hb rfl, cNM h1.hb rfl, trivial⟩, rfall_c h1 (rkp_ls h1 hln) (by omega) fun w' ow' h' f' => ⟨rfl, ?_⟩⟩
    have := hK w' ow' (by rw [e]; exact h') ((f1.mono fun u hu => hu.1).trans (f'.mono fun u hu => ⟨hu.1, hu.2.1⟩))
    rw [e] at this
    exact this
  have e : v.sync = (0, v.bump.synced) := by unfold Dv.sync; rw [hd, if_neg (by decide), if_neg hs]
  have hok := h1.l.ok
  have hlen : v.img.length = v.n * 512 := hok.len
  have hM1 := h1.md
  have hcsz : (H.rs Q.length v.bump.img.length v.bump.down v.bump.calls v.bump.step ka kp.length kc kt ko).size = 8 := rfl
  generalize hcE : H.rs Q.length v.bump.img.length v.bump.down v.bump.calls v.bump.step ka kp.length kc kt ko = cs at *
  have hfin : cs.setIfInBounds 1 (.slice none 0 0) = (⟨H.ia, H.ic, none, 0⟩ : Dh).rs 0 v.img.length v.down v.bump.calls v.bump.step ka kp.length kc kt ko := by rw [← hcE]; rfl
  have hQv : ∀ k (hk : k < Q.length), v.q[k]? = some ((Q[k]).sec, (Q[k]).bs) := fun k hk => by rw [h.l.qv]; simp [hk, PD.v]
  refine loopN (fun s w' => ∃ (k : Nat) (ow' : Nat → Nat) (img : List UInt8), s.1 = (k : Int) ∧ k ≤ Q.length ∧ syncL (v.q.drop k) img = syncL v.q v.img ∧ Md w' ow' t b H Q v.n img cs ∧ Fro (fun u => u ≠ t + 1) w1 ow w' ow') (fun s _ => Q.length - s.1.toNat)
    ⟨0, ow, v.img, rfl, by omega, by simp, hM1, ⟨Kp.refl _ _, fun _ _ _ => rfl⟩⟩ ?_
  rintro ⟨k0, u⟩ w2 ⟨k, ow2, img, hk0, hk, hfl, hM, f2⟩ _
  dsimp only at hk0 ⊢
  subst hk0
  refine NilF.intro rfl ⟨_, _, _, cN hM.hb hM.c1, cond_d (fun hlt => ?_) (fun hge => ?_)⟩
  · have hkl : k < Q.length := by omega
    have hkw : IntKind.wrap .i64 ((k : Int) + 1) = ((k + 1 : Nat) : Int) := by rw [wrap_i64 (by omega) (by omega)]; omega
    rw [hkw]
    have hx := hM.ok _ (List.getElem_mem hkl)
    have hst := syncL_step v.q k img (by omega)
    have hvk : v.q[k]'(by omega) = ((Q[k]).sec, (Q[k]).bs) := by have := hQv k hkl; rw [List.getElem?_eq_getElem (by omega)] at this; exact Option.some.inj this
    rw [hvk] at hst
    dsimp only at hst
    have t512 : (Q[k]).bs.take (512 : Int).toNat = (Q[k]).bs := List.take_of_length_le (by rw [hx.2.2]; decide)
    exact NilF.intro rfl (lay_q hM hkl (by decide) fun w' ow' hM' f' => ⟨⟨k + 1, ow', _, rfl, by omega, by rw [t512, ← hst]; exact hfl, hM', f2.trans f'⟩, by simp only [Int.toNat_natCast]; omega⟩)
  · have hke : k = Q.length := by omega
    subst hke
    rw [List.drop_eq_nil_of_le (by omega), syncL] at hfl
    refine NilF.intro rfl (stb (add1 b 1) hM.hb hM.bt (by rw [hcsz]; decide) fun w11 hb11 f11 s11 => ?_)
    rw [hfin] at hb11
    have hlen' : (syncL v.q v.img).length = v.img.length := by rw [← hfl, hM.il, hlen]
    have := hK w11 ow2 (by
      rw [e]
      refine ⟨⟨H.ia, H.ic, none, 0⟩, [], ka, kc, kp, kt, ko, ⟨?_, slt_nil _ _ _ _ _, fun x hx => absurd hx (by simp), rfl, hok.synced⟩, ?_, hM.bt, (h1.ks.fr f2 (by omega)).fr f11 (by omega), h1.kl, h1.ke⟩
      · show SlT w11 ow2 T_uint8 1 H.ia (syncL v.q v.img).length H.ic (bvs (syncL v.q v.img)) (t + 1)
        rw [← hfl, hM.il]
        exact hM.im.fr f11 (by omega)
      · show Blk w11 b ((⟨H.ia, H.ic, none, 0⟩ : Dh).rs 0 (syncL v.q v.img).length v.down v.bump.calls v.bump.step ka kp.length kc kt ko) T_quotaref03_Device
        rw [hlen']
        exact hb11) (((f1.mono fun u hu => hu.1).trans (f2.mono fun u hu => hu.2.1)).trans (f11.mono fun u hu => hu.1))
    rw [e] at this
    exact this
end
end Go.Proofs.Ytaehmogilimmfaa
