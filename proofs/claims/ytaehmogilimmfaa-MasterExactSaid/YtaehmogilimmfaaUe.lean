/- The document's disk: its contracts, second part. Conditions: none. -/
import Derived.Test.YtaehmogilimmfaaUd
set_option linter.unusedVariables false
set_option linter.unusedSimpArgs false
namespace Go.Proofs.Ytaehmogilimmfaa
open Go Go.RowKit

section
variable {w : World} {ow : Nat → Nat} {t b : Nat} {v : Dv} {R : Ending → World → Prop}
theorem rkp_ls {kc : Nat} {H : Dh} {Q : List PD} {ka : Option Addr} {kp : List Nat} {kt ko : Int} (h : RP w ow t b H Q ka kc kp kt ko v) (hln : kp.length * 8 ≤ 140737488355328) : Ls w ow t ka kp :=
  ⟨h.ks.rdT.mono fun u hu => ⟨by omega, by omega, by omega⟩, h.kl, hln, fun h0 => by have := h.ks.sl; rw [h0] at this; exact (this.zero).1⟩
/-- An element of a list of pending writes: where it lies. -/
theorem pdA {a : Option Addr} {Q : List PD} (h : Rd w a (fP Q)) {i : Nat} (hi : i < Q.length) : ∃ b o, a = some ⟨b, o, none⟩ ∧ w.cell? ((⟨b, o, none⟩ : Addr).add (i * 2)) = some (.int .i64 (Q[i]).sec) ∧ w.cell? (Addr.add ((⟨b, o, none⟩ : Addr).add (i * 2)) 1) = some (.slice (Q[i]).a (Q[i]).bs.length (Q[i]).c) := by
  have h0 : (fP Q)[i * 2 + 0]? = some (.int .i64 (Q[i]).sec) := by unfold fP; rw [flatV_get PD.cs_len Q i hi 0 (by omega)]; rfl
  have h1 : (fP Q)[i * 2 + 1]? = some (.slice (Q[i]).a (Q[i]).bs.length (Q[i]).c) := by unfold fP; rw [flatV_get PD.cs_len Q i hi 1 (by omega)]; rfl
  obtain ⟨b, o, ha, c0⟩ := h _ _ h0
  obtain ⟨b', o', ha', c1⟩ := h _ _ h1
  rw [ha] at ha'
  cases ha'
  exact ⟨b, o, ha, by rw [add_at]; exact c0, by rw [add_at, add_at, Nat.add_assoc]; exact c1⟩

theorem rcrash_c {la : Option Addr} {lc : Nat} {keep : List Nat} {torn off : Int} (h : RX w ow t b v) (hl : Ls w ow t la keep) (hq : v.q.length ≤ 1000000)
    (hK : ∀ w' ow', RX w' ow' t b (v.crash keep torn off).2 → Fro (Td t) w ow w' ow' → R (.returned (.int .i64 ((v.crash keep torn off).1 : Int))) w') :
    GoC Try.prog F_ref03_Device_Crash #[.pointer (some ⟨b, 0, none⟩), .agg #[.slice la keep.length lc, .int .i64 torn, .int .i64 off]] w R := by
  obtain ⟨H, Q, ka, kc, kp, kt, ko, h⟩ := h
  refine S_ref03_Device_Crash ?_
  unfold W_ref03_Device_Crash
  refine AlF.intro fun b1 w1 hb1e hb1 k1 s1 => ?_
  have f1 : Fro (fun _ => True) w ow w1 (ext ow w.heap.size (t + 3)) := Fro.of_kp0 (t + 3) k1
  have h1 := h.fr f1 trivial trivial trivial trivial
  have hl1 := hl.fr f1 fun _ _ => trivial
  refine NilF.intro rfl ⟨v.down, cN h1.hb rfl, cond_b (fun hd => ?_) (fun hd => ?_)⟩
  · have e : v.crash keep torn off = (40, v) := by unfold Dv.crash; rw [if_pos hd]
    have := hK w1 _ (by rw [e]; exact ⟨H, Q, ka, kc, kp, kt, ko, h1⟩) (f1.mono fun _ _ => trivial)
    rw [e] at this
    exact this
  · have e : v.crash keep torn off = (0, v.fall keep torn off) := by unfold Dv.crash; rw [hd, if_neg (by decide)]
    refine ⟨_, _, _, _, _, ⟨c0 hb1 rfl, cN hb1 rfl, cN hb1 rfl, trivial⟩, rfall_c h1 hl1 (by have := h.l.qv; rw [this] at hq; simpa using hq) fun w' ow' h' f' => ⟨rfl, ?_⟩⟩
    have := hK w' ow' (by rw [e]; exact h') ((f1.mono fun _ _ => trivial).trans (f'.mono fun u hu => ⟨hu.1, hu.2.1⟩))
    rw [e] at this
    exact this

theorem rarm_c {step : Int} {la : Option Addr} {lc : Nat} {keep : List Nat} {torn off : Int} (h : RX w ow t b v) (hl : Ls w ow t la keep) (hs : step ≤ 9223372036854775807)
    (hK : ∀ w' ow', RX w' ow' t b (v.arm step keep torn off).2 → Fro (Td t) w ow w' ow' → R (.returned (.int .i64 ((v.arm step keep torn off).1 : Int))) w') :
    GoC Try.prog F_ref03_Device_Arm #[.pointer (some ⟨b, 0, none⟩), .int .i64 step, .agg #[.slice la keep.length lc, .int .i64 torn, .int .i64 off]] w R := by
  obtain ⟨H, Q, ka, kc, kp, kt, ko, h⟩ := h
  refine S_ref03_Device_Arm ?_
  unfold W_ref03_Device_Arm
  refine AlF.intro fun b1 w1 hb1e hb1 k1 s1 => ?_
  have f1 : Fro (fun _ => True) w ow w1 (ext ow w.heap.size (t + 3)) := Fro.of_kp0 (t + 3) k1
  have ht1 : ext ow w.heap.size (t + 3) b1 = t + 3 := ext_new (by omega)
  have h1 := h.fr f1 trivial trivial trivial trivial
  have hl1 := hl.fr f1 fun _ _ => trivial
  generalize ext ow w.heap.size (t + 3) = ow1 at *
  have same : ∀ n, v.arm step keep torn off = (n, v) → R (.returned (.int .i64 (n : Int))) w1 := fun n e => by
    have := hK w1 ow1 (by rw [e]; exact ⟨H, Q, ka, kc, kp, kt, ko, h1⟩) (f1.mono fun _ _ => trivial)
    rw [e] at this
    exact this
  refine NilF.intro rfl ⟨v.down, cN h1.hb rfl, cond_b (fun hd => ?_) (fun hd => cond_d (fun hneg => ?_) (fun hnn => ?_))⟩
  · exact same 40 (by unfold Dv.arm; rw [if_pos hd])
  · exact same 4 (by unfold Dv.arm; rw [hd, if_neg (by decide), if_pos hneg])
  have e : v.arm step keep torn off = (0, { v with step := step, keep := keep, torn := torn, off := off }) := by unfold Dv.arm; rw [hd, if_neg (by decide), if_neg hnn]
  refine NilF.intro rfl (stb (add1 b 4) h1.hb h1.bt (by simp [Dh.rs]) fun w2 hb2 f2 s2 => ?_)
  have kd : Kp no w2 w2.drew := Kp.drew w2 1
  have hb12 := f2.kp.blk hb1 (fun hn => hn (by rw [ht1]; omega))
  have nb1 : ¬ b1 = b := fun hh => by have := h1.bt; rw [← hh] at this; omega
  have hr2 := (hl1.fr f2 fun u hu => hu.1).rd.rd
  refine ⟨fun w' => Kp (fun k => k = b) w2 w', kd.of_no, _, _, _, fun w' kz => c0 (kz.blk hb12 nb1) rfl, _, fun w' kz => cN (kz.blk hb12 nb1) rfl, _, fun w' kz => cN (kz.blk hb12 nb1) rfl, ?_⟩
  refine append_new er_u64 (hr2.kp0 kd) (by simp) hl.nn (u64_one keep) (by have := hl.ln; omega) (by have := hl.ln; omega) fun a3 c3 w3 hsl3 k3 fr3 _ => ⟨_, _, _, rfl, (kd.trans0 k3).of_no, ?_⟩
  have k23 := kd.trans0 k3
  have f3 : Fro (fun _ => True) w2 ow1 w3 (ext ow1 w2.heap.size (t + 3)) := Fro.of_kp0 (t + 3) k23
  have hb3 := k23.blk hb2 id
  have hbt3 : ext ow1 w2.heap.size (t + 3) b = t := by rw [ext_old hb2.lt]; exact h1.bt
  have hk3 : SlT w3 (ext ow1 w2.heap.size (t + 3)) T_uint64 1 a3 keep.length c3 (keep.map u64v) (t + 3) := ⟨hsl3, fun j hj => ext_new (fr3 j hj)⟩
  have l3 := ((h1.l.fr f2 (by omega) (by omega) (by omega)).fr f3 trivial trivial trivial)
  refine NilF.intro rfl (StF.at (add1 b 5) hb3 (by simp [Dh.rs]) fun w4 hb4 k4 s4 => StF.at (add2 b 5 1) hb4 (by simp [Dh.rs]) fun w5 hb5 k5 s5 => StF.at (add2 b 5 2) hb5 (by simp [Dh.rs]) fun w6 hb6 k6 s6 => ?_)
  have k36 := (k4.trans0 k5).trans0 k6
  have f6 : Fro (fun u => u ≠ t) w3 (ext ow1 w2.heap.size (t + 3)) w6 (ext ow1 w2.heap.size (t + 3)) := Fro.of_kp' k36 fun b' _ hb' hne => hne (by rw [hb']; exact hbt3)
  have l6 := l3.fr f6 (by omega) (by omega) (by omega)
  refine ⟨k23.of_no.trans0 k36, ?_⟩
  have := hK w6 (ext ow1 w2.heap.size (t + 3)) (by
    rw [e]
    refine ⟨H, Q, a3, c3, keep, torn, off, ⟨l6.im, l6.pl, l6.pb, l6.qv, ?_⟩, hb6, hbt3, hk3.fr f6 (by omega), hl.lt, fun _ => ⟨rfl, rfl, rfl⟩⟩
    have := h.l.ok.arm torn off hs hl.lt (step := step) (keep := keep)
    rw [e] at this
    exact this) ((((f1.mono fun _ _ => trivial).trans (f2.mono fun u hu => hu.1)).trans (f3.mono fun _ _ => trivial)).trans (f6.mono fun u hu => hu.1))
  rw [e] at this
  exact this

/-- A new disk of the document's. -/
theorem rdev_new {w1 w2 : World} {b1 ic : Nat} {ia : Option Addr} {img : List UInt8} (k1 : Kp no w w1) (him : Sl w1 T_uint8 1 ia img.length ic (bvs img)) (fr : Fresh w ia) (hok : (Dv.load img).Ok) (hb : Blk w2 b1 #[.slice ia img.length ic, .slice none 0 0, .bool false, .int .i64 0, .int .i64 0, .slice none 0 0, .int .i64 0, .int .i64 0] T_quotaref03_Device) (k2 : Kp no w1 w2) (hbe : b1 = w1.heap.size) (t : Nat) :
    ∃ ow', RX w2 ow' t b1 (Dv.load img) ∧ ∀ j, j < w.heap.size → ow' j = ow j := by
  have sz := k1.size
  refine ⟨tag (Is ia) (t + 1) (ext ow w.heap.size t), ⟨⟨ia, ic, none, 0⟩, [], none, 0, [], 0, 0, ⟨⟨him.kp0 k2, fun j hj => tag_in hj⟩, slt_nil _ _ _ _ _, fun x hx => absurd hx (by simp), rfl, hok⟩, hb, ?_, slt_nil _ _ _ _ _, fun x hx => absurd hx (by simp), fun hh => absurd rfl hh⟩, fun j hj => ?_⟩
  · rw [tag_out fun hh => by have := him.lt b1 hh; omega, ext_new (by omega)]
  · rw [tag_out fun hh => by have := fr j hh; omega, ext_old hj]
theorem rnew_c {n : Nat} (h1 : 1 ≤ n) (h2 : n ≤ 8192) (t : Nat) (hK : ∀ b w' ow', RX w' ow' t b (Dv.new n) → Kp no w w' → (∀ j, j < w.heap.size → ow' j = ow j) → w.heap.size ≤ b → R (.returned (.tuple #[.pointer (some ⟨b, 0, none⟩), .int .i64 0])) w') : GoC Try.prog F_ref03_New #[.int .i64 (n : Int)] w R := by
  refine S_ref03_New ?_
  unfold W_ref03_New
  refine cond_f (decide_eq_false (by omega)) (cond_f (decide_eq_false (by omega)) ?_)
  have e : IntKind.wrap .i64 ((n : Int) * 512) = ((n * 512 : Nat) : Int) := by rw [wrap_i64 (by omega) (by omega)]; omega
  rw [e]
  refine make_u8 (n := n * 512) (by omega) fun bi w1 cur hbi hcur k1 hbe => ⟨_, _, _, rfl, AlF.intro fun b1 w2 hb1e hb1 k2 s2 => ?_⟩
  have hl : (List.replicate (n * 512) (0 : UInt8)).length = n * 512 := List.length_replicate
  have him : Sl w1 T_uint8 1 (some ⟨bi, 0, none⟩) (List.replicate (n * 512) (0 : UInt8)).length (n * 512) (bvs (List.replicate (n * 512) (0 : UInt8))) := by
    refine ⟨by rw [bvs_len]; omega, by omega, .inr ⟨bi, cur, rfl, hbi, ?_, ?_⟩⟩
    · have := congrArg List.length hcur
      rw [bvs_len, hl] at this
      simpa using this
    · rw [hcur, List.take_of_length_le (by rw [bvs_len]; omega)]
  obtain ⟨ow', hd, ho⟩ := rdev_new (ow := ow) (img := List.replicate (n * 512) 0) (b1 := b1) (w2 := w2) k1 him (fun k hk => by obtain ⟨_, he, rfl⟩ := hk; cases he; show w.heap.size ≤ bi; omega) (Dv.Ok.load hl h1 h2) (by rw [hl]; exact hb1) k2 hb1e t
  exact hK b1 w2 ow' hd (k1.trans0 k2) ho (by have := k1.size; omega)
theorem rnew_bad_c {n : Int} (h : n < 1 ∨ 8192 < n) (hK : R (.returned (.tuple #[.pointer none, .int .i64 4])) w) : GoC Try.prog F_ref03_New #[.int .i64 n] w R := by
  refine S_ref03_New ?_
  unfold W_ref03_New
  refine cond_d (fun h1 => hK) (fun h1 => cond_d (fun h2 => hK) (fun h2 => ?_))
  omega
theorem readL_step (i : Int) (q : List (Int × List UInt8)) (k : Nat) (bs : List UInt8) (hk : k < q.length) : readL i (q.drop k) bs = readL i (q.drop (k + 1)) (if (q[k]).1 = i then (q[k]).2 else bs) := by
  rw [List.drop_eq_getElem_cons hk, readL]

set_option maxRecDepth 100000 in
theorem rread_c {i : Int} (h : RX w ow t b v) (hq : v.q.length ≤ 1000000)
    (hK : ∀ a' l' c' w', Kp no w w' → Sl w' T_uint8 1 a' l' c' (bvs (v.read i).1) → Fresh w a' → R (.returned (.tuple #[.slice a' l' c', .int .i64 ((v.read i).2 : Int)])) w') :
    GoC Try.prog F_ref03_Device_Read #[.pointer (some ⟨b, 0, none⟩), .int .i64 i] w R := by
  have hX := h
  obtain ⟨H, Q, ka, kc, kp, kt, ko, h⟩ := h
  have hok := h.l.ok
  have hlen := hok.len
  have hn2 := hok.n2
  have hql : v.q.length = Q.length := by rw [h.l.qv]; simp
  have nil_ : ∀ n, v.read i = ([], n) → R (.returned (.tuple #[.slice none 0 0, .int .i64 (n : Int)])) w := fun n e => by
    have := hK none 0 0 w (Kp.refl _ _) (by rw [e]; exact Sl.nil _ _ _) (fun k hk => (is_none hk).elim)
    rw [e] at this
    exact this
  refine S_ref03_Device_Read ?_
  unfold W_ref03_Device_Read
  refine NilF.intro rfl ⟨v.down, cN h.hb rfl, cond_b (fun hd => nil_ 40 (by unfold Dv.read; rw [if_pos hd])) (fun hd => ?_)⟩
  refine rthere_c hX ⟨_, rfl, cond_not (cond_d (fun hth => ?_) (fun hth => nil_ 41 (by unfold Dv.read; rw [hd, if_neg (by decide), if_pos hth])))⟩
  have hth1 := hth.1
  have hth2 := hth.2
  obtain ⟨I, rfl⟩ : ∃ I : Nat, i = (I : Int) := ⟨i.toNat, by omega⟩
  have e : v.read (I : Int) = (readL (I : Int) v.q (v.sect I), 0) := by unfold Dv.read; rw [hd, if_neg (by decide), if_neg (by simpa using hth), Int.toNat_natCast]
  have e1 : IntKind.wrap .i64 ((I : Int) * 512) = ((I * 512 : Nat) : Int) := by rw [wrap_i64 (by omega) (by omega)]; omega
  have e2 : IntKind.wrap .i64 (((I * 512 : Nat) : Int) + 512) = ((I * 512 + 512 : Nat) : Int) := by rw [wrap_i64 (by omega) (by omega)]; omega
  rw [e1, e2]
  have him := h.l.im.sl
  refine NilF.intro rfl ⟨_, _, _, c0 h.hb rfl, ⟨by omega, by have := him.2.1; omega⟩, ⟨by omega, by simp only [hiOf]; omega⟩, ?_⟩
  rw [Int.toNat_natCast, Int.toNat_natCast, show I * 512 + 512 - I * 512 = 512 by omega]
  have hrd : Rd w (subA H.ia H.ic (I * 512) 1) (bvs (v.sect I)) := by
    unfold Dv.sect
    rw [← bvs_take]
    exact (rd_drop him.rd him.2.1).take _
  have hsl : (v.sect I).length = 512 := by unfold Dv.sect; rw [List.length_take, List.length_drop]; omega
  have nn : subA H.ia H.ic (I * 512) 1 = none → (512 : Nat) = 0 := fun h0 => by
    obtain ⟨_, _, he, _⟩ := hrd 0 _ (bvs_get (by omega))
    rw [h0] at he
    cases he
  refine rown_c hrd hsl nn (by decide) fun a2 c2 w2 hs2 k2 fr2 => ⟨_, _, _, rfl, ?_⟩
  refine loopN (fun s w' => ∃ (k : Nat) (a : Option Addr) (c : Nat) (bs : List UInt8), s = ((a, 512, c), (k : Int), ()) ∧ k ≤ Q.length ∧ bs.length = 512 ∧ Kp no w w' ∧ Sl w' T_uint8 1 a 512 c (bvs bs) ∧ Fresh w a ∧ readL (I : Int) (v.q.drop k) bs = readL (I : Int) v.q (v.sect I)) (fun s _ => Q.length - s.2.1.toNat)
    ⟨0, a2, c2, _, rfl, by omega, hsl, k2, hs2, fr2, by simp⟩ ?_
  rintro s w3 ⟨k, a, c, bs, rfl, hk, hbl, k3, hs3, fr3, hrl⟩ _
  dsimp only
  have h3 := h.kp0 k3
  refine NilF.intro rfl ⟨_, _, _, cN h3.hb rfl, cond_d (fun hlt => ?_) (fun hge => ?_)⟩
  · have hkl : k < Q.length := by omega
    have hkw : IntKind.wrap .i64 ((k : Int) + 1) = ((k + 1 : Nat) : Int) := by rw [wrap_i64 (by omega) (by omega)]; omega
    rw [hkw]
    have hvk : v.q[k]'(by omega) = ((Q[k]).sec, (Q[k]).bs) := by simp only [h.l.qv, List.getElem_map, PD.v]
    have hst := readL_step (I : Int) v.q k bs (by omega)
    rw [hvk] at hst
    dsimp only at hst
    have hqk := hok.q ((Q[k]).sec, (Q[k]).bs) (by rw [← hvk]; exact List.getElem_mem _)
    obtain ⟨bq, oq, hqa, q0, q1⟩ := pdA h3.l.pl.sl.rd hkl
    refine NilF.intro rfl ⟨_, _, _, cN h3.hb rfl, by omega, hlt, _, hqa, _, by rw [Int.toNat_natCast]; exact q0, cond_eq (fun hse => ?_) (fun hsn => ?_)⟩
    · rw [if_pos hse] at hst
      have hpb := (h3.l.pb _ (List.getElem_mem hkl)).sl
      refine NilF.intro rfl ⟨_, _, _, cN h3.hb rfl, by omega, hlt, _, hqa, _, _, _, by rw [Int.toNat_natCast]; exact q1, ?_⟩
      refine rown_c hpb.rd rfl (fun h0 => sl_some' hpb h0) (by rw [hqk.2.2]; decide) fun a4 c4 w4 hs4 k4 fr4 => ⟨_, _, _, rfl, ?_⟩
      rw [hqk.2.2] at hs4 ⊢
      exact ⟨⟨k + 1, a4, c4, _, rfl, by omega, hqk.2.2, k3.trans0 k4, hs4, fun j hj => by have := fr4 j hj; have := k3.size; omega, by rw [← hst]; exact hrl⟩, by simp only [Int.toNat_natCast]; omega⟩
    · rw [if_neg hsn] at hst
      exact ⟨⟨k + 1, a, c, bs, rfl, by omega, hbl, k3, hs3, fr3, by rw [← hst]; exact hrl⟩, by simp only [Int.toNat_natCast]; omega⟩
  · have hke : k = Q.length := by omega
    subst hke
    rw [List.drop_eq_nil_of_le (by omega), readL] at hrl
    have := hK a 512 c w3 k3 (by rw [e, ← hrl]; exact hs3) fr3
    rw [e] at this
    exact this
end
end Go.Proofs.Ytaehmogilimmfaa
