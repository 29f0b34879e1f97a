/- The document's disk: its contracts, by the same plain disk. Conditions: none. -/
import Derived.Test.YtaehmogilimmfaaTg3
import Derived.Test.YtaehmogilimmfaaTl2
set_option linter.unusedVariables false
set_option linter.unusedSimpArgs false
namespace Go.Proofs.Ytaehmogilimmfaa
open Go Go.RowKit

def Dh.rs (H : Dh) (n il : Nat) (gone : Bool) (count step : Int) (ka : Option Addr) (kn kc : Nat) (kt ko : Int) : Array Value := #[.slice H.ia il H.ic, .slice H.pa n H.pc, .bool gone, .int .i64 count, .int .i64 step, .slice ka kn kc, .int .i64 kt, .int .i64 ko]
/-- The document's disk. -/
structure RP (w : World) (ow : Nat → Nat) (t b : Nat) (H : Dh) (Q : List PD) (ka : Option Addr) (kc : Nat) (kp : List Nat) (kt ko : Int) (v : Dv) : Prop where
  l : DL w ow t H Q v
  hb : Blk w b (H.rs Q.length v.img.length v.down v.calls v.step ka kp.length kc kt ko) T_quotaref03_Device
  bt : ow b = t
  ks : SlT w ow T_uint64 1 ka kp.length kc (kp.map u64v) (t + 3)
  kl : ∀ x ∈ kp, x < 18446744073709551616
  ke : v.step ≠ 0 → kp = v.keep ∧ kt = v.torn ∧ ko = v.off
section
variable {T : Nat → Prop} {w w' : World} {ow ow' : Nat → Nat} {t b kc : Nat} {H : Dh} {Q : List PD} {ka : Option Addr} {kp : List Nat} {kt ko : Int} {v : Dv}
theorem RP.fr (h : RP w ow t b H Q ka kc kp kt ko v) (f : Fro T w ow w' ow') (h0 : T t) (h1 : T (t + 1)) (h2 : T (t + 2)) (h3 : T (t + 3)) : RP w' ow' t b H Q ka kc kp kt ko v :=
  ⟨h.l.fr f h1 h2 h3, (blk_fr h.hb h.bt f h0).1, (blk_fr h.hb h.bt f h0).2, h.ks.fr f h3, h.kl, h.ke⟩
theorem RP.kp0 (h : RP w ow t b H Q ka kc kp kt ko v) (k : Kp no w w') : RP w' ow t b H Q ka kc kp kt ko v := h.fr (Fro.kp0 k) trivial trivial trivial trivial
end
def RX (w : World) (ow : Nat → Nat) (t b : Nat) (v : Dv) : Prop := ∃ (H : Dh) (Q : List PD) (ka : Option Addr) (kc : Nat) (kp : List Nat) (kt ko : Int), RP w ow t b H Q ka kc kp kt ko v
theorem RX.fr {T : Nat → Prop} {w w' : World} {ow ow' : Nat → Nat} {t b : Nat} {v : Dv} (h : RX w ow t b v) (f : Fro T w ow w' ow') (h0 : T t) (h1 : T (t + 1)) (h2 : T (t + 2)) (h3 : T (t + 3)) : RX w' ow' t b v := by
  obtain ⟨H, Q, ka, kc, kp, kt, ko, h⟩ := h
  exact ⟨H, Q, ka, kc, kp, kt, ko, h.fr f h0 h1 h2 h3⟩
theorem RX.kp0 {w w' : World} {ow : Nat → Nat} {t b : Nat} {v : Dv} (h : RX w ow t b v) (k : Kp no w w') : RX w' ow t b v := h.fr (Fro.kp0 k) trivial trivial trivial trivial
theorem RX.ok {w : World} {ow : Nat → Nat} {t b : Nat} {v : Dv} (h : RX w ow t b v) : v.Ok := by
  obtain ⟨H, Q, ka, kc, kp, kt, ko, h⟩ := h
  exact h.l.ok
theorem RX.lt {w : World} {ow : Nat → Nat} {t b : Nat} {v : Dv} (h : RX w ow t b v) : b < w.heap.size := by
  obtain ⟨H, Q, ka, kc, kp, kt, ko, h⟩ := h
  exact h.hb.lt

section
variable {w : World} {ow : Nat → Nat} {t b : Nat} {v : Dv} {R : Ending → World → Prop}
theorem rsize_c (h : RX w ow t b v) (hK : R (.returned (.int .i64 (v.n : Int))) w) : GoC Try.prog F_ref03_Device_Sectors #[.pointer (some ⟨b, 0, none⟩)] w R := by
  obtain ⟨H, Q, ka, kc, kp, kt, ko, h⟩ := h
  have := h.l.ok.len
  have := h.l.ok.n2
  refine S_ref03_Device_Sectors ?_
  unfold W_ref03_Device_Sectors
  refine ⟨_, _, _, c0 h.hb rfl, by decide, ?_⟩
  have e : IntKind.wrap .i64 (Int.tdiv (v.img.length : Int) 512) = (v.n : Int) := by
    rw [show Int.tdiv (v.img.length : Int) 512 = (v.n : Int) from rfl]
    exact wrap_i64 (by omega) (by omega)
  rw [e]
  exact hK
theorem rthere_c {i : Int} (h : RX w ow t b v) (hK : R (.returned (.bool (decide (v.there i)))) w) : GoC Try.prog F_ref03_Device_there #[.pointer (some ⟨b, 0, none⟩), .int .i64 i] w R := by
  refine S_ref03_Device_there ?_
  unfold W_ref03_Device_there
  refine cond_d (fun h1 => rsize_c h ⟨_, rfl, ?_⟩) (fun h1 => ?_)
  · have e : decide (i < (v.n : Int)) = decide (v.there i) := by
      rw [Bool.eq_iff_iff, decide_eq_true_eq, decide_eq_true_eq]
      exact ⟨fun h2 => ⟨h1, h2⟩, fun h2 => h2.2⟩
    rw [e]
    exact hK
  · rw [decide_eq_false (fun h2 : v.there i => h1 h2.1)] at hK
    exact hK
theorem rdown_c (h : RX w ow t b v) (hK : R (.returned (.bool v.down)) w) : GoC Try.prog F_ref03_Device_Down #[.pointer (some ⟨b, 0, none⟩)] w R := by
  obtain ⟨H, Q, ka, kc, kp, kt, ko, h⟩ := h
  refine S_ref03_Device_Down ?_
  exact ⟨_, cN h.hb rfl, hK⟩
theorem rcalls_c (h : RX w ow t b v) (hK : R (.returned (.int .i64 v.calls)) w) : GoC Try.prog F_ref03_Device_Calls #[.pointer (some ⟨b, 0, none⟩)] w R := by
  obtain ⟨H, Q, ka, kc, kp, kt, ko, h⟩ := h
  refine S_ref03_Device_Calls ?_
  exact ⟨_, cN h.hb rfl, hK⟩
theorem rup_c (h : RX w ow t b v) (hK : ∀ w' ow', RX w' ow' t b v.up → Fro (Td t) w ow w' ow' → R (.returned (.int .i64 0)) w') : GoC Try.prog F_ref03_Device_Up #[.pointer (some ⟨b, 0, none⟩)] w R := by
  obtain ⟨H, Q, ka, kc, kp, kt, ko, h⟩ := h
  refine S_ref03_Device_Up ?_
  unfold W_ref03_Device_Up
  refine NilF.intro rfl (stb (add1 b 2) h.hb h.bt (by simp [Dh.rs]) fun w1 hb1 f1 s1 => NilF.intro rfl (stb (add1 b 4) hb1 h.bt (by simp [Dh.rs]) fun w2 hb2 f2 s2 => ?_))
  have f := f1.trans f2
  have l2 := h.l.fr f (by omega) (by omega) (by omega)
  exact hK w2 ow ⟨H, Q, ka, kc, kp, kt, ko, ⟨l2.im, l2.pl, l2.pb, l2.qv, h.l.ok.up⟩, hb2, h.bt, h.ks.fr f (by omega), h.kl, fun hh => absurd rfl hh⟩ (f.mono fun u hu => hu.1)
theorem rown_c {a : Option Addr} {l c : Nat} {bs : List UInt8} (hr : Rd w a (bvs bs)) (hl : bs.length = l) (h0 : a = none → l = 0) (hb : l ≤ 140737488355328)
    (h : ∀ a' c' w', Sl w' T_uint8 1 a' l c' (bvs bs) → Kp no w w' → Fresh w a' → R (.returned (.slice a' l c')) w') : GoC Try.prog F_ref03_own #[.slice a l c] w R := by
  refine S_ref03_own ?_
  unfold W_ref03_own
  exact append_new er_u8 hr (by rw [bvs_len]; omega) h0 bvs_one (by omega) (by omega) fun a' c' w' hs k fr _ => ⟨_, _, _, rfl, h a' c' w' hs k fr⟩
theorem rimage_c (h : RX w ow t b v) (hK : ∀ a' c' w', Sl w' T_uint8 1 a' v.img.length c' (bvs v.img) → Kp no w w' → Fresh w a' → R (.returned (.slice a' v.img.length c')) w') : GoC Try.prog F_ref03_Device_Image #[.pointer (some ⟨b, 0, none⟩)] w R := by
  obtain ⟨H, Q, ka, kc, kp, kt, ko, h⟩ := h
  have hlen := h.l.ok.len
  have hn2 := h.l.ok.n2
  refine S_ref03_Device_Image ?_
  unfold W_ref03_Device_Image
  exact ⟨_, _, _, c0 h.hb rfl, rown_c h.l.im.sl.rd rfl (sl_some' h.l.im.sl) (by omega) fun a' c' w' hs k fr => ⟨_, _, _, rfl, hK a' c' w' hs k fr⟩⟩
end

section
variable {w : World} {ow : Nat → Nat} {t b kc : Nat} {H : Dh} {Q : List PD} {ka : Option Addr} {kp : List Nat} {kt ko : Int} {v : Dv}
theorem counted_c {R : Ending → World → Prop} (h : RP w ow t b H Q ka kc kp kt ko v) (hK : ∀ w', RP w' ow t b H Q ka kc kp kt ko v.bump → Fro (fun u => u ≠ t) w ow w' ow → R (.returned (.bool (decide (v.step = 1)))) w') : GoC Try.prog F_ref03_Device_counted #[.pointer (some ⟨b, 0, none⟩)] w R := by
  refine S_ref03_Device_counted ?_
  unfold W_ref03_Device_counted
  have hst := h.l.ok.step
  have hke : v.bump.step ≠ 0 → kp = v.bump.keep ∧ kt = v.bump.torn ∧ ko = v.bump.off := fun hne => h.ke fun h0 => hne (by show (if v.step = 0 then (0 : Int) else v.step - 1) = 0; rw [if_pos h0])
  refine NilF.intro rfl ⟨v.calls, cN h.hb rfl, NilF.intro rfl (stb (add1 b 3) h.hb h.bt (by simp [Dh.rs]) fun w1 hb1 f1 s1 => ?_)⟩
  have l1 := h.l.fr f1 (by omega) (by omega) (by omega)
  have kp1 := h.ks.fr f1 (by omega)
  refine NilF.intro rfl ⟨v.step, cN hb1 rfl, cond_eq (fun h0 => ?_) (fun hne => NilF.intro rfl ⟨v.step, cN hb1 rfl, NilF.intro rfl (stb (add1 b 4) hb1 h.bt (by simp [Dh.rs]) fun w2 hb2 f2 s2 => NilF.intro rfl ⟨_, cN hb2 rfl, ?_⟩)⟩)⟩
  · have e : decide (v.step = 1) = false := decide_eq_false (by omega)
    have e2 : v.bump = { v with calls := IntKind.wrap .i64 (v.calls + 1), step := v.step } := by unfold Dv.bump; rw [if_pos h0, h0]
    have := hK w1 ⟨l1.bump, by rw [e2]; exact hb1, h.bt, kp1, h.kl, hke⟩ f1
    rw [e] at this
    exact this
  · have ew : IntKind.wrap .i64 (v.step - 1) = v.step - 1 := wrap_i64 (by omega) (by omega)
    rw [ew] at hb2 ⊢
    have e : (v.step - 1 == 0) = decide (v.step = 1) := by rw [Bool.eq_iff_iff, beq_iff_eq, decide_eq_true_eq]; omega
    have e2 : v.bump = { v with calls := IntKind.wrap .i64 (v.calls + 1), step := v.step - 1 } := by unfold Dv.bump; rw [if_neg hne]
    rw [e]
    exact hK w2 ⟨(l1.fr f2 (by omega) (by omega) (by omega)).bump, by rw [e2]; exact hb2, h.bt, kp1.fr f2 (by omega), h.kl, hke⟩ (f1.trans f2)
end

set_option maxRecDepth 100000 in
theorem lay_c {w : World} {ow : Nat → Nat} {t b n ic i sc : Nat} {ia sa : Option Addr} {img bs : List UInt8} {m : Int} {cs : Array Value} {X : TypeId} {R : Ending → World → Prop} (him : SlT w ow T_uint8 1 ia (n * 512) ic (bvs img) (t + 1)) (hil : img.length = n * 512) (hn : n ≤ 8192) (hi : i < n) (hb : Blk w b cs X) (hbt : ow b ≠ t + 1) (hc : cs[0]? = some (.slice ia (n * 512) ic))
    (hs : SlT w ow T_uint8 1 sa bs.length sc (bvs bs) (t + 3)) (hbl : bs.length = 512) (hm : 0 ≤ m)
    (hK : ∀ w' ow', SlT w' ow' T_uint8 1 ia (n * 512) ic (bvs (ovr img (i * 512) (bs.take m.toNat))) (t + 1) → Fro (fun u => u ≠ t + 1) w ow w' ow' → R (.returned (.tuple #[])) w') :
    GoC Try.prog F_ref03_Device_lay #[.pointer (some ⟨b, 0, none⟩), .agg #[.int .i64 (i : Int), .slice sa bs.length sc], .int .i64 m] w R := by
  refine S_ref03_Device_lay ?_
  unfold W_ref03_Device_lay
  refine AlF.intro fun b1 w1 hb1e hb1 k1 s1 => ?_
  have f1 : Fro (fun _ => True) w ow w1 (ext ow w.heap.size (t + 3)) := Fro.of_kp0 (t + 3) k1
  have ht1 : ext ow w.heap.size (t + 3) b1 = t + 3 := ext_new (by omega)
  have him1 := him.fr f1 trivial
  have hs1 := hs.fr f1 trivial
  obtain ⟨hbb1, hbt1⟩ := blk_fr hb rfl f1 trivial
  generalize ext ow w.heap.size (t + 3) = ow1 at *
  refine loopN (fun s w' => ∃ k : Nat, s.1 = (k : Int) ∧ k ≤ 512 ∧ (k : Int) ≤ m ∧ SlT w' ow1 T_uint8 1 ia (n * 512) ic (bvs (ovr img (i * 512) (bs.take k))) (t + 1) ∧ Fro (fun u => u ≠ t + 1) w1 ow1 w' ow1) (fun s _ => 512 - s.1.toNat)
    ⟨0, rfl, by omega, by omega, by simpa [ovr_nil] using him1, ⟨Kp.refl _ _, fun _ _ _ => rfl⟩⟩ ?_
  rintro ⟨k0, u⟩ w2 ⟨k, hk0, hk, hkm, him2, f2⟩ _
  dsimp only at hk0 ⊢
  subst hk0
  have fin : bs.take m.toNat = bs.take k → R (.returned (.tuple #[])) w2 := fun e => hK w2 ow1 (by rw [e]; exact him2) ((f1.mono fun _ _ => trivial).trans f2)
  refine cond_d (fun hlt => cond_d (fun hlt2 => ?_) (fun hge => ?_)) (fun hge => ?_)
  · have kd : Kp no w2 w2.drew := Kp.drew w2 1
    have fd : Fro (fun _ => True) w2 ow1 w2.drew ow1 := Fro.kp0 kd
    have hkw : IntKind.wrap .i64 ((k : Int) + 1) = ((k + 1 : Nat) : Int) := by rw [wrap_i64 (by omega) (by omega)]; omega
    have e1 : IntKind.wrap .i64 ((i : Int) * 512) = ((i * 512 : Nat) : Int) := by rw [wrap_i64 (by omega) (by omega)]; omega
    have e2 : IntKind.wrap .i64 (((i * 512 : Nat) : Int) + (k : Int)) = ((i * 512 + k : Nat) : Int) := by rw [wrap_i64 (by omega) (by omega)]; omega
    rw [hkw]
    have hbb2 := (blk_fr hbb1 rfl f2 (by rw [hbt1]; exact hbt)).1
    have hb12 := (blk_fr hb1 ht1 f2 (by omega)).1
    have hs2 := hs1.fr f2 (by omega)
    have hkb : k < bs.length := by omega
    obtain ⟨b', o', hsa, hcell⟩ := (hs2.sl.rd.kp0 kd) k _ (bvs_get hkb)
    refine NilF.intro rfl ⟨_, _, _, c0 (kd.blk hbb2 id) hc, (i : Int), c0 (kd.blk hb12 id) rfl, _, _, _, cN (kd.blk hb12 id) rfl, by omega, by omega, _, hsa, ((bs[k]).toNat : Int), by rw [Int.toNat_natCast, add_at]; exact hcell, ?_⟩
    rw [e1, e2]
    obtain ⟨bi, cur, hia, _⟩ := him2.sl.addr (by omega)
    refine ⟨by omega, by omega, _, hia, ?_⟩
    refine slt_put (him2.fr fd trivial) hia (i := i * 512 + k) (by omega) (by rw [Int.toNat_natCast, add_at]) fun w3 him3 f3 => ?_
    have e3 : (Value.int .u8 ((bs[k]).toNat : Int)) = bv bs[k] := rfl
    have e4 : (bs.take k).length = k := by rw [List.length_take]; omega
    have e5 := ovr_set (l := img) (x := bs.take k) (i := i * 512) (c := bs[k]) (by rw [e4, hil]; omega)
    rw [e4] at e5
    rw [e3, bvs_set, e5, ← take_snoc_get bs k hkb] at him3
    exact ⟨⟨k + 1, rfl, by omega, by omega, him3, (f2.trans (fd.mono fun _ _ => trivial)).trans f3⟩, by simp only [Int.toNat_natCast]; omega⟩
  · refine fin ?_
    rw [List.take_of_length_le (by omega), List.take_of_length_le (by omega)]
  · refine fin ?_
    congr 1
    omega

/-- The document's disk amid a crash or a sync: so far the image is img. -/
structure Md (w : World) (ow : Nat → Nat) (t b : Nat) (H : Dh) (Q : List PD) (n : Nat) (img : List UInt8) (cs : Array Value) : Prop where
  im : SlT w ow T_uint8 1 H.ia (n * 512) H.ic (bvs img) (t + 1)
  pl : SlT w ow T_api_Pending 2 H.pa Q.length H.pc (fP Q) (t + 2)
  pb : ∀ x ∈ Q, SlT w ow T_uint8 1 x.a x.bs.length x.c (bvs x.bs) (t + 3)
  hb : Blk w b cs T_quotaref03_Device
  bt : ow b = t
  c0 : cs[0]? = some (.slice H.ia (n * 512) H.ic)
  c1 : cs[1]? = some (.slice H.pa Q.length H.pc)
  il : img.length = n * 512
  ok : ∀ x ∈ Q, 0 ≤ x.sec ∧ x.sec < (n : Int) ∧ x.bs.length = 512
  n2 : n ≤ 8192
theorem Md.fr {T : Nat → Prop} {w w' : World} {ow ow' : Nat → Nat} {t b n : Nat} {H : Dh} {Q : List PD} {img : List UInt8} {cs : Array Value} (h : Md w ow t b H Q n img cs) (f : Fro T w ow w' ow') (h0 : T t) (h1 : T (t + 1)) (h2 : T (t + 2)) (h3 : T (t + 3)) : Md w' ow' t b H Q n img cs :=
  ⟨h.im.fr f h1, h.pl.fr f h2, fun x hx => (h.pb x hx).fr f h3, (blk_fr h.hb h.bt f h0).1, (blk_fr h.hb h.bt f h0).2, h.c0, h.c1, h.il, h.ok, h.n2⟩
theorem RP.md {w : World} {ow : Nat → Nat} {t b kc : Nat} {H : Dh} {Q : List PD} {ka : Option Addr} {kp : List Nat} {kt ko : Int} {v : Dv} (h : RP w ow t b H Q ka kc kp kt ko v) : Md w ow t b H Q v.n v.img (H.rs Q.length v.img.length v.down v.calls v.step ka kp.length kc kt ko) := by
  have hlen := h.l.ok.len
  refine ⟨by rw [← hlen]; exact h.l.im, h.l.pl, h.l.pb, h.hb, h.bt, by rw [← hlen]; rfl, rfl, hlen, fun x hx => ?_, h.l.ok.n2⟩
  exact h.l.ok.q x.v (by rw [h.l.qv]; exact List.mem_map_of_mem hx)

/-- One write is laid. -/
theorem lay_q {w : World} {ow : Nat → Nat} {t b n k : Nat} {H : Dh} {Q : List PD} {img : List UInt8} {cs : Array Value} (h : Md w ow t b H Q n img cs) (hk : k < Q.length) {m : Int} (hm : 0 ≤ m) {K : World → Prop} {R : Ending → World → Prop}
    (hK : ∀ w' ow', Md w' ow' t b H Q n (ovr img ((Q[k]).sec.toNat * 512) ((Q[k]).bs.take m.toNat)) cs → Fro (fun u => u ≠ t + 1) w ow w' ow' → K w') :
    ∃ (a4 : Option Addr) (l4 c4 : Nat), w.cell? (Addr.add ⟨b, 0, none⟩ 1) = some (.slice a4 l4 c4) ∧ (IdxF a4 (k : Int) l4 fun d3 => (∃ (n7 : Int) (a5 : Option Addr) (l5 c5 : Nat), (w.cell? (d3.add (Int.toNat (k : Int) * 2)) = some (.int .i64 n7) ∧ w.cell? (Addr.add (d3.add (Int.toNat (k : Int) * 2)) 1) = some (.slice a5 l5 c5) ∧ True) ∧ (CallF Try.prog F_ref03_Device_lay #[(.pointer (some ⟨b, 0, none⟩)), (.agg #[(.int .i64 n7), (.slice a5 l5 c5)]), (.int .i64 m)] w (fun r2 w4 => r2 = (.tuple #[]) ∧ (K w4)) (PanF R)))) := by
  have hx := h.ok _ (List.getElem_mem hk)
  have hpb := h.pb _ (List.getElem_mem hk)
  refine ⟨_, _, _, cN h.hb h.c1, pdI h.pl.sl.rd hk rfl rfl ?_⟩
  have hsec : (Q[k]).sec = (((Q[k]).sec.toNat : Nat) : Int) := by omega
  have hle : ((Q[k]).bs.take m.toNat).length ≤ 512 := by rw [List.length_take]; omega
  have hg : GoC Try.prog F_ref03_Device_lay #[.pointer (some ⟨b, 0, none⟩), .agg #[.int .i64 (((Q[k]).sec.toNat : Nat) : Int), .slice (Q[k]).a (Q[k]).bs.length (Q[k]).c], .int .i64 m] w fun e w' => match e with | .returned v => v = (.tuple #[]) ∧ K w' | .panicked ch => PanF R ch w' | .outgrown => False :=
    lay_c h.im h.il h.n2 (by omega) h.hb (by rw [h.bt]; omega) h.c0 hpb hx.2.2 hm fun w' ow' him f => ⟨rfl, hK w' ow' (by
      have hh := blk_fr h.hb h.bt f (by omega)
      exact ⟨him, h.pl.fr f (by omega), fun x hx => (h.pb x hx).fr f (by omega), hh.1, hh.2, h.c0, h.c1, by rw [ovr_len (by rw [h.il]; omega)]; exact h.il, h.ok, h.n2⟩) f⟩
  rw [← hsec] at hg
  exact hg

theorem take_clamp (bs : List UInt8) (hb : bs.length = 512) (off : Int) : bs.take (if (0 : Int) > off then (0 : Int) else off).toNat = bs.take (clampN off) := by
  unfold clampN
  split
  · rw [show off.toNat = 0 by omega]; rfl
  · by_cases h : off.toNat ≤ 512
    · rw [Nat.min_eq_left h]
    · rw [Nat.min_eq_right (by omega), List.take_of_length_le (by omega), List.take_of_length_le (by omega)]

set_option maxRecDepth 100000 in
theorem rfall_c {w : World} {ow : Nat → Nat} {t b kc lc : Nat} {H : Dh} {Q : List PD} {ka la : Option Addr} {kp : List Nat} {kt ko : Int} {v : Dv} {keep : List Nat} {torn off : Int} {R : Ending → World → Prop} (h : RP w ow t b H Q ka kc kp kt ko v) (hl : Ls w ow t la keep) (hq : Q.length ≤ 1000000)
    (hK : ∀ w' ow', RX w' ow' t b (v.fall keep torn off) → Fro (fun u => u ≠ t ∧ u ≠ t + 1) w ow w' ow' → R (.returned (.tuple #[])) w') :
    GoC Try.prog F_ref03_Device_fall #[.pointer (some ⟨b, 0, none⟩), .agg #[.slice la keep.length lc, .int .i64 torn, .int .i64 off]] w R := by
  refine S_ref03_Device_fall ?_
  unfold W_ref03_Device_fall
  have hok := h.l.ok
  have hn2 := hok.n2
  have hlen := hok.len
  refine AlF.intro fun b1 w1 hb1e hb1 k1 s1 => ?_
  have f1 : Fro (fun _ => True) w ow w1 (ext ow w.heap.size (t + 3)) := Fro.of_kp0 (t + 3) k1
  have ht1 : ext ow w.heap.size (t + 3) b1 = t + 3 := ext_new (by omega)
  have h1 := h.fr f1 trivial trivial trivial trivial
  have hl1 := hl.fr f1 fun _ _ => trivial
  generalize ext ow w.heap.size (t + 3) = ow1 at *
  have hM1 := h1.md
  have hcsz : (H.rs Q.length v.img.length v.down v.calls v.step ka kp.length kc kt ko).size = 8 := rfl
  generalize hcE : H.rs Q.length v.img.length v.down v.calls v.step ka kp.length kc kt ko = cs at *
  have hfin : ((cs.setIfInBounds 1 (.slice none 0 0)).setIfInBounds 2 (.bool true)).setIfInBounds 4 (.int .i64 0) = (⟨H.ia, H.ic, none, 0⟩ : Dh).rs 0 v.img.length true v.calls 0 ka kp.length kc kt ko := by rw [← hcE]; rfl
  have hQv : ∀ k (hk : k < Q.length), v.q[k]? = some ((Q[k]).sec, (Q[k]).bs) := fun k hk => by rw [h.l.qv]; simp [hk, PD.v]
  have hql : v.q.length = Q.length := by rw [h.l.qv]; simp
  refine loopN (fun s w' => ∃ (k : Nat) (ow' : Nat → Nat) (img : List UInt8), s.1 = (k : Int) ∧ k ≤ Q.length ∧ fallL keep torn off k (v.q.drop k) img = fallL keep torn off 0 v.q v.img ∧ Md w' ow' t b H Q v.n img cs ∧ Fro (fun u => u ≠ t + 1) w1 ow1 w' ow') (fun s _ => Q.length - s.1.toNat)
    ⟨0, ow1, v.img, rfl, by omega, by simp, hM1, ⟨Kp.refl _ _, fun _ _ _ => rfl⟩⟩ ?_
  rintro ⟨k0, u⟩ w2 ⟨k, ow2, img, hk0, hk, hfl, hM, f2⟩ _
  dsimp only at hk0 ⊢
  subst hk0
  refine NilF.intro rfl ⟨_, _, _, cN hM.hb hM.c1, cond_d (fun hlt => ?_) (fun hge => ?_)⟩
  · have hkl : k < Q.length := by omega
    have hkw : IntKind.wrap .i64 ((k : Int) + 1) = ((k + 1 : Nat) : Int) := by rw [wrap_i64 (by omega) (by omega)]; omega
    rw [hkw]
    obtain ⟨hb12, ht12⟩ := blk_fr hb1 ht1 f2 (by omega)
    have hx := hM.ok _ (List.getElem_mem hkl)
    have hst := fallL_step keep torn off v.q k img (by omega)
    have hvk : v.q[k]'(by omega) = ((Q[k]).sec, (Q[k]).bs) := by have := hQv k hkl; rw [List.getElem?_eq_getElem (by omega)] at this; exact Option.some.inj this
    rw [hvk] at hst
    dsimp only at hst
    have hrd2 := (hl1.fr f2 fun u hu => hu.2.1).rd.rd
    have go : ∀ (m : Int) (w6 : World), 0 ≤ m → Kp no w2 w6 → fallL keep torn off (k + 1) (v.q.drop (k + 1)) (ovr img ((Q[k]).sec.toNat * 512) ((Q[k]).bs.take m.toNat)) = fallL keep torn off 0 v.q v.img → ∀ {K : World → Prop},
        (∀ w', ((∃ (k' : Nat) (ow' : Nat → Nat) (img : List UInt8), ((k + 1 : Nat) : Int) = (k' : Int) ∧ k' ≤ Q.length ∧ fallL keep torn off k' (v.q.drop k') img = fallL keep torn off 0 v.q v.img ∧ Md w' ow' t b H Q v.n img cs ∧ Fro (fun u => u ≠ t + 1) w1 ow1 w' ow') ∧ Q.length - Int.toNat ((k + 1 : Nat) : Int) < Q.length - Int.toNat (k : Int)) → K w') →
        NilF (some (⟨b, 0, none⟩ : Addr)) fun d2 => ∃ (a4 : Option Addr) (l4 c4 : Nat), w6.cell? (Addr.add d2 1) = some (.slice a4 l4 c4) ∧ (IdxF a4 (k : Int) l4 fun d3 => (∃ (n7 : Int) (a5 : Option Addr) (l5 c5 : Nat), (w6.cell? (d3.add (Int.toNat (k : Int) * 2)) = some (.int .i64 n7) ∧ w6.cell? (Addr.add (d3.add (Int.toNat (k : Int) * 2)) 1) = some (.slice a5 l5 c5) ∧ True) ∧ (CallF Try.prog F_ref03_Device_lay #[(.pointer (some ⟨b, 0, none⟩)), (.agg #[(.int .i64 n7), (.slice a5 l5 c5)]), (.int .i64 m)] w6 (fun r2 w4 => r2 = (.tuple #[]) ∧ (K w4)) (PanF R)))) := fun m w6 hm k6 he K hK' =>
      NilF.intro rfl (lay_q (hM.fr (Fro.kp0 k6) trivial trivial trivial trivial) hkl hm fun w' ow' hM' f' => hK' w' ⟨⟨k + 1, ow', _, rfl, by omega, he, hM', (f2.trans ((Fro.kp0 k6).mono fun _ _ => trivial)).trans f'⟩, by simp only [Int.toNat_natCast]; omega⟩)
    have t512 : (Q[k]).bs.take (512 : Int).toNat = (Q[k]).bs := List.take_of_length_le (by rw [hx.2.2]; decide)
    have t0 : (Q[k]).bs.take (0 : Int).toNat = [] := rfl
    refine ⟨torn, cN hb12 rfl, cond_eq (fun hte => ⟨off, cN hb12 rfl, ?_⟩) (fun htn => ?_)⟩
    · refine ⟨_, _, _, _, _, ⟨c0 hb12 rfl, cN hb12 rfl, cN hb12 rfl, trivial⟩, Kept_c hrd2 hl.lt (by have := hl.ln; omega) (by omega) fun w3 k3 => ⟨_, rfl, cond_b (fun hkt => ?_) (fun hkf => ?_)⟩⟩
      · rw [if_pos hkt] at hst
        exact go 512 w3 (by decide) k3 (by rw [t512, ← hst]; exact hfl) fun w' hh => hh
      · rw [hkf, if_neg (by decide), if_pos hte] at hst
        exact go _ w3 (by split <;> omega) k3 (by rw [take_clamp _ hx.2.2, ← hst]; exact hfl) fun w' hh => hh
    · refine ⟨_, _, _, _, _, ⟨c0 hb12 rfl, cN hb12 rfl, cN hb12 rfl, trivial⟩, Kept_c hrd2 hl.lt (by have := hl.ln; omega) (by omega) fun w3 k3 => ⟨_, rfl, cond_b (fun hkt => ?_) (fun hkf => ?_)⟩⟩
      · rw [if_pos hkt] at hst
        exact go 512 w3 (by decide) k3 (by rw [t512, ← hst]; exact hfl) fun w' hh => hh
      · rw [hkf, if_neg (by decide), if_neg htn] at hst
        exact go 0 w3 (by decide) k3 (by rw [t0, ovr_nil, ← hst]; exact hfl) fun w' hh => hh
  · have hke : k = Q.length := by omega
    subst hke
    rw [List.drop_eq_nil_of_le (by omega), fallL] at hfl
    refine NilF.intro rfl (stb (add1 b 1) hM.hb hM.bt (by rw [hcsz]; decide) fun w11 hb11 f11 s11 => NilF.intro rfl (stb (add1 b 2) hb11 hM.bt (by simp [hcsz]) fun w12 hb12 f12 s12 => NilF.intro rfl (stb (add1 b 4) hb12 hM.bt (by simp [hcsz]) fun w13 hb13 f13 s13 => ?_)))
    have ff := (f11.trans f12).trans f13
    have hfo := hok.fall keep torn off
    rw [hfin] at hb13
    have hlen' : (fallL keep torn off 0 v.q v.img).length = v.img.length := by rw [← hfl, hM.il, hlen]
    refine hK w13 ow2 ⟨⟨H.ia, H.ic, none, 0⟩, [], ka, kc, kp, kt, ko, ⟨?_, slt_nil _ _ _ _ _, fun x hx => absurd hx (by simp), rfl, hfo⟩, ?_, hM.bt, (h1.ks.fr f2 (by omega)).fr ff (by omega), h.kl, fun hh => absurd rfl hh⟩ (((f1.mono fun _ _ => trivial).trans (f2.mono fun u hu => hu.2)).trans (ff.mono fun u hu => hu.1))
    · show SlT w13 ow2 T_uint8 1 H.ia (fallL keep torn off 0 v.q v.img).length H.ic (bvs (fallL keep torn off 0 v.q v.img)) (t + 1)
      rw [← hfl, hM.il]
      exact hM.im.fr ff (by omega)
    · show Blk w13 b ((⟨H.ia, H.ic, none, 0⟩ : Dh).rs 0 (fallL keep torn off 0 v.q v.img).length true v.calls 0 ka kp.length kc kt ko) T_quotaref03_Device
      rw [hlen']
      exact hb13
end Go.Proofs.Ytaehmogilimmfaa
