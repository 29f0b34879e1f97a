/- Several texts as one. Conditions: none. -/
import Derived.Test.YtalkkhocljehfaaTg
import Derived.Test.YtalkkhocljehfaaTa
import Derived.Test.YtalkkhocljehfaaNe
import Derived.Test.YtalkkhocljehfaaTn2
import Derived.Test.YtalkkhocljehfaaUa2
/- The disk's Cache: its contract. Conditions: none. -/
set_option linter.unusedVariables false
set_option linter.unusedSimpArgs false
namespace Go.Proofs.Ytalkkhocljehfaa
open Go Go.RowKit

theorem take_map {α β : Type} (f : α → β) (l : List α) (k : Nat) (h : k < l.length) : (l.map f).take (k + 1) = (l.map f).take k ++ [f l[k]] := by
  rw [take_snoc_get _ k (by simpa using h)]
  simp
/-- What Cache hands out. -/
structure Ca (w0 w : World) (a : Option Addr) (n c : Nat) (X : List PD) : Prop where
  k : Kp no w0 w
  s : Sl w T_api_Pending 2 a n c (fP X)
  n : X.length = n
  f : Fresh w0 a
  x : ∀ x ∈ X, Sl w T_uint8 1 x.a x.bs.length x.c (bvs x.bs) ∧ Fresh w0 x.a ∧ ∀ j, Is x.a j → ¬ Is a j
  d : X.Pairwise fun x y => ∀ j, Is x.a j → ¬ Is y.a j
section
variable {w : World} {ow : Nat → Nat} {t b : Nat} {v : Dv} {R : Ending → World → Prop}
set_option maxRecDepth 100000 in
theorem cache_c (h : DX w ow t b v) (hq : v.q.length ≤ 1000000) (hK : ∀ a c X w', Ca w w' a v.q.length c X → X.map PD.v = v.q → R (.returned (.slice a v.q.length c)) w') : GoC Try.prog F_sectors_Device_Cache #[.pointer (some ⟨b, 0, none⟩)] w R := by
  obtain ⟨H, Q, ka, kc, h⟩ := h
  have hql : v.q.length = Q.length := by rw [h.l.qv]; simp
  have hok := h.l.ok
  refine S_sectors_Device_Cache ?_
  unfold W_sectors_Device_Cache
  refine ⟨_, _, _, cN h.hb rfl, ?_⟩
  refine loopN (fun s w' => ∃ (k : Nat) (a : Option Addr) (c : Nat) (X : List PD), s = ((a, k, c), (k : Int), ()) ∧ k ≤ Q.length ∧ Ca w w' a k c X ∧ X.map PD.v = v.q.take k) (fun s _ => Q.length - s.2.1.toNat)
    ⟨0, none, 0, [], rfl, by omega, ⟨Kp.refl _ _, Sl.nil _ _ _, rfl, fun k hk => (is_none hk).elim, fun x hx => absurd hx (by simp), List.Pairwise.nil⟩, by simp⟩ ?_
  rintro s w1 ⟨k, a, c, X, rfl, hk, hC, hX⟩ _
  dsimp only
  refine cond_d (fun hlt => ?_) (fun hge => ?_)
  rotate_left
  · have hke : k = Q.length := by omega
    subst hke
    have := hK a c X w1 (by rw [hql]; exact hC) (by rw [hX, ← hql, List.take_length])
    rw [hql] at this
    exact this
  have hkl : k < Q.length := by omega
  have hkw : IntKind.wrap .i64 ((k : Int) + 1) = ((k + 1 : Nat) : Int) := by rw [wrap_i64 (by omega) (by omega)]; omega
  rw [hkw]
  have h1 := h.kp0 hC.k
  refine pdI h1.l.pl.sl.rd hkl rfl rfl ?_
  have hpb := h1.l.pb _ (List.getElem_mem hkl)
  have hvk : v.q.take (k + 1) = v.q.take k ++ [(Q[k]).v] := by rw [h.l.qv]; exact take_map PD.v Q k hkl
  have hqk := hok.q (Q[k]).v (by rw [h.l.qv]; exact List.mem_map_of_mem (List.getElem_mem hkl))
  generalize Q[k] = x at *
  refine AlF.intro fun b1 w2 hb1e hb1 k2 s2 => st2 hb1 fun w4 hb4 k4 s4 => ?_
  have k14 : Kp no w1 w4 := kp_blk k2 (by omega) k4
  have kd : Kp no w4 w4.drew := Kp.drew w4 1
  have la := hC.s.lt
  have nb1 : ¬ Is a b1 := fun hh => by have := la b1 hh; omega
  refine ⟨fun w' => Kp (Is a) w4 w', kd.of_no, _, fun w' kz => c0 (kz.blk hb4 nb1) rfl, _, _, _, fun w' kz => cN (kz.blk hb4 nb1) rfl, ?_⟩
  have hx0 : x.a = none → x.bs.length = 0 := fun h0 => sl_some' hpb.sl h0
  refine clone_c ((hpb.sl.rd.kp0 k14).kp0 kd) rfl hx0 (by have := hqk.2.2; show x.bs.length ≤ _; have e : x.v.2.length = x.bs.length := rfl; omega) fun a4 c4 w5 hs5 k5 fr5 _ => ⟨_, _, _, rfl, (kd.trans0 k5).of_no, ?_⟩
  refine AlF.intro fun b2 w6 hb2e hb2 k6 s6 => ⟨((kd.trans0 k5).trans0 k6).of_no, ?_⟩
  have k46 := (kd.trans0 k5).trans0 k6
  have k16 := k14.trans0 k46
  have sz0 := hC.k.size
  have sz1 := k14.size
  have sz5 := k5.size
  have szd := kd.size
  refine append_own er_pd (hC.s.kp0 k16) (rd_cells (xs := PD.cs ⟨x.sec, a4, c4, x.bs⟩) hb2 rfl) rfl (fun h => by cases h) (fun u hu => by
    simp only [PD.cs, List.mem_cons, List.not_mem_nil, or_false] at hu
    rcases hu with rfl | rfl <;> rfl) (by omega) (by omega) fun a5 c5 w7 hs7 k7 hi7 _ _ => ⟨_, _, _, rfl, k46.of_no.trans0 k7, ?_⟩
  have la4 := hs5.lt
  refine ⟨⟨k + 1, a5, c5, X ++ [⟨x.sec, a4, c4, x.bs⟩], rfl, by omega, ⟨?_, ?_, by simp [hC.n], fun j hj => ?_, fun y hy => ?_, List.pairwise_append.2 ⟨hC.d, List.pairwise_singleton _ _, fun y hy z hz j hj hj' => ?_⟩⟩, ?_⟩, by simp only [Int.toNat_natCast]; omega⟩
  · exact (hC.k.trans0 k16).trans k7 (fun _ _ h => h) fun j hj hh => by have := hC.f j hh; omega
  · have e : fP (X ++ [⟨x.sec, a4, c4, x.bs⟩]) = fP X ++ PD.cs ⟨x.sec, a4, c4, x.bs⟩ := by unfold fP; rw [flatV_app]; simp [flatV]
    rw [e]
    exact hs7
  · rcases hi7 j hj with hh | hh
    · exact hC.f j hh
    · have := k6.size; omega
  · rcases List.mem_append.1 hy with hy | hy
    · obtain ⟨q1, q2, q3⟩ := hC.x y hy
      refine ⟨(q1.kp0 k16).kp k7 q3, q2, fun j hj hh => ?_⟩
      have := q1.lt j hj
      rcases hi7 j hh with h' | h'
      · exact q3 j hj h'
      · have := k6.size; omega
    · rw [List.mem_singleton] at hy
      subst hy
      refine ⟨(hs5.kp0 k6).kp k7 fun j hj hh => ?_, fun j hj => ?_, fun j hj hh => ?_⟩
      · have := fr5 j hj; have := la j hh; omega
      · have := fr5 j hj; omega
      · have q1 := fr5 j hj
        have q2 := la4 j hj
        rcases hi7 j hh with h' | h'
        · have := la j h'; omega
        · have := k6.size; omega
  · rw [List.mem_singleton] at hz
    subst hz
    have := (hC.x y hy).1.lt j hj
    have := fr5 j hj'
    have := k14.size; omega
  · rw [hvk, List.map_append, hX]
    rfl
end
end Go.Proofs.Ytalkkhocljehfaa

/- The document's Kept. Conditions: none. -/
set_option linter.unusedVariables false
set_option linter.unusedSimpArgs false
namespace Go.Proofs.Ytalkkhocljehfaa
open Go Go.RowKit

/-- Kept, as the document has it. -/
theorem Kept_c {w : World} {a : Option Addr} {c k : Nat} {keep : List Nat} {n1 n2 : Int} {R : Ending → World → Prop} (hr : Rd w a (keep.map u64v)) (hlt : ∀ x ∈ keep, x < 18446744073709551616) (hkl : keep.length ≤ 9223372036854775807) (hk : k ≤ 1000000000) (h : ∀ w', Kp no w w' → R (.returned (.bool (keptN keep k))) w') :
    GoC Try.prog F_ref03_Kept #[.agg #[.slice a keep.length c, .int .i64 n1, .int .i64 n2], .int .i64 (k : Int)] w R := by
  refine S_ref03_Kept ?_
  unfold W_ref03_Kept
  refine AlF.intro fun b1 w1 hb1e hb1 k1 s1 => ⟨by decide, ?_⟩
  have e1 : IntKind.wrap .i64 (Int.tdiv (k : Int) 64) = ((k / 64 : Nat) : Int) := by
    rw [show Int.tdiv (k : Int) 64 = ((k / 64 : Nat) : Int) from rfl]
    exact wrap_i64 (by omega) (by omega)
  have e2 : IntKind.wrap .u64 (Int.tmod (k : Int) 64) = ((k % 64 : Nat) : Int) := by
    rw [show Int.tmod (k : Int) 64 = ((k % 64 : Nat) : Int) from rfl]
    exact wrap_u64 (by omega) (by omega)
  rw [e1, e2]
  refine ⟨_, _, _, hb1.cell 0, cond_d (fun hlt' => ?_) (fun hge => ?_)⟩
  · have hkk : k / 64 < keep.length := by omega
    refine ⟨_, _, _, hb1.cell 0, by decide, ?_⟩
    obtain ⟨b, o, ha, hcell⟩ := (hr.kp0 k1) (k / 64) (u64v keep[k / 64]) (by simp [hkk])
    refine ⟨by omega, hlt', _, ha, (keep[k / 64] : Int), by rw [Int.toNat_natCast, add_at]; exact hcell, by decide, by omega, ?_⟩
    have hx := hlt _ (List.getElem_mem hkk)
    have e3 : andV .u64 (shrV .u64 (keep[k / 64] : Int) ((k % 64 : Nat) : Int)) 1 = ((keep[k / 64] / 2 ^ (k % 64) % 2 : Nat) : Int) := by
      rw [shrV_nat (by simp only [IntKind.bits]; omega), show (1 : Int) = ((1 : Nat) : Int) from rfl, andV_nat rfl (by simp only [IntKind.bits]; exact Nat.lt_of_le_of_lt (Nat.div_le_self _ _) (by omega)) (by simp only [IntKind.bits]; omega), and_1]
    rw [e3]
    have e4 : (((keep[k / 64] / 2 ^ (k % 64) % 2 : Nat) : Int) == 1) = keptN keep k := by
      unfold keptN
      rw [decide_eq_true hkk, Bool.true_and]
      have : keep.getD (k / 64) 0 = keep[k / 64] := by simp [hkk]
      rw [this]
      rw [Bool.eq_iff_iff, beq_iff_eq, decide_eq_true_eq]
      omega
    rw [e4]
    exact h w1 k1
  · have e4 : keptN keep k = false := by
      unfold keptN
      rw [decide_eq_false (by omega), Bool.false_and]
    have := h w1 k1
    rw [e4] at this
    exact this
end Go.Proofs.Ytalkkhocljehfaa

/- The document's disk: its contracts, by the same plain disk. Conditions: none. -/
set_option linter.unusedVariables false
set_option linter.unusedSimpArgs false
namespace Go.Proofs.Ytalkkhocljehfaa
open Go Go.RowKit

def Dh.rs (H : Dh) (n il : Nat) (gone : Bool) (count step : Int) (ka : Option Addr) (kn kc : Nat) (kt ko : Int) : Array Value := #[.slice H.ia il H.ic, .slice H.pa n H.pc, .bool gone, .int .i64 count, .int .i64 step, .slice ka kn kc, .int .i64 kt, .int .i64 ko]
/-- The document's disk. -/
structure RP (w : World) (ow : Nat → Nat) (t b : Nat) (H : Dh) (Q : List PD) (ka : Option Addr) (kc : Nat) (kp : List Nat) (kt ko : Int) (v : Dv) : Prop where
  l : DL w ow t H Q v
  hb : Blk w b (H.rs Q.length v.img.length v.down v.calls v.step ka kp.length kc kt ko) T_quotaref03_Device
  bt : ow b = t
  ks : SlT w ow T_uint64 1 ka kp.length kc (kp.map u64v) (t + 3)
  kl : ∀ x ∈ kp, x < 18446744073709551616
  ke : v.step ≠ 0 → kp = v.keep ∧ kt = v.torn ∧ ko = v.off
section
variable {T : Nat → Prop} {w w' : World} {ow ow' : Nat → Nat} {t b kc : Nat} {H : Dh} {Q : List PD} {ka : Option Addr} {kp : List Nat} {kt ko : Int} {v : Dv}
theorem RP.fr (h : RP w ow t b H Q ka kc kp kt ko v) (f : Fro T w ow w' ow') (h0 : T t) (h1 : T (t + 1)) (h2 : T (t + 2)) (h3 : T (t + 3)) : RP w' ow' t b H Q ka kc kp kt ko v :=
  ⟨h.l.fr f h1 h2 h3, (blk_fr h.hb h.bt f h0).1, (blk_fr h.hb h.bt f h0).2, h.ks.fr f h3, h.kl, h.ke⟩
theorem RP.kp0 (h : RP w ow t b H Q ka kc kp kt ko v) (k : Kp no w w') : RP w' ow t b H Q ka kc kp kt ko v := h.fr (Fro.kp0 k) trivial trivial trivial trivial
end
def RX (w : World) (ow : Nat → Nat) (t b : Nat) (v : Dv) : Prop := ∃ (H : Dh) (Q : List PD) (ka : Option Addr) (kc : Nat) (kp : List Nat) (kt ko : Int), RP w ow t b H Q ka kc kp kt ko v
theorem RX.fr {T : Nat → Prop} {w w' : World} {ow ow' : Nat → Nat} {t b : Nat} {v : Dv} (h : RX w ow t b v) (f : Fro T w ow w' ow') (h0 : T t) (h1 : T (t + 1)) (h2 : T (t + 2)) (h3 : T (t + 3)) : RX w' ow' t b v := by
  obtain ⟨H, Q, ka, kc, kp, kt, ko, h⟩ := h
  exact ⟨H, Q, ka, kc, kp, kt, ko, h.fr f h0 h1 h2 h3⟩
theorem RX.kp0 {w w' : World} {ow : Nat → Nat} {t b : Nat} {v : Dv} (h : RX w ow t b v) (k : Kp no w w') : RX w' ow t b v := h.fr (Fro.kp0 k) trivial trivial trivial trivial
theorem RX.ok {w : World} {ow : Nat → Nat} {t b : Nat} {v : Dv} (h : RX w ow t b v) : v.Ok := by
  obtain ⟨H, Q, ka, kc, kp, kt, ko, h⟩ := h
  exact h.l.ok
theorem RX.lt {w : World} {ow : Nat → Nat} {t b : Nat} {v : Dv} (h : RX w ow t b v) : b < w.heap.size := by
  obtain ⟨H, Q, ka, kc, kp, kt, ko, h⟩ := h
  exact h.hb.lt

section
variable {w : World} {ow : Nat → Nat} {t b : Nat} {v : Dv} {R : Ending → World → Prop}
theorem rsize_c (h : RX w ow t b v) (hK : R (.returned (.int .i64 (v.n : Int))) w) : GoC Try.prog F_ref03_Device_Sectors #[.pointer (some ⟨b, 0, none⟩)] w R := by
  obtain ⟨H, Q, ka, kc, kp, kt, ko, h⟩ := h
  have := h.l.ok.len
  have := h.l.ok.n2
  refine S_ref03_Device_Sectors ?_
  unfold W_ref03_Device_Sectors
  refine ⟨_, _, _, c0 h.hb rfl, by decide, ?_⟩
  have e : IntKind.wrap .i64 (Int.tdiv (v.img.length : Int) 512) = (v.n : Int) := by
    rw [show Int.tdiv (v.img.length : Int) 512 = (v.n : Int) from rfl]
    exact wrap_i64 (by omega) (by omega)
  rw [e]
  exact hK
theorem rthere_c {i : Int} (h : RX w ow t b v) (hK : R (.returned (.bool (decide (v.there i)))) w) : GoC Try.prog F_ref03_Device_there #[.pointer (some ⟨b, 0, none⟩), .int .i64 i] w R := by
  refine S_ref03_Device_there ?_
  unfold W_ref03_Device_there
  refine cond_d (fun h1 => rsize_c h ⟨_, rfl, ?_⟩) (fun h1 => ?_)
  · have e : decide (i < (v.n : Int)) = decide (v.there i) := by
      rw [Bool.eq_iff_iff, decide_eq_true_eq, decide_eq_true_eq]
      exact ⟨fun h2 => ⟨h1, h2⟩, fun h2 => h2.2⟩
    rw [e]
    exact hK
  · rw [decide_eq_false (fun h2 : v.there i => h1 h2.1)] at hK
    exact hK
theorem rdown_c (h : RX w ow t b v) (hK : R (.returned (.bool v.down)) w) : GoC Try.prog F_ref03_Device_Down #[.pointer (some ⟨b, 0, none⟩)] w R := by
  obtain ⟨H, Q, ka, kc, kp, kt, ko, h⟩ := h
  refine S_ref03_Device_Down ?_
  exact ⟨_, cN h.hb rfl, hK⟩
theorem rcalls_c (h : RX w ow t b v) (hK : R (.returned (.int .i64 v.calls)) w) : GoC Try.prog F_ref03_Device_Calls #[.pointer (some ⟨b, 0, none⟩)] w R := by
  obtain ⟨H, Q, ka, kc, kp, kt, ko, h⟩ := h
  refine S_ref03_Device_Calls ?_
  exact ⟨_, cN h.hb rfl, hK⟩
theorem rup_c (h : RX w ow t b v) (hK : ∀ w' ow', RX w' ow' t b v.up → Fro (Td t) w ow w' ow' → R (.returned (.int .i64 0)) w') : GoC Try.prog F_ref03_Device_Up #[.pointer (some ⟨b, 0, none⟩)] w R := by
  obtain ⟨H, Q, ka, kc, kp, kt, ko, h⟩ := h
  refine S_ref03_Device_Up ?_
  unfold W_ref03_Device_Up
  refine NilF.intro rfl (stb (add1 b 2) h.hb h.bt (by simp [Dh.rs]) fun w1 hb1 f1 s1 => NilF.intro rfl (stb (add1 b 4) hb1 h.bt (by simp [Dh.rs]) fun w2 hb2 f2 s2 => ?_))
  have f := f1.trans f2
  have l2 := h.l.fr f (by omega) (by omega) (by omega)
  exact hK w2 ow ⟨H, Q, ka, kc, kp, kt, ko, ⟨l2.im, l2.pl, l2.pb, l2.qv, h.l.ok.up⟩, hb2, h.bt, h.ks.fr f (by omega), h.kl, fun hh => absurd rfl hh⟩ (f.mono fun u hu => hu.1)
theorem rown_c {a : Option Addr} {l c : Nat} {bs : List UInt8} (hr : Rd w a (bvs bs)) (hl : bs.length = l) (h0 : a = none → l = 0) (hb : l ≤ 140737488355328)
    (h : ∀ a' c' w', Sl w' T_uint8 1 a' l c' (bvs bs) → Kp no w w' → Fresh w a' → R (.returned (.slice a' l c')) w') : GoC Try.prog F_ref03_own #[.slice a l c] w R := by
  refine S_ref03_own ?_
  unfold W_ref03_own
  exact append_new er_u8 hr (by rw [bvs_len]; omega) h0 bvs_one (by omega) (by omega) fun a' c' w' hs k fr _ => ⟨_, _, _, rfl, h a' c' w' hs k fr⟩
theorem rimage_c (h : RX w ow t b v) (hK : ∀ a' c' w', Sl w' T_uint8 1 a' v.img.length c' (bvs v.img) → Kp no w w' → Fresh w a' → R (.returned (.slice a' v.img.length c')) w') : GoC Try.prog F_ref03_Device_Image #[.pointer (some ⟨b, 0, none⟩)] w R := by
  obtain ⟨H, Q, ka, kc, kp, kt, ko, h⟩ := h
  have hlen := h.l.ok.len
  have hn2 := h.l.ok.n2
  refine S_ref03_Device_Image ?_
  unfold W_ref03_Device_Image
  exact ⟨_, _, _, c0 h.hb rfl, rown_c h.l.im.sl.rd rfl (sl_some' h.l.im.sl) (by omega) fun a' c' w' hs k fr => ⟨_, _, _, rfl, hK a' c' w' hs k fr⟩⟩
end

section
variable {w : World} {ow : Nat → Nat} {t b kc : Nat} {H : Dh} {Q : List PD} {ka : Option Addr} {kp : List Nat} {kt ko : Int} {v : Dv}
theorem counted_c {R : Ending → World → Prop} (h : RP w ow t b H Q ka kc kp kt ko v) (hK : ∀ w', RP w' ow t b H Q ka kc kp kt ko v.bump → Fro (fun u => u ≠ t) w ow w' ow → R (.returned (.bool (decide (v.step = 1)))) w') : GoC Try.prog F_ref03_Device_counted #[.pointer (some ⟨b, 0, none⟩)] w R := by
  refine S_ref03_Device_counted ?_
  unfold W_ref03_Device_counted
  have hst := h.l.ok.step
  have hke : v.bump.step ≠ 0 → kp = v.bump.keep ∧ kt = v.bump.torn ∧ ko = v.bump.off := fun hne => h.ke fun h0 => hne (by show (if v.step = 0 then (0 : Int) else v.step - 1) = 0; rw [if_pos h0])
  refine NilF.intro rfl ⟨v.calls, cN h.hb rfl, NilF.intro rfl (stb (add1 b 3) h.hb h.bt (by simp [Dh.rs]) fun w1 hb1 f1 s1 => ?_)⟩
  have l1 := h.l.fr f1 (by omega) (by omega) (by omega)
  have kp1 := h.ks.fr f1 (by omega)
  refine NilF.intro rfl ⟨v.step, cN hb1 rfl, cond_eq (fun h0 => ?_) (fun hne => NilF.intro rfl ⟨v.step, cN hb1 rfl, NilF.intro rfl (stb (add1 b 4) hb1 h.bt (by simp [Dh.rs]) fun w2 hb2 f2 s2 => NilF.intro rfl ⟨_, cN hb2 rfl, ?_⟩)⟩)⟩
  · have e : decide (v.step = 1) = false := decide_eq_false (by omega)
    have e2 : v.bump = { v with calls := IntKind.wrap .i64 (v.calls + 1), step := v.step } := by unfold Dv.bump; rw [if_pos h0, h0]
    have := hK w1 ⟨l1.bump, by rw [e2]; exact hb1, h.bt, kp1, h.kl, hke⟩ f1
    rw [e] at this
    exact this
  · have ew : IntKind.wrap .i64 (v.step - 1) = v.step - 1 := wrap_i64 (by omega) (by omega)
    rw [ew] at hb2 ⊢
    have e : (v.step - 1 == 0) = decide (v.step = 1) := by rw [Bool.eq_iff_iff, beq_iff_eq, decide_eq_true_eq]; omega
    have e2 : v.bump = { v with calls := IntKind.wrap .i64 (v.calls + 1), step := v.step - 1 } := by unfold Dv.bump; rw [if_neg hne]
    rw [e]
    exact hK w2 ⟨(l1.fr f2 (by omega) (by omega) (by omega)).bump, by rw [e2]; exact hb2, h.bt, kp1.fr f2 (by omega), h.kl, hke⟩ (f1.trans f2)
end

set_option maxRecDepth 100000 in
theorem lay_c {w : World} {ow : Nat → Nat} {t b n ic i sc : Nat} {ia sa : Option Addr} {img bs : List UInt8} {m : Int} {cs : Array Value} {X : TypeId} {R : Ending → World → Prop} (him : SlT w ow T_uint8 1 ia (n * 512) ic (bvs img) (t + 1)) (hil : img.length = n * 512) (hn : n ≤ 8192) (hi : i < n) (hb : Blk w b cs X) (hbt : ow b ≠ t + 1) (hc : cs[0]? = some (.slice ia (n * 512) ic))
    (hs : SlT w ow T_uint8 1 sa bs.length sc (bvs bs) (t + 3)) (hbl : bs.length = 512) (hm : 0 ≤ m)
    (hK : ∀ w' ow', SlT w' ow' T_uint8 1 ia (n * 512) ic (bvs (ovr img (i * 512) (bs.take m.toNat))) (t + 1) → Fro (fun u => u ≠ t + 1) w ow w' ow' → R (.returned (.tuple #[])) w') :
    GoC Try.prog F_ref03_Device_lay #[.pointer (some ⟨b, 0, none⟩), .agg #[.int .i64 (i : Int), .slice sa bs.length sc], .int .i64 m] w R := by
  refine S_ref03_Device_lay ?_
  unfold W_ref03_Device_lay
  refine AlF.intro fun b1 w1 hb1e hb1 k1 s1 => ?_
  have f1 : Fro (fun _ => True) w ow w1 (ext ow w.heap.size (t + 3)) := Fro.of_kp0 (t + 3) k1
  have ht1 : ext ow w.heap.size (t + 3) b1 = t + 3 := ext_new (by omega)
  have him1 := him.fr f1 trivial
  have hs1 := hs.fr f1 trivial
  obtain ⟨hbb1, hbt1⟩ := blk_fr hb rfl f1 trivial
  generalize ext ow w.heap.size (t + 3) = ow1 at *
  refine loopN (fun s w' => ∃ k : Nat, s.1 = (k : Int) ∧ k ≤ 512 ∧ (k : Int) ≤ m ∧ SlT w' ow1 T_uint8 1 ia (n * 512) ic (bvs (ovr img (i * 512) (bs.take k))) (t + 1) ∧ Fro (fun u => u ≠ t + 1) w1 ow1 w' ow1) (fun s _ => 512 - s.1.toNat)
    ⟨0, rfl, by omega, by omega, by simpa [ovr_nil] using him1, ⟨Kp.refl _ _, fun _ _ _ => rfl⟩⟩ ?_
  rintro ⟨k0, u⟩ w2 ⟨k, hk0, hk, hkm, him2, f2⟩ _
  dsimp only at hk0 ⊢
  subst hk0
  have fin : bs.take m.toNat = bs.take k → R (.returned (.tuple #[])) w2 := fun e => hK w2 ow1 (by rw [e]; exact him2) ((f1.mono fun _ _ => trivial).trans f2)
  refine cond_d (fun hlt => cond_d (fun hlt2 => ?_) (fun hge => ?_)) (fun hge => ?_)
  · have kd : Kp no w2 w2.drew := Kp.drew w2 1
    have fd : Fro (fun _ => True) w2 ow1 w2.drew ow1 := Fro.kp0 kd
    have hkw : IntKind.wrap .i64 ((k : Int) + 1) = ((k + 1 : Nat) : Int) := by rw [wrap_i64 (by omega) (by omega)]; omega
    have e1 : IntKind.wrap .i64 ((i : Int) * 512) = ((i * 512 : Nat) : Int) := by rw [wrap_i64 (by omega) (by omega)]; omega
    have e2 : IntKind.wrap .i64 (((i * 512 : Nat) : Int) + (k : Int)) = ((i * 512 + k : Nat) : Int) := by rw [wrap_i64 (by omega) (by omega)]; omega
    rw [hkw]
    have hbb2 := (blk_fr hbb1 rfl f2 (by rw [hbt1]; exact hbt)).1
    have hb12 := (blk_fr hb1 ht1 f2 (by omega)).1
    have hs2 := hs1.fr f2 (by omega)
    have hkb : k < bs.length := by omega
    obtain ⟨b', o', hsa, hcell⟩ := (hs2.sl.rd.kp0 kd) k _ (bvs_get hkb)
    refine NilF.intro rfl ⟨_, _, _, c0 (kd.blk hbb2 id) hc, (i : Int), c0 (kd.blk hb12 id) rfl, _, _, _, cN (kd.blk hb12 id) rfl, by omega, by omega, _, hsa, ((bs[k]).toNat : Int), by rw [Int.toNat_natCast, add_at]; exact hcell, ?_⟩
    rw [e1, e2]
    obtain ⟨bi, cur, hia, _⟩ := him2.sl.addr (by omega)
    refine ⟨by omega, by omega, _, hia, ?_⟩
    refine slt_put (him2.fr fd trivial) hia (i := i * 512 + k) (by omega) (by rw [Int.toNat_natCast, add_at]) fun w3 him3 f3 => ?_
    have e3 : (Value.int .u8 ((bs[k]).toNat : Int)) = bv bs[k] := rfl
    have e4 : (bs.take k).length = k := by rw [List.length_take]; omega
    have e5 := ovr_set (l := img) (x := bs.take k) (i := i * 512) (c := bs[k]) (by rw [e4, hil]; omega)
    rw [e4] at e5
    rw [e3, bvs_set, e5, ← take_snoc_get bs k hkb] at him3
    exact ⟨⟨k + 1, rfl, by omega, by omega, him3, (f2.trans (fd.mono fun _ _ => trivial)).trans f3⟩, by simp only [Int.toNat_natCast]; omega⟩
  · refine fin ?_
    rw [List.take_of_length_le (by omega), List.take_of_length_le (by omega)]
  · refine fin ?_
    congr 1
    omega

/-- The document's disk amid a crash or a sync: so far the image is img. -/
structure Md (w : World) (ow : Nat → Nat) (t b : Nat) (H : Dh) (Q : List PD) (n : Nat) (img : List UInt8) (cs : Array Value) : Prop where
  im : SlT w ow T_uint8 1 H.ia (n * 512) H.ic (bvs img) (t + 1)
  pl : SlT w ow T_api_Pending 2 H.pa Q.length H.pc (fP Q) (t + 2)
  pb : ∀ x ∈ Q, SlT w ow T_uint8 1 x.a x.bs.length x.c (bvs x.bs) (t + 3)
  hb : Blk w b cs T_quotaref03_Device
  bt : ow b = t
  c0 : cs[0]? = some (.slice H.ia (n * 512) H.ic)
  c1 : cs[1]? = some (.slice H.pa Q.length H.pc)
  il : img.length = n * 512
  ok : ∀ x ∈ Q, 0 ≤ x.sec ∧ x.sec < (n : Int) ∧ x.bs.length = 512
  n2 : n ≤ 8192
theorem Md.fr {T : Nat → Prop} {w w' : World} {ow ow' : Nat → Nat} {t b n : Nat} {H : Dh} {Q : List PD} {img : List UInt8} {cs : Array Value} (h : Md w ow t b H Q n img cs) (f : Fro T w ow w' ow') (h0 : T t) (h1 : T (t + 1)) (h2 : T (t + 2)) (h3 : T (t + 3)) : Md w' ow' t b H Q n img cs :=
  ⟨h.im.fr f h1, h.pl.fr f h2, fun x hx => (h.pb x hx).fr f h3, (blk_fr h.hb h.bt f h0).1, (blk_fr h.hb h.bt f h0).2, h.c0, h.c1, h.il, h.ok, h.n2⟩
theorem RP.md {w : World} {ow : Nat → Nat} {t b kc : Nat} {H : Dh} {Q : List PD} {ka : Option Addr} {kp : List Nat} {kt ko : Int} {v : Dv} (h : RP w ow t b H Q ka kc kp kt ko v) : Md w ow t b H Q v.n v.img (H.rs Q.length v.img.length v.down v.calls v.step ka kp.length kc kt ko) := by
  have hlen := h.l.ok.len
  refine ⟨by rw [← hlen]; exact h.l.im, h.l.pl, h.l.pb, h.hb, h.bt, by rw [← hlen]; rfl, rfl, hlen, fun x hx => ?_, h.l.ok.n2⟩
  exact h.l.ok.q x.v (by rw [h.l.qv]; exact List.mem_map_of_mem hx)

/-- One write is laid. -/
theorem lay_q {w : World} {ow : Nat → Nat} {t b n k : Nat} {H : Dh} {Q : List PD} {img : List UInt8} {cs : Array Value} (h : Md w ow t b H Q n img cs) (hk : k < Q.length) {m : Int} (hm : 0 ≤ m) {K : World → Prop} {R : Ending → World → Prop}
    (hK : ∀ w' ow', Md w' ow' t b H Q n (ovr img ((Q[k]).sec.toNat * 512) ((Q[k]).bs.take m.toNat)) cs → Fro (fun u => u ≠ t + 1) w ow w' ow' → K w') :
    ∃ (a4 : Option Addr) (l4 c4 : Nat), w.cell? (Addr.add ⟨b, 0, none⟩ 1) = some (.slice a4 l4 c4) ∧ (IdxF a4 (k : Int) l4 fun d3 => (∃ (n7 : Int) (a5 : Option Addr) (l5 c5 : Nat), (w.cell? (d3.add (Int.toNat (k : Int) * 2)) = some (.int .i64 n7) ∧ w.cell? (Addr.add (d3.add (Int.toNat (k : Int) * 2)) 1) = some (.slice a5 l5 c5) ∧ True) ∧ (CallF Try.prog F_ref03_Device_lay #[(.pointer (some ⟨b, 0, none⟩)), (.agg #[(.int .i64 n7), (.slice a5 l5 c5)]), (.int .i64 m)] w (fun r2 w4 => r2 = (.tuple #[]) ∧ (K w4)) (PanF R)))) := by
  have hx := h.ok _ (List.getElem_mem hk)
  have hpb := h.pb _ (List.getElem_mem hk)
  refine ⟨_, _, _, cN h.hb h.c1, pdI h.pl.sl.rd hk rfl rfl ?_⟩
  have hsec : (Q[k]).sec = (((Q[k]).sec.toNat : Nat) : Int) := by omega
  have hle : ((Q[k]).bs.take m.toNat).length ≤ 512 := by rw [List.length_take]; omega
  have hg : GoC Try.prog F_ref03_Device_lay #[.pointer (some ⟨b, 0, none⟩), .agg #[.int .i64 (((Q[k]).sec.toNat : Nat) : Int), .slice (Q[k]).a (Q[k]).bs.length (Q[k]).c], .int .i64 m] w fun e w' => match e with | .returned v => v = (.tuple #[]) ∧ K w' | .panicked ch => PanF R ch w' | .outgrown => False :=
    lay_c h.im h.il h.n2 (by omega) h.hb (by rw [h.bt]; omega) h.c0 hpb hx.2.2 hm fun w' ow' him f => ⟨rfl, hK w' ow' (by
      have hh := blk_fr h.hb h.bt f (by omega)
      exact ⟨him, h.pl.fr f (by omega), fun x hx => (h.pb x hx).fr f (by omega), hh.1, hh.2, h.c0, h.c1, by rw [ovr_len (by rw [h.il]; omega)]; exact h.il, h.ok, h.n2⟩) f⟩
  rw [← hsec] at hg
  exact hg

theorem take_clamp (bs : List UInt8) (hb : bs.length = 512) (off : Int) : bs.take (if (0 : Int) > off then (0 : Int) else off).toNat = bs.take (clampN off) := by
  unfold clampN
  split
  · rw [show off.toNat = 0 by omega]; rfl
  · by_cases h : off.toNat ≤ 512
    · rw [Nat.min_eq_left h]
    · rw [Nat.min_eq_right (by omega), List.take_of_length_le (by omega), List.take_of_length_le (by omega)]

set_option maxRecDepth 100000 in
theorem rfall_c {w : World} {ow : Nat → Nat} {t b kc lc : Nat} {H : Dh} {Q : List PD} {ka la : Option Addr} {kp : List Nat} {kt ko : Int} {v : Dv} {keep : List Nat} {torn off : Int} {R : Ending → World → Prop} (h : RP w ow t b H Q ka kc kp kt ko v) (hl : Ls w ow t la keep) (hq : Q.length ≤ 1000000)
    (hK : ∀ w' ow', RX w' ow' t b (v.fall keep torn off) → Fro (fun u => u ≠ t ∧ u ≠ t + 1) w ow w' ow' → R (.returned (.tuple #[])) w') :
    GoC Try.prog F_ref03_Device_fall #[.pointer (some ⟨b, 0, none⟩), .agg #[.slice la keep.length lc, .int .i64 torn, .int .i64 off]] w R := by
  refine S_ref03_Device_fall ?_
  unfold W_ref03_Device_fall
  have hok := h.l.ok
  have hn2 := hok.n2
  have hlen := hok.len
  refine AlF.intro fun b1 w1 hb1e hb1 k1 s1 => ?_
  have f1 : Fro (fun _ => True) w ow w1 (ext ow w.heap.size (t + 3)) := Fro.of_kp0 (t + 3) k1
  have ht1 : ext ow w.heap.size (t + 3) b1 = t + 3 := ext_new (by omega)
  have h1 := h.fr f1 trivial trivial trivial trivial
  have hl1 := hl.fr f1 fun _ _ => trivial
  generalize ext ow w.heap.size (t + 3) = ow1 at *
  have hM1 := h1.md
  have hcsz : (H.rs Q.length v.img.length v.down v.calls v.step ka kp.length kc kt ko).size = 8 := rfl
  generalize hcE : H.rs Q.length v.img.length v.down v.calls v.step ka kp.length kc kt ko = cs at *
  have hfin : ((cs.setIfInBounds 1 (.slice none 0 0)).setIfInBounds 2 (.bool true)).setIfInBounds 4 (.int .i64 0) = (⟨H.ia, H.ic, none, 0⟩ : Dh).rs 0 v.img.length true v.calls 0 ka kp.length kc kt ko := by rw [← hcE]; rfl
  have hQv : ∀ k (hk : k < Q.length), v.q[k]? = some ((Q[k]).sec, (Q[k]).bs) := fun k hk => by rw [h.l.qv]; simp [hk, PD.v]
  have hql : v.q.length = Q.length := by rw [h.l.qv]; simp
  refine loopN (fun s w' => ∃ (k : Nat) (ow' : Nat → Nat) (img : List UInt8), s.1 = (k : Int) ∧ k ≤ Q.length ∧ fallL keep torn off k (v.q.drop k) img = fallL keep torn off 0 v.q v.img ∧ Md w' ow' t b H Q v.n img cs ∧ Fro (fun u => u ≠ t + 1) w1 ow1 w' ow') (fun s _ => Q.length - s.1.toNat)
    ⟨0, ow1, v.img, rfl, by omega, by simp, hM1, ⟨Kp.refl _ _, fun _ _ _ => rfl⟩⟩ ?_
  rintro ⟨k0, u⟩ w2 ⟨k, ow2, img, hk0, hk, hfl, hM, f2⟩ _
  dsimp only at hk0 ⊢
  subst hk0
  refine NilF.intro rfl ⟨_, _, _, cN hM.hb hM.c1, cond_d (fun hlt => ?_) (fun hge => ?_)⟩
  · have hkl : k < Q.length := by omega
    have hkw : IntKind.wrap .i64 ((k : Int) + 1) = ((k + 1 : Nat) : Int) := by rw [wrap_i64 (by omega) (by omega)]; omega
    rw [hkw]
    obtain ⟨hb12, ht12⟩ := blk_fr hb1 ht1 f2 (by omega)
    have hx := hM.ok _ (List.getElem_mem hkl)
    have hst := fallL_step keep torn off v.q k img (by omega)
    have hvk : v.q[k]'(by omega) = ((Q[k]).sec, (Q[k]).bs) := by have := hQv k hkl; rw [List.getElem?_eq_getElem (by omega)] at this; exact Option.some.inj this
    rw [hvk] at hst
    dsimp only at hst
    have hrd2 := (hl1.fr f2 fun u hu => hu.2.1).rd.rd
    have go : ∀ (m : Int) (w6 : World), 0 ≤ m → Kp no w2 w6 → fallL keep torn off (k + 1) (v.q.drop (k + 1)) (ovr img ((Q[k]).sec.toNat * 512) ((Q[k]).bs.take m.toNat)) = fallL keep torn off 0 v.q v.img → ∀ {K : World → Prop},
        (∀ w', ((∃ (k' : Nat) (ow' : Nat → Nat) (img : List UInt8), ((k + 1 : Nat) : Int) = (k' : Int) ∧ k' ≤ Q.length ∧ fallL keep torn off k' (v.q.drop k') img = fallL keep torn off 0 v.q v.img ∧ Md w' ow' t b H Q v.n img cs ∧ Fro (fun u => u ≠ t + 1) w1 ow1 w' ow') ∧ Q.length - Int.toNat ((k + 1 : Nat) : Int) < Q.length - Int.toNat (k : Int)) → K w') →
        NilF (some (⟨b, 0, none⟩ : Addr)) fun d2 => ∃ (a4 : Option Addr) (l4 c4 : Nat), w6.cell? (Addr.add d2 1) = some (.slice a4 l4 c4) ∧ (IdxF a4 (k : Int) l4 fun d3 => (∃ (n7 : Int) (a5 : Option Addr) (l5 c5 : Nat), (w6.cell? (d3.add (Int.toNat (k : Int) * 2)) = some (.int .i64 n7) ∧ w6.cell? (Addr.add (d3.add (Int.toNat (k : Int) * 2)) 1) = some (.slice a5 l5 c5) ∧ True) ∧ (CallF Try.prog F_ref03_Device_lay #[(.pointer (some ⟨b, 0, none⟩)), (.agg #[(.int .i64 n7), (.slice a5 l5 c5)]), (.int .i64 m)] w6 (fun r2 w4 => r2 = (.tuple #[]) ∧ (K w4)) (PanF R)))) := fun m w6 hm k6 he K hK' =>
      NilF.intro rfl (lay_q (hM.fr (Fro.kp0 k6) trivial trivial trivial trivial) hkl hm fun w' ow' hM' f' => hK' w' ⟨⟨k + 1, ow', _, rfl, by omega, he, hM', (f2.trans ((Fro.kp0 k6).mono fun _ _ => trivial)).trans f'⟩, by simp only [Int.toNat_natCast]; omega⟩)
    have t512 : (Q[k]).bs.take (512 : Int).toNat = (Q[k]).bs := List.take_of_length_le (by rw [hx.2.2]; decide)
    have t0 : (Q[k]).bs.take (0 : Int).toNat = [] := rfl
    refine ⟨torn, cN hb12 rfl, cond_eq (fun hte => ⟨off, cN hb12 rfl, ?_⟩) (fun htn => ?_)⟩
    · refine ⟨_, _, _, _, _, ⟨c0 hb12 rfl, cN hb12 rfl, cN hb12 rfl, trivial⟩, Kept_c hrd2 hl.lt (by have := hl.ln; omega) (by omega) fun w3 k3 => ⟨_, rfl, cond_b (fun hkt => ?_) (fun hkf => ?_)⟩⟩
      · rw [if_pos hkt] at hst
        exact go 512 w3 (by decide) k3 (by rw [t512, ← hst]; exact hfl) fun w' hh => hh
      · rw [hkf, if_neg (by decide), if_pos hte] at hst
        exact go _ w3 (by split <;> omega) k3 (by rw [take_clamp _ hx.2.2, ← hst]; exact hfl) fun w' hh => hh
    · refine ⟨_, _, _, _, _, ⟨c0 hb12 rfl, cN hb12 rfl, cN hb12 rfl, trivial⟩, Kept_c hrd2 hl.lt (by have := hl.ln; omega) (by omega) fun w3 k3 => ⟨_, rfl, cond_b (fun hkt => ?_) (fun hkf => ?_)⟩⟩
      · rw [if_pos hkt] at hst
        exact go 512 w3 (by decide) k3 (by rw [t512, ← hst]; exact hfl) fun w' hh => hh
      · rw [hkf, if_neg (by decide), if_neg htn] at hst
        exact go 0 w3 (by decide) k3 (by rw [t0, ovr_nil, ← hst]; exact hfl) fun w' hh => hh
  · have hke : k = Q.length := by omega
    subst hke
    rw [List.drop_eq_nil_of_le (by omega), fallL] at hfl
    refine NilF.intro rfl (stb (add1 b 1) hM.hb hM.bt (by rw [hcsz]; decide) fun w11 hb11 f11 s11 => NilF.intro rfl (stb (add1 b 2) hb11 hM.bt (by simp [hcsz]) fun w12 hb12 f12 s12 => NilF.intro rfl (stb (add1 b 4) hb12 hM.bt (by simp [hcsz]) fun w13 hb13 f13 s13 => ?_)))
    have ff := (f11.trans f12).trans f13
    have hfo := hok.fall keep torn off
    rw [hfin] at hb13
    have hlen' : (fallL keep torn off 0 v.q v.img).length = v.img.length := by rw [← hfl, hM.il, hlen]
    refine hK w13 ow2 ⟨⟨H.ia, H.ic, none, 0⟩, [], ka, kc, kp, kt, ko, ⟨?_, slt_nil _ _ _ _ _, fun x hx => absurd hx (by simp), rfl, hfo⟩, ?_, hM.bt, (h1.ks.fr f2 (by omega)).fr ff (by omega), h.kl, fun hh => absurd rfl hh⟩ (((f1.mono fun _ _ => trivial).trans (f2.mono fun u hu => hu.2)).trans (ff.mono fun u hu => hu.1))
    · show SlT w13 ow2 T_uint8 1 H.ia (fallL keep torn off 0 v.q v.img).length H.ic (bvs (fallL keep torn off 0 v.q v.img)) (t + 1)
      rw [← hfl, hM.il]
      exact hM.im.fr ff (by omega)
    · show Blk w13 b ((⟨H.ia, H.ic, none, 0⟩ : Dh).rs 0 (fallL keep torn off 0 v.q v.img).length true v.calls 0 ka kp.length kc kt ko) T_quotaref03_Device
      rw [hlen']
      exact hb13
end Go.Proofs.Ytalkkhocljehfaa

/- The document's disk: its contracts, second part. Conditions: none. -/
set_option linter.unusedVariables false
set_option linter.unusedSimpArgs false
namespace Go.Proofs.Ytalkkhocljehfaa
open Go Go.RowKit

section
variable {w : World} {ow : Nat → Nat} {t b : Nat} {v : Dv} {R : Ending → World → Prop}
theorem rkp_ls {kc : Nat} {H : Dh} {Q : List PD} {ka : Option Addr} {kp : List Nat} {kt ko : Int} (h : RP w ow t b H Q ka kc kp kt ko v) (hln : kp.length * 8 ≤ 140737488355328) : Ls w ow t ka kp :=
  ⟨h.ks.rdT.mono fun u hu => ⟨by omega, by omega, by omega⟩, h.kl, hln, fun h0 => by have := h.ks.sl; rw [h0] at this; exact (this.zero).1⟩
/-- An element of a list of pending writes: where it lies. -/
theorem pdA {a : Option Addr} {Q : List PD} (h : Rd w a (fP Q)) {i : Nat} (hi : i < Q.length) : ∃ b o, a = some ⟨b, o, none⟩ ∧ w.cell? ((⟨b, o, none⟩ : Addr).add (i * 2)) = some (.int .i64 (Q[i]).sec) ∧ w.cell? (Addr.add ((⟨b, o, none⟩ : Addr).add (i * 2)) 1) = some (.slice (Q[i]).a (Q[i]).bs.length (Q[i]).c) := by
  have h0 : (fP Q)[i * 2 + 0]? = some (.int .i64 (Q[i]).sec) := by unfold fP; rw [flatV_get PD.cs_len Q i hi 0 (by omega)]; rfl
  have h1 : (fP Q)[i * 2 + 1]? = some (.slice (Q[i]).a (Q[i]).bs.length (Q[i]).c) := by unfold fP; rw [flatV_get PD.cs_len Q i hi 1 (by omega)]; rfl
  obtain ⟨b, o, ha, c0⟩ := h _ _ h0
  obtain ⟨b', o', ha', c1⟩ := h _ _ h1
  rw [ha] at ha'
  cases ha'
  exact ⟨b, o, ha, by rw [add_at]; exact c0, by rw [add_at, add_at, Nat.add_assoc]; exact c1⟩

theorem rcrash_c {la : Option Addr} {lc : Nat} {keep : List Nat} {torn off : Int} (h : RX w ow t b v) (hl : Ls w ow t la keep) (hq : v.q.length ≤ 1000000)
    (hK : ∀ w' ow', RX w' ow' t b (v.crash keep torn off).2 → Fro (Td t) w ow w' ow' → R (.returned (.int .i64 ((v.crash keep torn off).1 : Int))) w') :
    GoC Try.prog F_ref03_Device_Crash #[.pointer (some ⟨b, 0, none⟩), .agg #[.slice la keep.length lc, .int .i64 torn, .int .i64 off]] w R := by
  obtain ⟨H, Q, ka, kc, kp, kt, ko, h⟩ := h
  refine S_ref03_Device_Crash ?_
  unfold W_ref03_Device_Crash
  refine AlF.intro fun b1 w1 hb1e hb1 k1 s1 => ?_
  have f1 : Fro (fun _ => True) w ow w1 (ext ow w.heap.size (t + 3)) := Fro.of_kp0 (t + 3) k1
  have h1 := h.fr f1 trivial trivial trivial trivial
  have hl1 := hl.fr f1 fun _ _ => trivial
  refine NilF.intro rfl ⟨v.down, cN h1.hb rfl, cond_b (fun hd => ?_) (fun hd => ?_)⟩
  · have e : v.crash keep torn off = (40, v) := by unfold Dv.crash; rw [if_pos hd]
    have := hK w1 _ (by rw [e]; exact ⟨H, Q, ka, kc, kp, kt, ko, h1⟩) (f1.mono fun _ _ => trivial)
    rw [e] at this
    exact this
  · have e : v.crash keep torn off = (0, v.fall keep torn off) := by unfold Dv.crash; rw [hd, if_neg (by decide)]
    refine ⟨_, _, _, _, _, ⟨c0 hb1 rfl, cN hb1 rfl, cN hb1 rfl, trivial⟩, rfall_c h1 hl1 (by have := h.l.qv; rw [this] at hq; simpa using hq) fun w' ow' h' f' => ⟨rfl, ?_⟩⟩
    have := hK w' ow' (by rw [e]; exact h') ((f1.mono fun _ _ => trivial).trans (f'.mono fun u hu => ⟨hu.1, hu.2.1⟩))
    rw [e] at this
    exact this

theorem rarm_c {step : Int} {la : Option Addr} {lc : Nat} {keep : List Nat} {torn off : Int} (h : RX w ow t b v) (hl : Ls w ow t la keep) (hs : step ≤ 9223372036854775807)
    (hK : ∀ w' ow', RX w' ow' t b (v.arm step keep torn off).2 → Fro (Td t) w ow w' ow' → R (.returned (.int .i64 ((v.arm step keep torn off).1 : Int))) w') :
    GoC Try.prog F_ref03_Device_Arm #[.pointer (some ⟨b, 0, none⟩), .int .i64 step, .agg #[.slice la keep.length lc, .int .i64 torn, .int .i64 off]] w R := by
  obtain ⟨H, Q, ka, kc, kp, kt, ko, h⟩ := h
  refine S_ref03_Device_Arm ?_
  unfold W_ref03_Device_Arm
  refine AlF.intro fun b1 w1 hb1e hb1 k1 s1 => ?_
  have f1 : Fro (fun _ => True) w ow w1 (ext ow w.heap.size (t + 3)) := Fro.of_kp0 (t + 3) k1
  have ht1 : ext ow w.heap.size (t + 3) b1 = t + 3 := ext_new (by omega)
  have h1 := h.fr f1 trivial trivial trivial trivial
  have hl1 := hl.fr f1 fun _ _ => trivial
  generalize ext ow w.heap.size (t + 3) = ow1 at *
  have same : ∀ n, v.arm step keep torn off = (n, v) → R (.returned (.int .i64 (n : Int))) w1 := fun n e => by
    have := hK w1 ow1 (by rw [e]; exact ⟨H, Q, ka, kc, kp, kt, ko, h1⟩) (f1.mono fun _ _ => trivial)
    rw [e] at this
    exact this
  refine NilF.intro rfl ⟨v.down, cN h1.hb rfl, cond_b (fun hd => ?_) (fun hd => cond_d (fun hneg => ?_) (fun hnn => ?_))⟩
  · exact same 40 (by unfold Dv.arm; rw [if_pos hd])
  · exact same 4 (by unfold Dv.arm; rw [hd, if_neg (by decide), if_pos hneg])
  have e : v.arm step keep torn off = (0, { v with step := step, keep := keep, torn := torn, off := off }) := by unfold Dv.arm; rw [hd, if_neg (by decide), if_neg hnn]
  refine NilF.intro rfl (stb (add1 b 4) h1.hb h1.bt (by simp [Dh.rs]) fun w2 hb2 f2 s2 => ?_)
  have kd : Kp no w2 w2.drew := Kp.drew w2 1
  have hb12 := f2.kp.blk hb1 (fun hn => hn (by rw [ht1]; omega))
  have nb1 : ¬ b1 = b := fun hh => by have := h1.bt; rw [← hh] at this; omega
  have hr2 := (hl1.fr f2 fun u hu => hu.1).rd.rd
  refine ⟨fun w' => Kp (fun k => k = b) w2 w', kd.of_no, _, _, _, fun w' kz => c0 (kz.blk hb12 nb1) rfl, _, fun w' kz => cN (kz.blk hb12 nb1) rfl, _, fun w' kz => cN (kz.blk hb12 nb1) rfl, ?_⟩
  refine append_new er_u64 (hr2.kp0 kd) (by simp) hl.nn (u64_one keep) (by have := hl.ln; omega) (by have := hl.ln; omega) fun a3 c3 w3 hsl3 k3 fr3 _ => ⟨_, _, _, rfl, (kd.trans0 k3).of_no, ?_⟩
  have k23 := kd.trans0 k3
  have f3 : Fro (fun _ => True) w2 ow1 w3 (ext ow1 w2.heap.size (t + 3)) := Fro.of_kp0 (t + 3) k23
  have hb3 := k23.blk hb2 id
  have hbt3 : ext ow1 w2.heap.size (t + 3) b = t := by rw [ext_old hb2.lt]; exact h1.bt
  have hk3 : SlT w3 (ext ow1 w2.heap.size (t + 3)) T_uint64 1 a3 keep.length c3 (keep.map u64v) (t + 3) := ⟨hsl3, fun j hj => ext_new (fr3 j hj)⟩
  have l3 := ((h1.l.fr f2 (by omega) (by omega) (by omega)).fr f3 trivial trivial trivial)
  refine NilF.intro rfl (StF.at (add1 b 5) hb3 (by simp [Dh.rs]) fun w4 hb4 k4 s4 => StF.at (add2 b 5 1) hb4 (by simp [Dh.rs]) fun w5 hb5 k5 s5 => StF.at (add2 b 5 2) hb5 (by simp [Dh.rs]) fun w6 hb6 k6 s6 => ?_)
  have k36 := (k4.trans0 k5).trans0 k6
  have f6 : Fro (fun u => u ≠ t) w3 (ext ow1 w2.heap.size (t + 3)) w6 (ext ow1 w2.heap.size (t + 3)) := Fro.of_kp' k36 fun b' _ hb' hne => hne (by rw [hb']; exact hbt3)
  have l6 := l3.fr f6 (by omega) (by omega) (by omega)
  refine ⟨k23.of_no.trans0 k36, ?_⟩
  have := hK w6 (ext ow1 w2.heap.size (t + 3)) (by
    rw [e]
    refine ⟨H, Q, a3, c3, keep, torn, off, ⟨l6.im, l6.pl, l6.pb, l6.qv, ?_⟩, hb6, hbt3, hk3.fr f6 (by omega), hl.lt, fun _ => ⟨rfl, rfl, rfl⟩⟩
    have := h.l.ok.arm torn off hs hl.lt (step := step) (keep := keep)
    rw [e] at this
    exact this) ((((f1.mono fun _ _ => trivial).trans (f2.mono fun u hu => hu.1)).trans (f3.mono fun _ _ => trivial)).trans (f6.mono fun u hu => hu.1))
  rw [e] at this
  exact this

/-- A new disk of the document's. -/
theorem rdev_new {w1 w2 : World} {b1 ic : Nat} {ia : Option Addr} {img : List UInt8} (k1 : Kp no w w1) (him : Sl w1 T_uint8 1 ia img.length ic (bvs img)) (fr : Fresh w ia) (hok : (Dv.load img).Ok) (hb : Blk w2 b1 #[.slice ia img.length ic, .slice none 0 0, .bool false, .int .i64 0, .int .i64 0, .slice none 0 0, .int .i64 0, .int .i64 0] T_quotaref03_Device) (k2 : Kp no w1 w2) (hbe : b1 = w1.heap.size) (t : Nat) :
    ∃ ow', RX w2 ow' t b1 (Dv.load img) ∧ ∀ j, j < w.heap.size → ow' j = ow j := by
  have sz := k1.size
  refine ⟨tag (Is ia) (t + 1) (ext ow w.heap.size t), ⟨⟨ia, ic, none, 0⟩, [], none, 0, [], 0, 0, ⟨⟨him.kp0 k2, fun j hj => tag_in hj⟩, slt_nil _ _ _ _ _, fun x hx => absurd hx (by simp), rfl, hok⟩, hb, ?_, slt_nil _ _ _ _ _, fun x hx => absurd hx (by simp), fun hh => absurd rfl hh⟩, fun j hj => ?_⟩
  · rw [tag_out fun hh => by have := him.lt b1 hh; omega, ext_new (by omega)]
  · rw [tag_out fun hh => by have := fr j hh; omega, ext_old hj]
theorem rnew_c {n : Nat} (h1 : 1 ≤ n) (h2 : n ≤ 8192) (t : Nat) (hK : ∀ b w' ow', RX w' ow' t b (Dv.new n) → Kp no w w' → (∀ j, j < w.heap.size → ow' j = ow j) → w.heap.size ≤ b → R (.returned (.tuple #[.pointer (some ⟨b, 0, none⟩), .int .i64 0])) w') : GoC Try.prog F_ref03_New #[.int .i64 (n : Int)] w R := by
  refine S_ref03_New ?_
  unfold W_ref03_New
  refine cond_f (decide_eq_false (by omega)) (cond_f (decide_eq_false (by omega)) ?_)
  have e : IntKind.wrap .i64 ((n : Int) * 512) = ((n * 512 : Nat) : Int) := by rw [wrap_i64 (by omega) (by omega)]; omega
  rw [e]
  refine make_u8 (n := n * 512) (by omega) fun bi w1 cur hbi hcur k1 hbe => ⟨_, _, _, rfl, AlF.intro fun b1 w2 hb1e hb1 k2 s2 => ?_⟩
  have hl : (List.replicate (n * 512) (0 : UInt8)).length = n * 512 := List.length_replicate
  have him : Sl w1 T_uint8 1 (some ⟨bi, 0, none⟩) (List.replicate (n * 512) (0 : UInt8)).length (n * 512) (bvs (List.replicate (n * 512) (0 : UInt8))) := by
    refine ⟨by rw [bvs_len]; omega, by omega, .inr ⟨bi, cur, rfl, hbi, ?_, ?_⟩⟩
    · have := congrArg List.length hcur
      rw [bvs_len, hl] at this
      simpa using this
    · rw [hcur, List.take_of_length_le (by rw [bvs_len]; omega)]
  obtain ⟨ow', hd, ho⟩ := rdev_new (ow := ow) (img := List.replicate (n * 512) 0) (b1 := b1) (w2 := w2) k1 him (fun k hk => by obtain ⟨_, he, rfl⟩ := hk; cases he; show w.heap.size ≤ bi; omega) (Dv.Ok.load hl h1 h2) (by rw [hl]; exact hb1) k2 hb1e t
  exact hK b1 w2 ow' hd (k1.trans0 k2) ho (by have := k1.size; omega)
theorem rnew_bad_c {n : Int} (h : n < 1 ∨ 8192 < n) (hK : R (.returned (.tuple #[.pointer none, .int .i64 4])) w) : GoC Try.prog F_ref03_New #[.int .i64 n] w R := by
  refine S_ref03_New ?_
  unfold W_ref03_New
  refine cond_d (fun h1 => hK) (fun h1 => cond_d (fun h2 => hK) (fun h2 => ?_))
  omega
theorem readL_step (i : Int) (q : List (Int × List UInt8)) (k : Nat) (bs : List UInt8) (hk : k < q.length) : readL i (q.drop k) bs = readL i (q.drop (k + 1)) (if (q[k]).1 = i then (q[k]).2 else bs) := by
  rw [List.drop_eq_getElem_cons hk, readL]

set_option maxRecDepth 100000 in
theorem rread_c {i : Int} (h : RX w ow t b v) (hq : v.q.length ≤ 1000000)
    (hK : ∀ a' l' c' w', Kp no w w' → Sl w' T_uint8 1 a' l' c' (bvs (v.read i).1) → Fresh w a' → R (.returned (.tuple #[.slice a' l' c', .int .i64 ((v.read i).2 : Int)])) w') :
    GoC Try.prog F_ref03_Device_Read #[.pointer (some ⟨b, 0, none⟩), .int .i64 i] w R := by
  have hX := h
  obtain ⟨H, Q, ka, kc, kp, kt, ko, h⟩ := h
  have hok := h.l.ok
  have hlen := hok.len
  have hn2 := hok.n2
  have hql : v.q.length = Q.length := by rw [h.l.qv]; simp
  have nil_ : ∀ n, v.read i = ([], n) → R (.returned (.tuple #[.slice none 0 0, .int .i64 (n : Int)])) w := fun n e => by
    have := hK none 0 0 w (Kp.refl _ _) (by rw [e]; exact Sl.nil _ _ _) (fun k hk => (is_none hk).elim)
    rw [e] at this
    exact this
  refine S_ref03_Device_Read ?_
  unfold W_ref03_Device_Read
  refine NilF.intro rfl ⟨v.down, cN h.hb rfl, cond_b (fun hd => nil_ 40 (by unfold Dv.read; rw [if_pos hd])) (fun hd => ?_)⟩
  refine rthere_c hX ⟨_, rfl, cond_not (cond_d (fun hth => ?_) (fun hth => nil_ 41 (by unfold Dv.read; rw [hd, if_neg (by decide), if_pos hth])))⟩
  have hth1 := hth.1
  have hth2 := hth.2
  obtain ⟨I, rfl⟩ : ∃ I : Nat, i = (I : Int) := ⟨i.toNat, by omega⟩
  have e : v.read (I : Int) = (readL (I : Int) v.q (v.sect I), 0) := by unfold Dv.read; rw [hd, if_neg (by decide), if_neg (by simpa using hth), Int.toNat_natCast]
  have e1 : IntKind.wrap .i64 ((I : Int) * 512) = ((I * 512 : Nat) : Int) := by rw [wrap_i64 (by omega) (by omega)]; omega
  have e2 : IntKind.wrap .i64 (((I * 512 : Nat) : Int) + 512) = ((I * 512 + 512 : Nat) : Int) := by rw [wrap_i64 (by omega) (by omega)]; omega
  rw [e1, e2]
  have him := h.l.im.sl
  refine NilF.intro rfl ⟨_, _, _, c0 h.hb rfl, ⟨by omega, by have := him.2.1; omega⟩, ⟨by omega, by simp only [hiOf]; omega⟩, ?_⟩
  rw [Int.toNat_natCast, Int.toNat_natCast, show I * 512 + 512 - I * 512 = 512 by omega]
  have hrd : Rd w (subA H.ia H.ic (I * 512) 1) (bvs (v.sect I)) := by
    unfold Dv.sect
    rw [← bvs_take]
    exact (rd_drop him.rd him.2.1).take _
  have hsl : (v.sect I).length = 512 := by unfold Dv.sect; rw [List.length_take, List.length_drop]; omega
  have nn : subA H.ia H.ic (I * 512) 1 = none → (512 : Nat) = 0 := fun h0 => by
    obtain ⟨_, _, he, _⟩ := hrd 0 _ (bvs_get (by omega))
    rw [h0] at he
    cases he
  refine rown_c hrd hsl nn (by decide) fun a2 c2 w2 hs2 k2 fr2 => ⟨_, _, _, rfl, ?_⟩
  refine loopN (fun s w' => ∃ (k : Nat) (a : Option Addr) (c : Nat) (bs : List UInt8), s = ((a, 512, c), (k : Int), ()) ∧ k ≤ Q.length ∧ bs.length = 512 ∧ Kp no w w' ∧ Sl w' T_uint8 1 a 512 c (bvs bs) ∧ Fresh w a ∧ readL (I : Int) (v.q.drop k) bs = readL (I : Int) v.q (v.sect I)) (fun s _ => Q.length - s.2.1.toNat)
    ⟨0, a2, c2, _, rfl, by omega, hsl, k2, hs2, fr2, by simp⟩ ?_
  rintro s w3 ⟨k, a, c, bs, rfl, hk, hbl, k3, hs3, fr3, hrl⟩ _
  dsimp only
  have h3 := h.kp0 k3
  refine NilF.intro rfl ⟨_, _, _, cN h3.hb rfl, cond_d (fun hlt => ?_) (fun hge => ?_)⟩
  · have hkl : k < Q.length := by omega
    have hkw : IntKind.wrap .i64 ((k : Int) + 1) = ((k + 1 : Nat) : Int) := by rw [wrap_i64 (by omega) (by omega)]; omega
    rw [hkw]
    have hvk : v.q[k]'(by omega) = ((Q[k]).sec, (Q[k]).bs) := by simp only [h.l.qv, List.getElem_map, PD.v]
    have hst := readL_step (I : Int) v.q k bs (by omega)
    rw [hvk] at hst
    dsimp only at hst
    have hqk := hok.q ((Q[k]).sec, (Q[k]).bs) (by rw [← hvk]; exact List.getElem_mem _)
    obtain ⟨bq, oq, hqa, q0, q1⟩ := pdA h3.l.pl.sl.rd hkl
    refine NilF.intro rfl ⟨_, _, _, cN h3.hb rfl, by omega, hlt, _, hqa, _, by rw [Int.toNat_natCast]; exact q0, cond_eq (fun hse => ?_) (fun hsn => ?_)⟩
    · rw [if_pos hse] at hst
      have hpb := (h3.l.pb _ (List.getElem_mem hkl)).sl
      refine NilF.intro rfl ⟨_, _, _, cN h3.hb rfl, by omega, hlt, _, hqa, _, _, _, by rw [Int.toNat_natCast]; exact q1, ?_⟩
      refine rown_c hpb.rd rfl (fun h0 => sl_some' hpb h0) (by rw [hqk.2.2]; decide) fun a4 c4 w4 hs4 k4 fr4 => ⟨_, _, _, rfl, ?_⟩
      rw [hqk.2.2] at hs4 ⊢
      exact ⟨⟨k + 1, a4, c4, _, rfl, by omega, hqk.2.2, k3.trans0 k4, hs4, fun j hj => by have := fr4 j hj; have := k3.size; omega, by rw [← hst]; exact hrl⟩, by simp only [Int.toNat_natCast]; omega⟩
    · rw [if_neg hsn] at hst
      exact ⟨⟨k + 1, a, c, bs, rfl, by omega, hbl, k3, hs3, fr3, by rw [← hst]; exact hrl⟩, by simp only [Int.toNat_natCast]; omega⟩
  · have hke : k = Q.length := by omega
    subst hke
    rw [List.drop_eq_nil_of_le (by omega), readL] at hrl
    have := hK a 512 c w3 k3 (by rw [e, ← hrl]; exact hs3) fr3
    rw [e] at this
    exact this
end
end Go.Proofs.Ytalkkhocljehfaa

/- The document's disk: its contracts, third part: Cache, Write, Sync. Conditions: none. -/
set_option linter.unusedVariables false
set_option linter.unusedSimpArgs false
namespace Go.Proofs.Ytalkkhocljehfaa
open Go Go.RowKit

section
variable {w : World} {ow : Nat → Nat} {t b : Nat} {v : Dv} {R : Ending → World → Prop}
set_option maxRecDepth 100000 in
theorem rcache_c (h : RX w ow t b v) (hq : v.q.length ≤ 1000000) (hK : ∀ a c X w', Ca w w' a v.q.length c X → X.map PD.v = v.q → R (.returned (.slice a v.q.length c)) w') : GoC Try.prog F_ref03_Device_Cache #[.pointer (some ⟨b, 0, none⟩)] w R := by
  obtain ⟨H, Q, ka, kc, kp, kt, ko, h⟩ := h
  have hql : v.q.length = Q.length := by rw [h.l.qv]; simp
  have hok := h.l.ok
  refine S_ref03_Device_Cache ?_
  unfold W_ref03_Device_Cache
  refine loopN (fun s w' => ∃ (k : Nat) (a : Option Addr) (c : Nat) (X : List PD), s = ((a, k, c), (k : Int), ()) ∧ k ≤ Q.length ∧ Ca w w' a k c X ∧ X.map PD.v = v.q.take k) (fun s _ => Q.length - s.2.1.toNat)
    ⟨0, none, 0, [], rfl, by omega, ⟨Kp.refl _ _, Sl.nil _ _ _, rfl, fun k hk => (is_none hk).elim, fun x hx => absurd hx (by simp), List.Pairwise.nil⟩, by simp⟩ ?_
  rintro s w1 ⟨k, a, c, X, rfl, hk, hC, hX⟩ _
  dsimp only
  have h1 := h.kp0 hC.k
  refine NilF.intro rfl ⟨_, _, _, cN h1.hb rfl, cond_d (fun hlt => ?_) (fun hge => ?_)⟩
  rotate_left
  · have hke : k = Q.length := by omega
    subst hke
    have := hK a c X w1 (by rw [hql]; exact hC) (by rw [hX, ← hql, List.take_length])
    rw [hql] at this
    exact this
  have hkl : k < Q.length := by omega
  have hkw : IntKind.wrap .i64 ((k : Int) + 1) = ((k + 1 : Nat) : Int) := by rw [wrap_i64 (by omega) (by omega)]; omega
  rw [hkw]
  have hpb := h1.l.pb _ (List.getElem_mem hkl)
  have hvk : v.q.take (k + 1) = v.q.take k ++ [(Q[k]).v] := by rw [h.l.qv]; exact take_map PD.v Q k hkl
  have hqk := hok.q (Q[k]).v (by rw [h.l.qv]; exact List.mem_map_of_mem (List.getElem_mem hkl))
  obtain ⟨bq, oq, hqa, q0, q1⟩ := pdA h1.l.pl.sl.rd hkl
  generalize Q[k] = x at *
  have kd : Kp no w1 w1.drew := Kp.drew w1 1
  have la := hC.s.lt
  have sz0 := hC.k.size
  have nb : ¬ Is a b := fun hh => by have := hC.f b hh; have := h.hb.lt; omega
  have nq : ¬ Is a bq := fun hh => by have := hC.f bq hh; have := h.l.pl.sl.lt bq ⟨_, hqa, rfl⟩; omega
  refine ⟨fun w' => Kp (Is a) w1 w', kd.of_no, NilF.intro rfl ⟨_, _, _, fun w' kz => cN (kz.blk h1.hb nb) rfl, by omega, hlt, _, hqa, _, fun w' kz => by rw [Int.toNat_natCast]; exact kz.cell q0 (by rw [add_at]; exact nq), ?_⟩⟩
  refine NilF.intro rfl ⟨_, _, _, fun w' kz => cN (kz.blk h1.hb nb) rfl, by omega, hlt, _, hqa, _, _, _, fun w' kz => by rw [Int.toNat_natCast]; exact kz.cell q1 (by rw [add_at, add_at]; exact nq), ?_⟩
  have hx0 : x.a = none → x.bs.length = 0 := fun h0 => sl_some' hpb.sl h0
  refine rown_c (hpb.sl.rd.kp0 kd) rfl hx0 (by have := hqk.2.2; show x.bs.length ≤ _; have e : x.v.2.length = x.bs.length := rfl; omega) fun a4 c4 w5 hs5 k5 fr5 => ⟨_, _, _, rfl, (kd.trans0 k5).of_no, ?_⟩
  refine AlF.intro fun b2 w6 hb2e hb2 k6 s6 => ⟨((kd.trans0 k5).trans0 k6).of_no, ?_⟩
  have k16 := (kd.trans0 k5).trans0 k6
  have sz5 := k5.size
  have szd := kd.size
  refine append_own er_pd (hC.s.kp0 k16) (rd_cells (xs := PD.cs ⟨x.sec, a4, c4, x.bs⟩) hb2 rfl) rfl (fun h => by cases h) (fun u hu => by
    simp only [PD.cs, List.mem_cons, List.not_mem_nil, or_false] at hu
    rcases hu with rfl | rfl <;> rfl) (by omega) (by omega) fun a5 c5 w7 hs7 k7 hi7 _ _ => ⟨_, _, _, rfl, k16.of_no.trans0 k7, ?_⟩
  have la4 := hs5.lt
  refine ⟨⟨k + 1, a5, c5, X ++ [⟨x.sec, a4, c4, x.bs⟩], rfl, by omega, ⟨?_, ?_, by simp [hC.n], fun j hj => ?_, fun y hy => ?_, List.pairwise_append.2 ⟨hC.d, List.pairwise_singleton _ _, fun y hy z hz j hj hj' => ?_⟩⟩, ?_⟩, by simp only [Int.toNat_natCast]; omega⟩
  · exact (hC.k.trans0 k16).trans k7 (fun _ _ h => h) fun j hj hh => by have := hC.f j hh; omega
  · have e : fP (X ++ [⟨x.sec, a4, c4, x.bs⟩]) = fP X ++ PD.cs ⟨x.sec, a4, c4, x.bs⟩ := by unfold fP; rw [flatV_app]; simp [flatV]
    rw [e]
    exact hs7
  · rcases hi7 j hj with hh | hh
    · exact hC.f j hh
    · have := k6.size; omega
  · rcases List.mem_append.1 hy with hy | hy
    · obtain ⟨q1, q2, q3⟩ := hC.x y hy
      refine ⟨(q1.kp0 k16).kp k7 q3, q2, fun j hj hh => ?_⟩
      have := q1.lt j hj
      rcases hi7 j hh with h' | h'
      · exact q3 j hj h'
      · have := k6.size; omega
    · rw [List.mem_singleton] at hy
      subst hy
      refine ⟨(hs5.kp0 k6).kp k7 fun j hj hh => ?_, fun j hj => ?_, fun j hj hh => ?_⟩
      · have := fr5 j hj; have := la j hh; omega
      · have := fr5 j hj; omega
      · have q1 := fr5 j hj
        have q2 := la4 j hj
        rcases hi7 j hh with h' | h'
        · have := la j h'; omega
        · have := k6.size; omega
  · rw [List.mem_singleton] at hz
    subst hz
    have := (hC.x y hy).1.lt j hj
    have := fr5 j hj'
    omega
  · rw [hvk, List.map_append, hX]
    rfl

set_option maxRecDepth 100000 in
theorem rwrite_c {i : Int} {a : Option Addr} {l c : Nat} {bs : List UInt8} (h : RX w ow t b v) (hr : Bs w ow t a bs) (hl : bs.length = l) (hq : v.q.length ≤ 999999) (hln : v.keep.length * 8 ≤ 140737488355328)
    (hK : ∀ w' ow', RX w' ow' t b (v.write i bs).2 → Fro (Td t) w ow w' ow' → R (.returned (.int .i64 ((v.write i bs).1 : Int))) w') :
    GoC Try.prog F_ref03_Device_Write #[.pointer (some ⟨b, 0, none⟩), .int .i64 i, .slice a l c] w R := by
  subst hl
  have hX := h
  obtain ⟨H, Q, ka, kc, kp, kt, ko, h⟩ := h
  have hql : v.q.length = Q.length := by rw [h.l.qv]; simp
  refine S_ref03_Device_Write ?_
  unfold W_ref03_Device_Write
  have same : ∀ n, v.write i bs = (n, v) → R (.returned (.int .i64 (n : Int))) w := fun n e => by
    have := hK w ow (by rw [e]; exact hX) ⟨Kp.refl _ _, fun _ _ _ => rfl⟩
    rw [e] at this
    exact this
  refine NilF.intro rfl ⟨v.down, cN h.hb rfl, cond_b (fun hd => ?_) (fun hd => ?_)⟩
  · exact same 40 (by unfold Dv.write; rw [if_pos hd])
  have ed : ∀ {A B : Nat × Dv}, (if v.down then A else B) = B := fun {A B} => by rw [hd, if_neg (by decide)]
  refine rthere_c hX ⟨_, rfl, cond_not (cond_d (fun hth => ?_) (fun hth => ?_))⟩
  rotate_left
  · exact same 41 (by unfold Dv.write; rw [ed, if_pos hth])
  refine cond_ne (fun hbl => ?_) (fun hbl => ?_)
  · exact same 42 (by unfold Dv.write; rw [ed, if_neg (by simpa using hth), if_pos (by omega)])
  have hb5 : bs.length = 512 := by omega
  have kd : Kp no w w.drew := Kp.drew w 1
  have nb : ¬ Is H.pa b := fun hh => by have := h.l.pl.tg b hh; have := h.bt; omega
  refine ⟨fun w' => Kp (Is H.pa) w w', kd.of_no, NilF.intro rfl ⟨_, _, _, fun w' kz => cN (kz.blk h.hb nb) rfl, ?_⟩⟩
  refine rown_c (hr.rd.rd.kp0 kd) rfl hr.nn hr.ln fun a3 c3 w3 hsl3 k3 fr3 => ⟨_, _, _, rfl, (kd.trans0 k3).of_no, ?_⟩
  refine AlF.intro fun b1 w4 hb1e hb1 k4 s4 => ⟨((kd.trans0 k3).trans0 k4).of_no, ?_⟩
  have k24 := (kd.trans0 k3).trans0 k4
  have f4 : Fro (fun _ => True) w ow w4 (ext ow w.heap.size (t + 3)) := Fro.of_kp0 (t + 3) k24
  have h4 := h.fr f4 trivial trivial trivial trivial
  have hb4 : SlT w4 (ext ow w.heap.size (t + 3)) T_uint8 1 a3 bs.length c3 (bvs bs) (t + 3) := ⟨hsl3.kp0 k4, fun j hj => ext_new (fr3 j hj)⟩
  generalize ext ow w.heap.size (t + 3) = ow4 at *
  refine app_c er_pd h4.l.pl (rd_cells (xs := PD.cs ⟨i, a3, c3, bs⟩) hb1 rfl) rfl (fun h => by cases h) (fun u hu => by
    simp only [PD.cs, List.mem_cons, List.not_mem_nil, or_false] at hu
    rcases hu with rfl | rfl <;> rfl) (by omega) (by omega) fun a4 c4 w5 hs5 k5 f5 => ⟨_, _, _, rfl, k24.of_no.trans0 k5, ?_⟩
  obtain ⟨hbd5, hbt5⟩ := blk_fr h4.hb h4.bt f5 (by omega)
  refine NilF.intro rfl (stb (add1 b 1) hbd5 hbt5 (by simp [Dh.rs]) fun w6 hb6 f6 s6 => ?_)
  have f46 : Fro (fun u => u ≠ t ∧ u ≠ t + 2) w4 ow4 w6 (ext ow4 w4.heap.size (t + 2)) := (f5.mono fun u hu => hu.2).trans (f6.mono fun u hu => hu.1)
  have hokA := h4.l.ok.add (i := i) (b := bs) hth hb5
  have h6 : RP w6 (ext ow4 w4.heap.size (t + 2)) t b ⟨H.ia, H.ic, a4, c4⟩ (Q ++ [⟨i, a3, c3, bs⟩]) ka kc kp kt ko (v.add i bs) := by
    refine ⟨⟨h4.l.im.fr f46 (by omega), ?_, fun x hx => ?_, ?_, hokA⟩, ?_, hbt5, h4.ks.fr f46 (by omega), h4.kl, h4.ke⟩
    · have := hs5.fr f6 (by omega)
      rw [List.length_append]
      show SlT w6 _ T_api_Pending 2 a4 (Q.length + 1) c4 (fP (Q ++ [⟨i, a3, c3, bs⟩])) (t + 2)
      have e : fP (Q ++ [⟨i, a3, c3, bs⟩]) = fP Q ++ PD.cs ⟨i, a3, c3, bs⟩ := by unfold fP; rw [flatV_app]; simp [flatV]
      rw [e]
      exact this
    · rcases List.mem_append.1 hx with hx | hx
      · exact (h4.l.pb x hx).fr f46 (by omega)
      · rw [List.mem_singleton] at hx
        subst hx
        exact hb4.fr f46 (by omega)
    · show v.q ++ [(i, bs)] = (Q ++ ([⟨i, a3, c3, bs⟩] : List PD)).map PD.v
      rw [h.l.qv, List.map_append]
      rfl
    · rw [List.length_append]
      exact hb6
  have f06 : Fro (Td t) w ow w6 (ext ow4 w4.heap.size (t + 2)) := (f4.mono fun _ _ => trivial).trans (f46.mono fun u hu => ⟨hu.1, hu.2.2⟩)
  refine counted_c h6 fun w7 h7 f7 => ⟨_, rfl, cond_d (fun hs => ?_) (fun hs => ?_)⟩
  · have hs' : v.step = 1 := hs
    have e : v.write i bs = (40, (v.bump.add i bs).fall v.keep v.torn v.off) := by unfold Dv.write; rw [ed, if_neg (by simpa using hth), if_neg (by omega), if_pos hs']
    obtain ⟨rfl, rfl, rfl⟩ := h.ke (by omega)
    refine NilF.intro rfl ⟨_, _, _, _, _, ⟨cN h7.hb rfl, cNM h7.hb rfl, cNM h7.hb rfl, trivial⟩, rfall_c h7 (rkp_ls h7 hln) (by rw [List.length_append]; simp; omega) fun w' ow' h' f' => ⟨rfl, ?_⟩⟩
    have := hK w' ow' (by rw [e]; exact h') ((f06.trans (f7.mono fun u hu => hu.1)).trans (f'.mono fun u hu => ⟨hu.1, hu.2.1⟩))
    rw [e] at this
    exact this
  · have hs' : ¬ v.step = 1 := hs
    have e : v.write i bs = (0, v.bump.add i bs) := by unfold Dv.write; rw [ed, if_neg (by simpa using hth), if_neg (by omega), if_neg hs']
    have := hK w7 _ (by rw [e]; exact ⟨_, _, _, _, _, _, _, h7⟩) (f06.trans (f7.mono fun u hu => hu.1))
    rw [e] at this
    exact this

set_option maxRecDepth 100000 in
theorem rsync_c (h : RX w ow t b v) (hq : v.q.length ≤ 1000000) (hln : v.keep.length * 8 ≤ 140737488355328) (hK : ∀ w' ow', RX w' ow' t b v.sync.2 → Fro (Td t) w ow w' ow' → R (.returned (.int .i64 (v.sync.1 : Int))) w') :
    GoC Try.prog F_ref03_Device_Sync #[.pointer (some ⟨b, 0, none⟩)] w R := by
  obtain ⟨H, Q, ka, kc, kp, kt, ko, h⟩ := h
  have hql : v.q.length = Q.length := by rw [h.l.qv]; simp
  refine S_ref03_Device_Sync ?_
  unfold W_ref03_Device_Sync
  refine NilF.intro rfl ⟨v.down, cN h.hb rfl, cond_b (fun hd => ?_) (fun hd => ?_)⟩
  · have e : v.sync = (40, v) := by unfold Dv.sync; rw [if_pos hd]
    have := hK w ow (by rw [e]; exact ⟨H, Q, ka, kc, kp, kt, ko, h⟩) ⟨Kp.refl _ _, fun _ _ _ => rfl⟩
    rw [e] at this
    exact this
  refine counted_c h fun w1 h1 f1 => ⟨_, rfl, cond_d (fun hs => ?_) (fun hs => ?_)⟩
  · have e : v.sync = (40, v.bump.fall v.keep v.torn v.off) := by unfold Dv.sync; rw [hd, if_neg (by decide), if_pos hs]
    obtain ⟨rfl, rfl, rfl⟩ := h.ke (by omega)
    refine NilF.intro rfl ⟨_, _, _, _, _, ⟨cN h1.hb rfl, cNM h1.hb rfl, cNM h1.hb rfl, trivial⟩, rfall_c h1 (rkp_ls h1 hln) (by omega) fun w' ow' h' f' => ⟨rfl, ?_⟩⟩
    have := hK w' ow' (by rw [e]; exact h') ((f1.mono fun u hu => hu.1).trans (f'.mono fun u hu => ⟨hu.1, hu.2.1⟩))
    rw [e] at this
    exact this
  have e : v.sync = (0, v.bump.synced) := by unfold Dv.sync; rw [hd, if_neg (by decide), if_neg hs]
  have hok := h1.l.ok
  have hlen : v.img.length = v.n * 512 := hok.len
  have hM1 := h1.md
  have hcsz : (H.rs Q.length v.bump.img.length v.bump.down v.bump.calls v.bump.step ka kp.length kc kt ko).size = 8 := rfl
  generalize hcE : H.rs Q.length v.bump.img.length v.bump.down v.bump.calls v.bump.step ka kp.length kc kt ko = cs at *
  have hfin : cs.setIfInBounds 1 (.slice none 0 0) = (⟨H.ia, H.ic, none, 0⟩ : Dh).rs 0 v.img.length v.down v.bump.calls v.bump.step ka kp.length kc kt ko := by rw [← hcE]; rfl
  have hQv : ∀ k (hk : k < Q.length), v.q[k]? = some ((Q[k]).sec, (Q[k]).bs) := fun k hk => by rw [h.l.qv]; simp [hk, PD.v]
  refine loopN (fun s w' => ∃ (k : Nat) (ow' : Nat → Nat) (img : List UInt8), s.1 = (k : Int) ∧ k ≤ Q.length ∧ syncL (v.q.drop k) img = syncL v.q v.img ∧ Md w' ow' t b H Q v.n img cs ∧ Fro (fun u => u ≠ t + 1) w1 ow w' ow') (fun s _ => Q.length - s.1.toNat)
    ⟨0, ow, v.img, rfl, by omega, by simp, hM1, ⟨Kp.refl _ _, fun _ _ _ => rfl⟩⟩ ?_
  rintro ⟨k0, u⟩ w2 ⟨k, ow2, img, hk0, hk, hfl, hM, f2⟩ _
  dsimp only at hk0 ⊢
  subst hk0
  refine NilF.intro rfl ⟨_, _, _, cN hM.hb hM.c1, cond_d (fun hlt => ?_) (fun hge => ?_)⟩
  · have hkl : k < Q.length := by omega
    have hkw : IntKind.wrap .i64 ((k : Int) + 1) = ((k + 1 : Nat) : Int) := by rw [wrap_i64 (by omega) (by omega)]; omega
    rw [hkw]
    have hx := hM.ok _ (List.getElem_mem hkl)
    have hst := syncL_step v.q k img (by omega)
    have hvk : v.q[k]'(by omega) = ((Q[k]).sec, (Q[k]).bs) := by have := hQv k hkl; rw [List.getElem?_eq_getElem (by omega)] at this; exact Option.some.inj this
    rw [hvk] at hst
    dsimp only at hst
    have t512 : (Q[k]).bs.take (512 : Int).toNat = (Q[k]).bs := List.take_of_length_le (by rw [hx.2.2]; decide)
    exact NilF.intro rfl (lay_q hM hkl (by decide) fun w' ow' hM' f' => ⟨⟨k + 1, ow', _, rfl, by omega, by rw [t512, ← hst]; exact hfl, hM', f2.trans f'⟩, by simp only [Int.toNat_natCast]; omega⟩)
  · have hke : k = Q.length := by omega
    subst hke
    rw [List.drop_eq_nil_of_le (by omega), syncL] at hfl
    refine NilF.intro rfl (stb (add1 b 1) hM.hb hM.bt (by rw [hcsz]; decide) fun w11 hb11 f11 s11 => ?_)
    rw [hfin] at hb11
    have hlen' : (syncL v.q v.img).length = v.img.length := by rw [← hfl, hM.il, hlen]
    have := hK w11 ow2 (by
      rw [e]
      refine ⟨⟨H.ia, H.ic, none, 0⟩, [], ka, kc, kp, kt, ko, ⟨?_, slt_nil _ _ _ _ _, fun x hx => absurd hx (by simp), rfl, hok.synced⟩, ?_, hM.bt, (h1.ks.fr f2 (by omega)).fr f11 (by omega), h1.kl, h1.ke⟩
      · show SlT w11 ow2 T_uint8 1 H.ia (syncL v.q v.img).length H.ic (bvs (syncL v.q v.img)) (t + 1)
        rw [← hfl, hM.il]
        exact hM.im.fr f11 (by omega)
      · show Blk w11 b ((⟨H.ia, H.ic, none, 0⟩ : Dh).rs 0 (syncL v.q v.img).length v.down v.bump.calls v.bump.step ka kp.length kc kt ko) T_quotaref03_Device
        rw [hlen']
        exact hb11) (((f1.mono fun u hu => hu.1).trans (f2.mono fun u hu => hu.2.1)).trans (f11.mono fun u hu => hu.1))
    rw [e] at this
    exact this
end
end Go.Proofs.Ytalkkhocljehfaa

/- General: families of owned slices, each with an owner of its own; a list of them; one made longer, the shorter one standing. Conditions: none. -/
set_option linter.unusedVariables false
set_option linter.unusedSimpArgs false
namespace Go.Proofs.Ytalkkhocljehfaa
open Go Go.RowKit

/-- A slice in a list. -/
structure SI where
  a : Option Addr
  l : Nat
  c : Nat
def siV (x : SI) : Value := .slice x.a x.l x.c
/-- An owned slice whose room may have been cut off behind its end. -/
def SlQ (w : World) (ow : Nat → Nat) (e : TypeId) (s : Nat) (a : Option Addr) (l c : Nat) (xs : List Value) (t : Nat) : Prop := SlT w ow e s a l c xs t ∨ (c = l ∧ 0 < l ∧ ∃ c', SlT w ow e s a l c' xs t)
theorem SlT.q {w : World} {ow : Nat → Nat} {e : TypeId} {s l c t : Nat} {a : Option Addr} {xs : List Value} (h : SlT w ow e s a l c xs t) : SlQ w ow e s a l c xs t := .inl h
section
variable {w w' : World} {ow ow' : Nat → Nat} {e : TypeId} {s l c t : Nat} {a : Option Addr} {xs : List Value}
theorem SlQ.ex (h : SlQ w ow e s a l c xs t) : ∃ c', SlT w ow e s a l c' xs t := by
  rcases h with h | ⟨_, _, c', h⟩
  · exact ⟨c, h⟩
  · exact ⟨c', h⟩
theorem SlQ.rd (h : SlQ w ow e s a l c xs t) : Rd w a xs := by obtain ⟨c', h⟩ := h.ex; exact h.sl.rd
theorem SlQ.len1 (h : SlQ w ow e s a l c xs t) : xs.length = l * s := by obtain ⟨c', h⟩ := h.ex; exact h.sl.1
theorem SlQ.tg (h : SlQ w ow e s a l c xs t) : Tg ow t (Is a) := by obtain ⟨c', h⟩ := h.ex; exact h.tg
theorem SlQ.lt (h : SlQ w ow e s a l c xs t) : ∀ k, Is a k → k < w.heap.size := by obtain ⟨c', h⟩ := h.ex; exact h.sl.lt
theorem SlQ.addr (h : SlQ w ow e s a l c xs t) (hl : 0 < l) : ∃ b, a = some ⟨b, 0, none⟩ := by
  obtain ⟨c', h⟩ := h.ex
  obtain ⟨b, cur, ha, _⟩ := h.sl.addr hl
  exact ⟨b, ha⟩
theorem SlQ.some (h : SlQ w ow e 1 a l c xs t) : a = none → l = 0 := fun h0 => by
  obtain ⟨c', h⟩ := h.ex
  rw [h0] at h
  exact h.sl.zero.1
theorem SlQ.fr {T : Nat → Prop} (h : SlQ w ow e s a l c xs t) (f : Fro T w ow w' ow') (ht : T t) : SlQ w' ow' e s a l c xs t := by
  rcases h with h | ⟨h1, h2, c', h⟩
  · exact .inl (h.fr f ht)
  · exact .inr ⟨h1, h2, c', h.fr f ht⟩
theorem SlQ.put (h : SlQ w ow e s a l c xs t) {i : Nat} (hi : i < l * s) {b o : Nat} (ha : a = Option.some ⟨b, o, none⟩) {v : Value} {ad : Addr} (had : ad = ⟨b, o + i, none⟩) {K : World → Prop}
    (hK : ∀ w', SlQ w' ow e s a l c (xs.set i v) t → Fro (fun u => u ≠ t) w ow w' ow → K w') : StF w ad v K := by
  have h0 : 0 < l := by
    rcases Nat.eq_zero_or_pos l with h0 | h0
    · rw [h0] at hi; simp at hi
    · exact h0
  obtain ⟨b', ha'⟩ := h.addr h0
  rw [ha'] at ha
  cases ha
  subst ha'
  have go : ∀ c'', SlT w ow e s (Option.some ⟨b, 0, none⟩) l c'' xs t → (∀ w', SlT w' ow e s (Option.some ⟨b, 0, none⟩) l c'' (xs.set i v) t → Fro (fun u => u ≠ t) w ow w' ow → K w') → StF w ad v K := fun c'' hx hK' =>
    hx.sl.putv hi (by rw [had, Nat.zero_add]) fun w' hs' k' s' => hK' w' ⟨hs', hx.tg⟩ (Fro.of_kp' k' fun b' _ hb' hne => hne (hx.tg b' hb'))
  rcases h with h | ⟨h1, h2, c', h⟩
  · exact go c h fun w' hx f => hK w' (.inl hx) f
  · exact go c' h fun w' hx f => hK w' (.inr ⟨h1, h2, c', hx⟩) f
end
section
variable {P : Program}
/-- append to a slice without room: a new block. -/
theorem app_clip {t e ty : TypeId} {z : Value} {s by_ : Nat} (hr : ElemRow P t e z s by_) {w : World} {b l : Nat} {xs : List Value} (hrd : Rd w (some ⟨b, 0, none⟩) xs) (hl : xs.length = l * s)
    {a2 : Option Addr} {m c2 : Nat} {news : List Value} (hn : Rd w a2 news) (hm : news.length = m * s) (hm0 : 0 < m) (h2 : a2 = none → m = 0)
    (h63 : l + m ≤ 9223372036854775807) (hb : (l + m) * by_ ≤ 140737488355328) {K : Value → World → Prop}
    (h : ∀ c' w', Sl w' e s (some ⟨w.heap.size, 0, none⟩) (l + m) c' (xs ++ news) → Kp no w w' → K (.slice (some ⟨w.heap.size, 0, none⟩) (l + m) c') w') :
    RunF P (Builtin.append_ #[t, t] ty #[.slice (some ⟨b, 0, none⟩) l l, .slice a2 m c2]) w K := by
  obtain ⟨ht, i, hi, hz, rfl, rfl, hzs⟩ := hr
  cases a2 with
  | none => exact absurd (h2 rfl) (by omega)
  | some ad =>
    have hlen : (xs ++ news).length = (l + m) * i.size := by rw [List.length_append, hl, hm, Nat.add_mul]
    have hrun := run_append_grow (P := P) w t ty e i z ht hi hz ⟨b, 0, none⟩ l l xs hl (rd_addr hrd) ad m c2 news hm (rd_addr hn) (by omega) (by omega) (growslice_fits (by omega) hb)
    have hge := grownCap_ge w (l + m) l e
    refine ⟨_, _, hrun, h _ _ ⟨hlen, hge, .inr ⟨w.heap.size, _, rfl, heap_alloc_new w.drew _, ?_, ?_⟩⟩ ⟨rfl, rfl, rfl, by simp, fun k hk _ => Below.heap_alloc w.drew _ _ hk⟩⟩
    · simp only [Array.size_append, List.size_toArray, zeroCells_size, hzs, hl, hm, ← Nat.add_mul]
      congr 1
      omega
    · simp only [Array.toList_append, List.append_assoc]
      rw [← List.append_assoc, ← hlen]
      exact List.take_left
end
def Fam (w : World) (ow : Nat → Nat) (e : TypeId) (s base : Nat) (G : List SI) (C : Nat → List Value) : Prop := ∀ j (h : j < G.length), SlQ w ow e s (G[j]).a (G[j]).l (G[j]).c (C j) (base + j)
section
variable {T : Nat → Prop} {w w' : World} {ow ow' : Nat → Nat} {e : TypeId} {s base : Nat} {G : List SI} {C : Nat → List Value}
theorem Fam.fr (h : Fam w ow e s base G C) (f : Fro T w ow w' ow') (hT : ∀ j, j < G.length → T (base + j)) : Fam w' ow' e s base G C := fun j hj => (h j hj).fr f (hT j hj)
theorem Fam.nil : Fam w ow e s base [] C := fun j hj => absurd hj (by simp)
theorem Fam.snoc (h : Fam w ow e s base G C) {x : SI} {xs : List Value} (hx : SlQ w ow e s x.a x.l x.c xs (base + G.length)) : Fam w ow e s base (G ++ [x]) (fun j => if j = G.length then xs else C j) := fun j hj => by
  by_cases hjg : j = G.length
  · subst hjg
    rw [List.getElem_append_right (Nat.le_refl _)]
    simpa using hx
  · have hj' : j < G.length := by simp at hj; omega
    rw [List.getElem_append_left hj']
    simpa [hjg] using h j hj'
theorem Fam.congr {D : Nat → List Value} (h : Fam w ow e s base G C) (hd : ∀ j, j < G.length → C j = D j) : Fam w ow e s base G D := fun j hj => by rw [← hd j hj]; exact h j hj
theorem Fam.put (h : Fam w ow e s base G C) {k : Nat} (hk : k < G.length) {i : Nat} (hi : i < (G[k]).l * s) {b o : Nat} (ha : (G[k]).a = some ⟨b, o, none⟩) {v : Value} {ad : Addr} (had : ad = ⟨b, o + i, none⟩) {K : World → Prop}
    (hK : ∀ w', Fam w' ow e s base G (fun j => if j = k then (C k).set i v else C j) → Fro (fun u => u ≠ base + k) w ow w' ow → K w') : StF w ad v K := by
  refine (h k hk).put hi ha had fun w' hx f => hK w' (fun j hj => ?_) f
  dsimp only
  by_cases hjk : j = k
  · subst hjk
    rw [if_pos rfl]
    exact hx
  · rw [if_neg hjk]
    exact (h j hj).fr f (by omega)
end

/-- An element of a list of slices. -/
theorem siA {w : World} {ga : Option Addr} {G : List SI} (h : Rd w ga (G.map siV)) {k : Nat} (hk : k < G.length) : ∃ b o, ga = some ⟨b, o, none⟩ ∧ w.cell? ((⟨b, o, none⟩ : Addr).add k) = some (.slice (G[k]).a (G[k]).l (G[k]).c) := by
  obtain ⟨b, o, ha, hc⟩ := h k (siV G[k]) (by simp [hk])
  exact ⟨b, o, ha, by rw [add_at]; exact hc⟩
theorem siI {w : World} {ga : Option Addr} {G : List SI} (h : Rd w ga (G.map siV)) {k : Nat} (hk : k < G.length) {n : Int} (hn : n = (k : Int)) {l : Nat} (hl : G.length = l) {K : Option Addr → Nat → Nat → Prop} (hK : K (G[k]).a (G[k]).l (G[k]).c) :
    IdxF ga n l fun d => ∃ (a : Option Addr) (l c : Nat), w.cell? (d.add (Int.toNat n)) = some (.slice a l c) ∧ K a l c := by
  subst hn
  obtain ⟨b, o, ha, hc⟩ := siA h hk
  exact ⟨by omega, by omega, _, ha, _, _, _, by rw [Int.toNat_natCast]; exact hc, hK⟩
theorem siIS {S : World → Prop} {w0 : World} (h0 : S w0) {ga : Option Addr} {G : List SI} (h : ∀ w, S w → Rd w ga (G.map siV)) {k : Nat} (hk : k < G.length) {n : Int} (hn : n = (k : Int)) {l : Nat} (hl : G.length = l) {K : Option Addr → Nat → Nat → Prop} (hK : K (G[k]).a (G[k]).l (G[k]).c) :
    IdxF ga n l fun d => ∃ (a : Option Addr) (l c : Nat), (∀ w, S w → w.cell? (d.add (Int.toNat n)) = some (.slice a l c)) ∧ K a l c := by
  subst hn
  obtain ⟨b, o, ha, hc⟩ := siA (h w0 h0) hk
  refine ⟨by omega, by omega, _, ha, _, _, _, fun w hw => ?_, hK⟩
  obtain ⟨b', o', ha', hc'⟩ := siA (h w hw) hk
  rw [ha] at ha'
  cases ha'
  rw [Int.toNat_natCast]
  exact hc'
/-- A cell of a slice that is read. -/
theorem rdI {w : World} {a : Option Addr} {xs : List Value} (h : Rd w a xs) {i : Nat} {v : Value} (hv : xs[i]? = some v) {n : Int} (hn : n = (i : Int)) {l : Nat} (hi : i < l) {K : Addr → Prop} (hK : ∀ b o, a = some ⟨b, o, none⟩ → w.cell? ((⟨b, o, none⟩ : Addr).add (Int.toNat n)) = some v → K ⟨b, o, none⟩) : IdxF a n l K := by
  subst hn
  obtain ⟨b, o, ha, hc⟩ := h i v hv
  exact ⟨by omega, by omega, _, ha, hK b o ha (by rw [Int.toNat_natCast, add_at]; exact hc)⟩

section
variable {P : Program}
/-- One element more on an owned list. -/
theorem pushT {t e ty : TypeId} {z : Value} {by_ : Nat} (hr : ElemRow P t e z 1 by_) {w : World} {ow : Nat → Nat} {a : Option Addr} {l c u : Nat} {xs : List Value} (hs : SlT w ow e 1 a l c xs u) {v : Value} (hv : v.oneCell' = true)
    (h63 : l + 1 ≤ 9223372036854775807) (hb : (l + 1) * by_ ≤ 140737488355328) {K : Option Addr → Nat → Nat → World → Prop}
    (h : ∀ a' c' w', SlT w' (ext ow w.heap.size u) e 1 a' (l + 1) c' (xs ++ [v]) u → Kp (Is a) w w' → Fro (fun x => x ≠ u) w ow w' (ext ow w.heap.size u) → K a' (l + 1) c' w') :
    AlF w (.cells #[v] e) fun b w2 => RunF P (Builtin.append_ #[t, t] ty #[.slice a l c, .slice (some ⟨b, 0, none⟩) 1 1]) w2 fun r w3 => ∃ (a2 : Option Addr) (l2 c2 : Nat), r = .slice a2 l2 c2 ∧ K a2 l2 c2 w3 := by
  refine push_own hr hs.sl hv h63 hb fun a' c' w' hs' k' hi => h a' c' w' ⟨hs', fun j hj => ?_⟩ k' (Fro.of_kp u k' fun b _ hb' hne => hne (hs.tg b hb'))
  by_cases hl : j < w.heap.size
  · rw [ext_old hl]
    rcases hi j hj with hh | hh
    · exact hs.tg j hh
    · omega
  · exact ext_new (by omega)
/-- An owned slice made longer; the shorter one stands too. -/
theorem app_both {t e ty : TypeId} {z : Value} {s by_ : Nat} (hr : ElemRow P t e z s by_) {w : World} {ow : Nat → Nat} {a : Option Addr} {l c : Nat} {xs : List Value} {u : Nat} (hs : SlT w ow e s a l c xs u)
    {a2 : Option Addr} {m c2 : Nat} {news : List Value} (hn : Rd w a2 news) (hm : news.length = m * s) (h2 : a2 = none → m = 0) (h1 : ∀ v ∈ news, v.oneCell' = true)
    (h63 : l + m ≤ 9223372036854775807) (hb : (l + m) * by_ ≤ 140737488355328) {K : Value → World → Prop}
    (h : ∀ a' c' w', SlT w' (ext ow w.heap.size u) e s a' (l + m) c' (xs ++ news) u → SlT w' (ext ow w.heap.size u) e s a l c xs u → Kp (Is a) w w' → Fro (fun v => v ≠ u) w ow w' (ext ow w.heap.size u) → K (.slice a' (l + m) c') w') :
    RunF P (Builtin.append_ #[t, t] ty #[.slice a l c, .slice a2 m c2]) w K := by
  refine append_own hr hs.sl hn hm h2 h1 h63 hb fun a' c' w' hs' k' hi hroom hgrow => ?_
  have ht : Tg (ext ow w.heap.size u) u (Is a) := fun j hj => by rw [ext_old (hs.sl.lt j hj)]; exact hs.tg j hj
  refine h a' c' w' ⟨hs', fun j hj => ?_⟩ ⟨?_, ht⟩ k' (Fro.of_kp u k' fun b _ hb' hne => hne (hs.tg b hb'))
  · by_cases hl : j < w.heap.size
    · rw [ext_old hl]
      rcases hi j hj with hh | hh
      · exact hs.tg j hh
      · omega
    · exact ext_new (by omega)
  · by_cases hroom' : l + m ≤ c
    · obtain ⟨e1, e2⟩ := hroom hroom'
      subst e1 e2
      exact hs'.shrink hs.sl.1
    · exact hs.sl.kp0 (hgrow (by omega)).2
/-- .. or one whose room has been cut off. -/
theorem app_bothQ {t e ty : TypeId} {z : Value} {s by_ : Nat} (hr : ElemRow P t e z s by_) {w : World} {ow : Nat → Nat} {a : Option Addr} {l c : Nat} {xs : List Value} {u : Nat} (hs : SlQ w ow e s a l c xs u)
    {a2 : Option Addr} {m c2 : Nat} {news : List Value} (hn : Rd w a2 news) (hm : news.length = m * s) (hm0 : 0 < m) (h2 : a2 = none → m = 0) (h1 : ∀ v ∈ news, v.oneCell' = true)
    (h63 : l + m ≤ 9223372036854775807) (hb : (l + m) * by_ ≤ 140737488355328) {K : Value → World → Prop}
    (h : ∀ a' c' w', SlT w' (ext ow w.heap.size u) e s a' (l + m) c' (xs ++ news) u → SlQ w' (ext ow w.heap.size u) e s a l c xs u → Kp (Is a) w w' → Fro (fun v => v ≠ u) w ow w' (ext ow w.heap.size u) → K (.slice a' (l + m) c') w') :
    RunF P (Builtin.append_ #[t, t] ty #[.slice a l c, .slice a2 m c2]) w K := by
  rcases hs with hs | ⟨rfl, hl0, c', hs⟩
  · exact app_both hr hs hn hm h2 h1 h63 hb fun a' c' w' x y k f => h a' c' w' x (.inl y) k f
  · obtain ⟨b, cur, ha, _⟩ := hs.sl.addr hl0
    have hrd := hs.sl.rd
    rw [ha] at hrd ⊢
    refine app_clip hr hrd hs.sl.1 hn hm hm0 h2 h63 hb fun c'' w' hs' k' => ?_
    rw [ha] at h
    refine h _ c'' w' ⟨hs', fun j hj => by obtain ⟨_, he, rfl⟩ := hj; cases he; exact ext_new (Nat.le_refl _)⟩ (.inr ⟨rfl, hl0, c', ?_⟩) k'.of_no (Fro.of_kp0 u k')
    rw [← ha]
    exact hs.fr (Fro.of_kp0 (T := fun _ => True) u k') trivial
/-- One of a family made longer. -/
theorem Fam.grow {t e ty : TypeId} {z : Value} {s by_ base : Nat} (hr : ElemRow P t e z s by_) {w : World} {ow : Nat → Nat} {G M : List SI} {C D : Nat → List Value} (hG : Fam w ow e s base G C) (hM : Fam w ow e s base M D) {k : Nat} (hk : k < G.length) (hMk : M.length = k)
    {a2 : Option Addr} {m c2 : Nat} {news : List Value} (hn : Rd w a2 news) (hm : news.length = m * s) (hm0 : 0 < m) (h2 : a2 = none → m = 0) (h1 : ∀ v ∈ news, v.oneCell' = true)
    (h63 : (G[k]).l + m ≤ 9223372036854775807) (hb : ((G[k]).l + m) * by_ ≤ 140737488355328) {K : Value → World → Prop}
    (h : ∀ a' c' w' ow', Fam w' ow' e s base G C → Fam w' ow' e s base (M ++ [⟨a', (G[k]).l + m, c'⟩]) (fun j => if j = k then C k ++ news else D j) → Kp (Is (G[k]).a) w w' → Fro (fun v => v ≠ base + k) w ow w' ow' → K (.slice a' ((G[k]).l + m) c') w') :
    RunF P (Builtin.append_ #[t, t] ty #[.slice (G[k]).a (G[k]).l (G[k]).c, .slice a2 m c2]) w K := by
  refine app_bothQ hr (hG k hk) hn hm hm0 h2 h1 h63 hb fun a' c' w' hs' ho' k' f' => ?_
  refine h a' c' w' (ext ow w.heap.size (base + k)) (fun j hj => ?_) ?_ k' f'
  · by_cases hjk : j = k
    · subst hjk; exact ho'
    · exact (hG j hj).fr f' (by omega)
  · have hM' := hM.fr f' (fun j hj => by omega)
    have := hM'.snoc (x := ⟨a', (G[k]).l + m, c'⟩) (xs := C k ++ news) (by rw [hMk]; exact hs'.q)
    rwa [hMk] at this
end

/-- An owner is changed. -/
theorem SlT.retag {w : World} {ow : Nat → Nat} {e : TypeId} {s l c t : Nat} {a : Option Addr} {xs : List Value} (h : SlT w ow e s a l c xs t) (u : Nat) : SlT w (tag (Is a) u ow) e s a l c xs u ∧ Fro (fun x => x ≠ t) w ow w (tag (Is a) u ow) :=
  ⟨⟨h.sl, fun j hj => tag_in hj⟩, ⟨Kp.refl _ _, fun k _ hk => tag_out fun hh => hk (h.tg k hh)⟩⟩
theorem SlT.apart {w : World} {ow : Nat → Nat} {e : TypeId} {s l c t u : Nat} {a : Option Addr} {xs : List Value} {F : Nat → Prop} (h : SlT w ow e s a l c xs t) (hd : ∀ j, Is a j → ¬ F j) : SlT w (tag F u ow) e s a l c xs t := ⟨h.sl, fun j hj => by rw [tag_out (hd j hj)]; exact h.tg j hj⟩
end Go.Proofs.Ytalkkhocljehfaa

/- Plain: what a Write and a Finish leave, cut off or not. Conditions: none. -/
set_option linter.unusedVariables false
set_option linter.unusedSimpArgs false
namespace Go.Proofs.Ytalkkhocljehfaa
open Go Go.RowKit

/-- A disk that is up, that is down; nothing cached. -/
structure Up (v : Dv) (n : Nat) : Prop where
  ok : v.Ok
  d : v.down = false
  q : v.q = []
  vn : v.n = n
structure Dn (v : Dv) (n : Nat) : Prop where
  ok : v.Ok
  d : v.down = true
  q : v.q = []
  vn : v.n = n
theorem Dn.up {v : Dv} {n : Nat} (h : Dn v n) : Up v.up n := ⟨h.ok.up, rfl, h.q, h.vn⟩
theorem Up.up {v : Dv} {n : Nat} (h : Up v n) : Up v.up n := ⟨h.ok.up, rfl, h.q, h.vn⟩
theorem sect_up (v : Dv) (j : Nat) : v.up.sect j = v.sect j := rfl
theorem Up.read {v : Dv} {n i : Nat} (h : Up v n) (hi : i < n) : (v.read (i : Int)).1 = v.sect i := by
  have := h.vn
  unfold Dv.read
  rw [h.d, if_neg (by simp), if_neg (by unfold Dv.there; omega), h.q, Int.toNat_natCast]
  rfl
theorem put_ok {v : Dv} {n i : Nat} {l : List (List UInt8)} (h : Up v n) (hi : i + l.length ≤ n) (hb : ∀ b ∈ l, b.length = 512) (hs : v.step = 0 ∨ (l.length : Int) + 1 < v.step) :
    (putL v i l).1 = 0 ∧ Up (putL v i l).2 n ∧ (putL v i l).2.step = (if v.step = 0 then 0 else v.step - (l.length + 1)) ∧ (∀ j, j < n → (putL v i l).2.sect j = readL (j : Int) (zipI i l) (v.sect j)) ∧
    (0 ≤ v.calls → v.calls + l.length + 1 < 1000000000000 → (putL v i l).2.calls = v.calls + (l.length + 1)) := by
  have hn := h.vn
  obtain ⟨a, b, c, d, e, f⟩ := putL_up l (v := v) (i := (i : Int)) h.ok h.d (by omega) (by omega) hb hs
  refine ⟨a, ⟨putL_Ok l _ h.ok, b, c, by rw [putL_n l _ h.ok, hn]⟩, e, fun j hj => ?_, f⟩
  unfold Dv.sect
  rw [d, h.q, List.nil_append]
  refine sect_sync hj _ _ (by rw [h.ok.len, hn]) fun p hp => ?_
  obtain ⟨x, y, z⟩ := zipI_mem l (i : Int) hb p hp
  exact ⟨by omega, by omega, z⟩
theorem put_no {v : Dv} {n i : Nat} {l : List (List UInt8)} (h : Up v n) (hi : i + l.length ≤ n) (hb : ∀ b ∈ l, b.length = 512) (hs : 1 ≤ v.step ∧ v.step ≤ (l.length : Int) + 1) :
    (putL v i l).1 = 40 ∧ Dn (putL v i l).2 n ∧ (∀ j, j < n → (j < i ∨ i + l.length ≤ j) → (putL v i l).2.sect j = v.sect j) ∧ (∀ b, l = [b] → Mix b (v.sect i) ((putL v i l).2.sect i)) := by
  have hn := h.vn
  obtain ⟨a, b, c, d, m, hm, e⟩ := putL_fall l (v := v) (i := (i : Int)) h.ok h.d (by omega) (by omega) hb hs
  refine ⟨a, ⟨putL_Ok l _ h.ok, b, c, by rw [d, hn]⟩, fun j hj hji => ?_, fun b1 hl => ?_⟩
  · unfold Dv.sect
    rw [e, h.q, List.nil_append]
    have hmem : ∀ p ∈ zipI (i : Int) (l.take m), (i : Int) ≤ p.1 ∧ p.1 < (i : Int) + l.length ∧ p.2.length = 512 := fun p hp => by
      obtain ⟨x, y, z⟩ := zipI_mem (l.take m) (i : Int) (fun b hb' => hb b (List.mem_of_mem_take hb')) p hp
      rw [List.length_take] at y
      exact ⟨x, by omega, z⟩
    refine sect_fall hj _ _ _ _ _ _ (by rw [h.ok.len, hn]) (fun p hp => ?_) fun p hp => ?_
    · obtain ⟨x, y, z⟩ := hmem p hp
      exact ⟨by omega, by omega, z⟩
    · obtain ⟨x, y, z⟩ := hmem p hp
      omega
  · subst hl
    have := hm (by simp)
    unfold Dv.sect
    have tk : [b1].take m = [b1] := List.take_of_length_le (by simp; omega)
    simp only [List.length_cons, List.length_nil] at hi
    rw [e, h.q, List.nil_append, tk]
    exact sect_fall1 (n := n) (j := i) (by omega) (by rw [h.ok.len, hn]) (hb b1 (List.mem_singleton.2 rfl))

/-- All sectors but the twin's and the home's. -/
def Oth (v v' : Dv) (n at_ h : Nat) : Prop := ∀ j, j < n → (j < at_ ∨ at_ + 3 ≤ j) → (j < h ∨ h + 2 ≤ j) → v'.sect j = v.sect j
theorem Oth.trans {v v' v'' : Dv} {n at_ h : Nat} (a : Oth v v' n at_ h) (b : Oth v' v'' n at_ h) : Oth v v'' n at_ h := fun j hj h1 h2 => by rw [b j hj h1 h2, a j hj h1 h2]
/-- A page at home. -/
def Pg (v : Dv) (h : Nat) (bs : List UInt8) : Prop := v.sect h = bs.take 512 ∧ v.sect (h + 1) = (bs.drop 512).take 512
/-- No marker stands; one stands, with its page beside it. -/
def Zm (v : Dv) (at_ : Nat) : Prop := ((v.sect at_).getD 511 0).toNat = 0
def Sm (v : Dv) (at_ h : Nat) (bs : List UInt8) : Prop := v.sect at_ = markB h 165 ∧ Pg v (at_ + 1) bs
theorem Oth.pg {v v' : Dv} {n at_ h k : Nat} {bs : List UInt8} (a : Oth v v' n at_ h) (p : Pg v k bs) (hk : k + 2 ≤ n) (h1 : k + 2 ≤ at_ ∨ at_ + 3 ≤ k) (h2 : k + 2 ≤ h ∨ h + 2 ≤ k) : Pg v' k bs :=
  ⟨by rw [a k (by omega) (by omega) (by omega)]; exact p.1, by rw [a (k + 1) (by omega) (by omega) (by omega)]; exact p.2⟩
def markP (h : Nat) : List UInt8 := leB8 4 h ++ List.replicate 507 0
theorem markP_len (h : Nat) : (markP h).length = 511 := by unfold markP; rw [List.length_append, leB8_len, List.length_replicate]
theorem markB_eq (h : Nat) (x : UInt8) : markB h x = markP h ++ [x] := (List.append_assoc _ _ _).symm
theorem markB_511 (h : Nat) (x : UInt8) : (markB h x).getD 511 0 = x := by
  rw [markB_eq, List.getD_eq_getElem?_getD, List.getElem?_append_right (by rw [markP_len]; exact Nat.le_refl _), markP_len]
  rfl
theorem markB_torn {h : Nat} {x y : UInt8} {o : List UInt8} (m : Mix (markB h x) (markB h y) o) : o = markB h x ∨ o = markB h y := by
  obtain ⟨c, hc, rfl⟩ := m
  by_cases e : c = 512
  · left
    rw [e, List.take_of_length_le (by rw [markB_len]; omega), List.drop_eq_nil_of_le (by rw [markB_len]; omega), List.append_nil]
  · right
    have : (markB h x).take c = (markB h y).take c := by
      rw [markB_eq, markB_eq, List.take_append_of_le_length (by rw [markP_len]; omega), List.take_append_of_le_length (by rw [markP_len]; omega)]
    rw [this, List.take_append_drop]
theorem mix_zero {h : Nat} {x : UInt8} {s o : List UInt8} (m : Mix (markB h x) s o) (hs : s.length = 512) : o = markB h x ∨ o.getD 511 0 = s.getD 511 0 := by
  obtain ⟨c, hc, rfl⟩ := m
  by_cases e : c = 512
  · left
    rw [e, List.take_of_length_le (by rw [markB_len]; omega), List.drop_eq_nil_of_le (by omega), List.append_nil]
  · right
    rw [List.getD_eq_getElem?_getD, List.getD_eq_getElem?_getD, List.getElem?_append_right (by rw [List.length_take, markB_len]; omega), List.getElem?_drop, List.length_take, markB_len]
    congr 2
    omega

set_option maxHeartbeats 4000000 in
/-- What a Write leaves. -/
theorem write_out {v : Dv} {n at_ h : Nat} {bs : List UInt8} (hu : Up v n) (hp : at_ + 3 ≤ n) (hm : h + 2 ≤ n ∧ (h + 1 < at_ ∨ at_ + 2 < h)) (hl : bs.length = 1024) (hz : Zm v at_) :
    ((v.step = 0 ∨ 10 < v.step) ∧ (writeR v at_ h bs).1 = 0 ∧ Up (writeR v at_ h bs).2 n ∧ Oth v (writeR v at_ h bs).2 n at_ h ∧ Zm (writeR v at_ h bs).2 at_ ∧ Pg (writeR v at_ h bs).2 h bs ∧ (v.step = 0 → (writeR v at_ h bs).2.step = 0) ∧
      (0 ≤ v.calls → v.calls < 1000000000 → (writeR v at_ h bs).2.calls = v.calls + 10)) ∨
    ((1 ≤ v.step ∧ v.step ≤ 10) ∧ (writeR v at_ h bs).1 = 40 ∧ Dn (writeR v at_ h bs).2 n ∧ Oth v (writeR v at_ h bs).2 n at_ h ∧
      ((v.step ≤ 5 ∧ Zm (writeR v at_ h bs).2 at_ ∧ (writeR v at_ h bs).2.sect h = v.sect h ∧ (writeR v at_ h bs).2.sect (h + 1) = v.sect (h + 1)) ∨ (4 ≤ v.step ∧ Sm (writeR v at_ h bs).2 at_ h bs) ∨ (9 ≤ v.step ∧ Zm (writeR v at_ h bs).2 at_ ∧ Pg (writeR v at_ h bs).2 h bs))) := by
  have hn := hu.vn
  have st := hu.ok.step
  unfold writeR
  rw [hu.d, if_neg (by simp), if_neg (fun hh => hh ⟨⟨by omega, by omega⟩, by unfold mayP; omega⟩), if_neg (fun hh => hh hl)]
  have hb2 : ∀ b ∈ chunkL 2 bs, b.length = 512 := fun b hb => by
    simp only [chunkL, List.mem_cons, List.not_mem_nil, or_false] at hb
    rcases hb with rfl | rfl
    · rw [List.length_take]; omega
    · rw [List.length_take, List.length_drop]; omega
  have hb1 : ∀ x : UInt8, ∀ b ∈ [markB (h : Int).toNat x], b.length = 512 := fun x b hb => by
    rw [List.mem_singleton] at hb
    rw [hb, markB_len]
  have e1 : ((at_ : Int) + 1) = ((at_ + 1 : Nat) : Int) := by omega
  have ln2 := chunkL_len 2 bs
  rw [e1]
  rw [Int.toNat_natCast] at hb1 ⊢
  -- beside
  by_cases s1 : 1 ≤ v.step ∧ v.step ≤ 3
  · obtain ⟨a, b, c, _⟩ := put_no (i := at_ + 1) hu (by omega) hb2 (by rw [ln2]; omega)
    rw [if_pos (by rw [a]; decide)]
    rw [ln2] at c
    refine .inr ⟨by omega, a, b, fun j hj h1 h2 => c j hj (by omega), .inl ⟨by omega, ?_, c _ (by omega) (by omega), c _ (by omega) (by omega)⟩⟩
    unfold Zm
    rw [c _ (by omega) (by omega)]
    exact hz
  obtain ⟨a1, u1, t1, c1, k1⟩ := put_ok (i := at_ + 1) hu (by omega) hb2 (by rw [ln2]; omega)
  rw [if_neg (by rw [a1]; simp)]
  generalize putL v ((at_ + 1 : Nat) : Int) (chunkL 2 bs) = A at *
  rw [ln2] at t1 k1
  have o1 : ∀ j, j < n → (j < at_ + 1 ∨ at_ + 3 ≤ j) → A.2.sect j = v.sect j := fun j hj hh => by
    rw [c1 j hj]
    simp only [chunkL, zipI, readL]
    rw [if_neg (by omega), if_neg (by omega)]
  have p1 : Pg A.2 (at_ + 1) bs := by
    constructor
    · rw [c1 _ (by omega)]
      simp only [chunkL, zipI, readL]
      rw [if_pos trivial, if_neg (by omega)]
    · rw [c1 _ (by omega)]
      simp only [chunkL, zipI, readL]
      rw [if_pos (by omega)]
  -- the marker
  by_cases s2 : 4 ≤ v.step ∧ v.step ≤ 5
  · obtain ⟨a, b, c, m⟩ := put_no (i := at_) u1 (by simp; omega) (hb1 165) (by simp; rw [t1, if_neg (by omega)]; omega)
    rw [if_pos (by rw [a]; decide)]
    simp only [List.length_cons, List.length_nil] at c
    have oth : Oth v (putL A.2 (at_ : Int) [markB h 165]).2 n at_ h := fun j hj h1 h2 => by rw [c j hj (by omega), o1 j hj (by omega)]
    refine .inr ⟨by omega, a, b, oth, ?_⟩
    rcases mix_zero (m _ rfl) (sect_len u1.ok (by have := u1.vn; omega)) with e | e
    · refine .inr (.inl ⟨by omega, e, ?_, ?_⟩)
      · rw [c _ (by omega) (by omega)]; exact p1.1
      · rw [c _ (by omega) (by omega)]; exact p1.2
    · refine .inl ⟨by omega, ?_, by rw [c _ (by omega) (by omega), o1 _ (by omega) (by omega)], by rw [c _ (by omega) (by omega), o1 _ (by omega) (by omega)]⟩
      unfold Zm
      rw [e, o1 _ (by omega) (by omega)]
      exact hz
  obtain ⟨a2, u2, t2, c2, k2⟩ := put_ok (i := at_) u1 (by simp; omega) (hb1 165) (by
    simp only [List.length_cons, List.length_nil]
    rcases Decidable.em (v.step = 0) with z | z
    · rw [t1, if_pos z]; omega
    · rw [t1, if_neg z]; omega)
  rw [if_neg (by rw [a2]; simp)]
  generalize putL A.2 (at_ : Int) [markB h 165] = B at *
  have o2 : ∀ j, j < n → j ≠ at_ → B.2.sect j = A.2.sect j := fun j hj hh => by
    rw [c2 j hj]
    simp only [zipI, readL]
    rw [if_neg (by omega)]
  have m2 : B.2.sect at_ = markB h 165 := by
    rw [c2 _ (by omega)]
    simp only [zipI, readL]
    rw [if_pos trivial]
  have p2 : Sm B.2 at_ h bs := ⟨m2, by rw [o2 _ (by omega) (by omega)]; exact p1.1, by rw [o2 _ (by omega) (by omega)]; exact p1.2⟩
  simp only [List.length_cons, List.length_nil] at t2 k2
  -- home
  by_cases s3 : 6 ≤ v.step ∧ v.step ≤ 8
  · obtain ⟨a, b, c, _⟩ := put_no (i := h) u2 (by omega) hb2 (by rw [ln2, t2, t1, if_neg (by omega), if_neg (by omega)]; omega)
    rw [if_pos (by rw [a]; decide)]
    rw [ln2] at c
    refine .inr ⟨by omega, a, b, fun j hj h1 h2 => by rw [c j hj (by omega), o2 j hj (by omega), o1 j hj (by omega)], .inr (.inl ⟨by omega, by rw [c _ (by omega) (by omega)]; exact m2, ?_, ?_⟩)⟩
    · rw [c _ (by omega) (by omega)]; exact p2.2.1
    · rw [c _ (by omega) (by omega)]; exact p2.2.2
  obtain ⟨a3, u3, t3, c3, k3⟩ := put_ok (i := h) u2 (by omega) hb2 (by
    rw [ln2]
    rcases Decidable.em (v.step = 0) with z | z
    · rw [t2, t1, if_pos z, if_pos rfl]; omega
    · rw [t2, t1, if_neg z, if_neg (by omega)]; omega)
  rw [if_neg (by rw [a3]; simp)]
  generalize putL B.2 (h : Int) (chunkL 2 bs) = C at *
  rw [ln2] at t3 k3
  have o3 : ∀ j, j < n → (j < h ∨ h + 2 ≤ j) → C.2.sect j = B.2.sect j := fun j hj hh => by
    rw [c3 j hj]
    simp only [chunkL, zipI, readL]
    rw [if_neg (by omega), if_neg (by omega)]
  have p3 : Pg C.2 h bs := by
    constructor
    · rw [c3 _ (by omega)]
      simp only [chunkL, zipI, readL]
      rw [if_pos trivial, if_neg (by omega)]
    · rw [c3 _ (by omega)]
      simp only [chunkL, zipI, readL]
      rw [if_pos (by omega)]
  have m3 : C.2.sect at_ = markB h 165 := by rw [o3 _ (by omega) (by omega)]; exact m2
  -- the marker's last byte
  by_cases s4 : 9 ≤ v.step ∧ v.step ≤ 10
  · obtain ⟨a, b, c, m⟩ := put_no (i := at_) u3 (by simp; omega) (hb1 0) (by simp; rw [t3, t2, t1, if_neg (by omega), if_neg (by omega), if_neg (by omega)]; omega)
    simp only [List.length_cons, List.length_nil] at c
    refine .inr ⟨by omega, a, b, fun j hj h1 h2 => by rw [c j hj (by omega), o3 j hj (by omega), o2 j hj (by omega), o1 j hj (by omega)], ?_⟩
    have hmx := m _ rfl
    rw [m3] at hmx
    rcases markB_torn hmx with e | e
    · refine .inr (.inr ⟨by omega, ?_, ?_, ?_⟩)
      · unfold Zm
        rw [e, markB_511]
        rfl
      · rw [c _ (by omega) (by omega)]; exact p3.1
      · rw [c _ (by omega) (by omega)]; exact p3.2
    · refine .inr (.inl ⟨by omega, e, ?_, ?_⟩)
      · rw [c _ (by omega) (by omega), o3 _ (by omega) (by omega)]; exact p2.2.1
      · rw [c _ (by omega) (by omega), o3 _ (by omega) (by omega)]; exact p2.2.2
  obtain ⟨a4, u4, t4, c4, k4⟩ := put_ok (i := at_) u3 (by simp; omega) (hb1 0) (by
    simp only [List.length_cons, List.length_nil]
    rcases Decidable.em (v.step = 0) with z | z
    · rw [t3, t2, t1, if_pos z, if_pos rfl, if_pos rfl]; omega
    · rw [t3, t2, t1, if_neg z, if_neg (by omega), if_neg (by omega)]; omega)
  have o4 : ∀ j, j < n → j ≠ at_ → (putL C.2 (at_ : Int) [markB h 0]).2.sect j = C.2.sect j := fun j hj hh => by
    rw [c4 j hj]
    simp only [zipI, readL]
    rw [if_neg (by omega)]
  simp only [List.length_cons, List.length_nil] at t4 k4
  refine .inl ⟨by omega, a4, u4, fun j hj h1 h2 => by rw [o4 j hj (by omega), o3 j hj (by omega), o2 j hj (by omega), o1 j hj (by omega)], ?_, ?_, fun h0 => ?_, fun hc0 hc1 => ?_⟩
  · unfold Zm
    rw [c4 _ (by omega)]
    simp only [zipI, readL]
    rw [if_pos trivial, markB_511]
    rfl
  · exact ⟨by rw [o4 _ (by omega) (by omega)]; exact p3.1, by rw [o4 _ (by omega) (by omega)]; exact p3.2⟩
  · rw [t4, t3, t2, t1, if_pos h0, if_pos rfl, if_pos rfl, if_pos rfl]
  · have q1 := k1 hc0 (by omega)
    have q2 := k2 (by omega) (by omega)
    have q3 := k3 (by omega) (by omega)
    rw [k4 (by omega) (by omega), q3, q2, q1]
    omega
end Go.Proofs.Ytalkkhocljehfaa

/- Plain: what a Finish leaves, cut off or not. Conditions: none. -/
set_option linter.unusedVariables false
set_option linter.unusedSimpArgs false
namespace Go.Proofs.Ytalkkhocljehfaa
open Go Go.RowKit

theorem fin_zero {v : Dv} {n at_ : Nat} (hu : Up v n) (hp : at_ + 3 ≤ n) (hz : Zm v at_) : finR v at_ = ((false, 0), v) := by
  have hn := hu.vn
  unfold finR
  rw [hu.d, if_neg (by simp), if_neg (fun hh => hh ⟨by omega, by omega⟩)]
  unfold finS
  rw [hu.read (by omega), if_pos (show ((v.sect at_).getD 511 0).toNat = 0 from hz)]
theorem replicate_any (k : Nat) : (List.replicate k (0 : UInt8)).any (fun x => decide (x.toNat ≠ 0)) = false := by
  rw [List.any_eq_false]
  intro x hx
  rw [(List.mem_replicate.1 hx).2]
  decide
theorem finOdd_mark (h : Nat) (x : UInt8) : finOdd (markB h x) = false := by
  unfold finOdd markB
  rw [List.drop_append_of_le_length (by rw [leB8_len]; exact Nat.le_refl _), List.drop_eq_nil_of_le (by rw [leB8_len]; exact Nat.le_refl _), List.nil_append, List.take_append_of_le_length (by rw [List.length_replicate]; exact Nat.le_refl _), List.take_of_length_le (by rw [List.length_replicate]; exact Nat.le_refl _)]
  exact replicate_any 507
theorem finH_mark {h : Nat} (hh : h < 4294967296) (x : UInt8) : finH (markB h x) = h := by
  unfold finH markB
  rw [List.take_append_of_le_length (by rw [leB8_len]; exact Nat.le_refl _), List.take_of_length_le (by rw [leB8_len]; exact Nat.le_refl _), leN_leB8]
  exact Nat.mod_eq_of_lt hh
set_option maxHeartbeats 1000000 in
theorem fin_out {v : Dv} {n at_ h : Nat} {bs : List UInt8} (hu : Up v n) (hp : at_ + 3 ≤ n) (hm : h + 2 ≤ n ∧ (h + 1 < at_ ∨ at_ + 2 < h)) (hl : bs.length = 1024) (hs : Sm v at_ h bs) :
    ((v.step = 0 ∨ 5 < v.step) ∧ (finR v at_).1 = (true, 0) ∧ Up (finR v at_).2 n ∧ Oth v (finR v at_).2 n at_ h ∧ Zm (finR v at_).2 at_ ∧ Pg (finR v at_).2 h bs ∧ (v.step = 0 → (finR v at_).2.step = 0)) ∨
    ((1 ≤ v.step ∧ v.step ≤ 5) ∧ (finR v at_).1 = (false, 40) ∧ Dn (finR v at_).2 n ∧ Oth v (finR v at_).2 n at_ h ∧ (Sm (finR v at_).2 at_ h bs ∨ Zm (finR v at_).2 at_ ∧ Pg (finR v at_).2 h bs)) := by
  have hn := hu.vn
  have n2 := hu.ok.n2
  have st := hu.ok.step
  have eq : finR v at_ = finS v at_ (markB h 165) (bs.take 512) ((bs.drop 512).take 512) := by
    unfold finR
    rw [hu.d, if_neg (by simp), if_neg (fun hh => hh ⟨by omega, by omega⟩), show (at_ : Int) + 1 = ((at_ + 1 : Nat) : Int) by omega, show (at_ : Int) + 2 = ((at_ + 1 + 1 : Nat) : Int) by omega, hu.read (by omega), hu.read (by omega), hu.read (by omega), hs.1, hs.2.1, hs.2.2]
  rw [eq]
  unfold finS
  rw [if_neg (by rw [markB_511]; decide), if_neg (fun hh => hh ⟨by rw [markB_511]; rfl, finOdd_mark _ _, by rw [finH_mark (by omega)]; unfold mayP; omega⟩), finH_mark (by omega), markB_set]
  have hb2 : ∀ b ∈ [bs.take 512, (bs.drop 512).take 512], b.length = 512 := fun b hb => by
    simp only [List.mem_cons, List.not_mem_nil, or_false] at hb
    rcases hb with rfl | rfl
    · rw [List.length_take]; omega
    · rw [List.length_take, List.length_drop]; omega
  have hb1 : ∀ b ∈ [markB h 0], b.length = 512 := fun b hb => by
    rw [List.mem_singleton] at hb
    rw [hb, markB_len]
  have l2 : [bs.take 512, (bs.drop 512).take 512].length = 2 := rfl
  have l1 : [markB h 0].length = 1 := rfl
  by_cases s1 : 1 ≤ v.step ∧ v.step ≤ 3
  · obtain ⟨a, b, c, _⟩ := put_no (i := h) hu (by omega) hb2 (by rw [l2]; omega)
    rw [if_pos (by rw [a]; decide)]
    rw [l2] at c
    refine .inr ⟨by omega, by rw [a], b, fun j hj h1 h2 => c j hj (by omega), .inl ⟨?_, ?_, ?_⟩⟩
    · dsimp only
      rw [c _ (by omega) (by omega)]
      exact hs.1
    · dsimp only
      rw [c _ (by omega) (by omega)]
      exact hs.2.1
    · dsimp only
      rw [c _ (by omega) (by omega)]
      exact hs.2.2
  obtain ⟨a3, u3, t3, c3, k3⟩ := put_ok (i := h) hu (by omega) hb2 (by rw [l2]; omega)
  rw [if_neg (by rw [a3]; simp)]
  generalize putL v (h : Int) [bs.take 512, (bs.drop 512).take 512] = C at *
  rw [l2] at t3 k3
  have o3 : ∀ j, j < n → (j < h ∨ h + 2 ≤ j) → C.2.sect j = v.sect j := fun j hj hh => by
    rw [c3 j hj]
    simp only [zipI, readL]
    rw [if_neg (by omega), if_neg (by omega)]
  have p3 : Pg C.2 h bs := by
    constructor
    · rw [c3 _ (by omega)]
      simp only [zipI, readL]
      rw [if_pos trivial, if_neg (by omega)]
    · rw [c3 _ (by omega)]
      simp only [zipI, readL]
      rw [if_pos (by omega)]
  have m3 : C.2.sect at_ = markB h 165 := by rw [o3 _ (by omega) (by omega)]; exact hs.1
  by_cases s4 : 4 ≤ v.step ∧ v.step ≤ 5
  · obtain ⟨a, b, c, m⟩ := put_no (i := at_) u3 (by rw [l1]; omega) hb1 (by rw [l1, t3, if_neg (by omega)]; omega)
    rw [if_pos (by rw [a]; decide)]
    rw [l1] at c
    refine .inr ⟨by omega, by rw [a], b, fun j hj h1 h2 => by dsimp only; rw [c j hj (by omega), o3 j hj (by omega)], ?_⟩
    dsimp only
    have hmx := m _ rfl
    rw [m3] at hmx
    rcases markB_torn hmx with e | e
    · refine .inr ⟨?_, ?_, ?_⟩
      · unfold Zm
        rw [e, markB_511]
        rfl
      · rw [c _ (by omega) (by omega)]; exact p3.1
      · rw [c _ (by omega) (by omega)]; exact p3.2
    · refine .inl ⟨e, ?_, ?_⟩
      · rw [c _ (by omega) (by omega), o3 _ (by omega) (by omega)]; exact hs.2.1
      · rw [c _ (by omega) (by omega), o3 _ (by omega) (by omega)]; exact hs.2.2
  obtain ⟨a4, u4, t4, c4, k4⟩ := put_ok (i := at_) u3 (by rw [l1]; omega) hb1 (by
    rw [l1]
    rcases Decidable.em (v.step = 0) with z | z
    · rw [t3, if_pos z]; omega
    · rw [t3, if_neg z]; omega)
  rw [if_neg (by rw [a4]; simp)]
  have o4 : ∀ j, j < n → j ≠ at_ → (putL C.2 (at_ : Int) [markB h 0]).2.sect j = C.2.sect j := fun j hj hh => by
    rw [c4 j hj]
    simp only [zipI, readL]
    rw [if_neg (by omega)]
  refine .inl ⟨by omega, rfl, u4, fun j hj h1 h2 => by dsimp only; rw [o4 j hj (by omega), o3 j hj (by omega)], ?_, ?_, fun z => ?_⟩
  · unfold Zm
    dsimp only
    rw [c4 _ (by omega)]
    simp only [zipI, readL]
    rw [if_pos trivial, markB_511]
    rfl
  · dsimp only
    exact ⟨by rw [o4 _ (by omega) (by omega)]; exact p3.1, by rw [o4 _ (by omega) (by omega)]; exact p3.2⟩
  · dsimp only
    rw [t4, t3, if_pos z, if_pos rfl]
/-- What Read answers of a page at home. -/
theorem read_out {v : Dv} {n h : Nat} (hu : Up v n) (hh : h + 2 ≤ n) : readR v h = (0, v.sect h ++ v.sect (h + 1)) := by
  have hn := hu.vn
  unfold readR
  rw [hu.d, if_neg (by simp), if_neg (fun hh => hh ⟨by omega, by omega⟩), show (h : Int) + 1 = ((h + 1 : Nat) : Int) by omega, hu.read (by omega), hu.read (by omega)]
theorem halves {bs : List UInt8} (hl : bs.length = 1024) : bs.take 512 ++ (bs.drop 512).take 512 = bs := by
  have : (bs.drop 512).take 512 = bs.drop 512 := List.take_of_length_le (by rw [List.length_drop]; omega)
  rw [this, List.take_append_drop]
theorem read_pg {v : Dv} {n h : Nat} {bs : List UInt8} (hu : Up v n) (hh : h + 2 ≤ n) (hp : Pg v h bs) (hl : bs.length = 1024) : readR v h = (0, bs) := by
  rw [read_out hu hh, hp.1, hp.2, halves hl]
end Go.Proofs.Ytalkkhocljehfaa

/- Layer 8's statements: pages, homes, the disk that they begin with. Conditions: none. -/
set_option linter.unusedVariables false
set_option linter.unusedSimpArgs false
namespace Go.Proofs.Ytalkkhocljehfaa
open Go Go.RowKit

/-- A page of the statements. -/
def pgB (f i : Nat) : UInt8 := UInt8.ofNat ((f + i / 512 * 7 + i / 100) % 256)
def pageB (f : Nat) : List UInt8 := (List.range 1024).map (pgB f)
theorem pageB_len (f : Nat) : (pageB f).length = 1024 := by unfold pageB; rw [List.length_map, List.length_range]
theorem pageB_get {f k : Nat} (h : k < (pageB f).length) : (pageB f)[k] = pgB f k := by simp only [pageB, List.getElem_map, List.getElem_range]
theorem pgB_val {f k : Nat} (hf : f < 256) (hk : k < 1024) : Value.int .u8 (IntKind.wrap .u8 ((IntKind.wrap .u8 (((f : Nat) : Int) + (IntKind.wrap .u8 ((IntKind.wrap .u8 (IntKind.wrap .i64 (Int.tdiv ((k : Nat) : Int) (512 : Int)))) * (7 : Int))))) + (IntKind.wrap .u8 (IntKind.wrap .i64 (Int.tdiv ((k : Nat) : Int) (100 : Int)))))) = bv (pgB f k) := by
  have e1 : Int.tdiv ((k : Nat) : Int) 512 = ((k / 512 : Nat) : Int) := rfl
  have e2 : Int.tdiv ((k : Nat) : Int) 100 = ((k / 100 : Nat) : Int) := rfl
  have hb : IntKind.wrap .u8 ((k / 512 : Nat) : Int) = ((k / 512 : Nat) : Int) := by rw [u8_mod, Nat.mod_eq_of_lt (by omega)]
  have hc : IntKind.wrap .u8 ((k / 100 : Nat) : Int) = ((k / 100 : Nat) : Int) := by rw [u8_mod, Nat.mod_eq_of_lt (by omega)]
  have hd : IntKind.wrap .u8 (((k / 512 : Nat) : Int) * 7) = ((k / 512 * 7 : Nat) : Int) := by
    rw [show ((k / 512 : Nat) : Int) * 7 = ((k / 512 * 7 : Nat) : Int) by rw [Int.natCast_mul]; rfl, u8_mod, Nat.mod_eq_of_lt (by omega)]
  rw [e1, e2, wrap_i64 (x := ((k / 512 : Nat) : Int)) (by omega) (by omega), wrap_i64 (x := ((k / 100 : Nat) : Int)) (by omega) (by omega), hb, hc, hd, ← Int.natCast_add, u8_mod, ← Int.natCast_add, u8_mod, Nat.mod_add_mod]
  exact bv_of (Nat.mod_lt _ (by omega))
theorem Bb.sl {w : World} {ow : Nat → Nat} {u b n : Nat} {bs : List UInt8} (h : Bb w ow u b bs) (hn : bs.length = n) : Sl w T_uint8 1 (some ⟨b, 0, none⟩) n n (bvs bs) := by
  obtain ⟨⟨cur, hb, hc⟩, _⟩ := h
  have hsz : cur.size = n := by rw [← Array.length_toList, hc, bvs_len, hn]
  exact ⟨by rw [bvs_len]; omega, Nat.le_refl _, .inr ⟨b, cur, rfl, hb, by omega, by rw [hc, List.take_of_length_le (by rw [bvs_len]; omega)]⟩⟩
set_option maxRecDepth 100000 in
theorem page_c {w : World} {f : Nat} {R : Ending → World → Prop} (hf : f < 256) (hK : ∀ b w', Sl w' T_uint8 1 (some ⟨b, 0, none⟩) 1024 1024 (bvs (pageB f)) → Kp no w w' → w.heap.size ≤ b → R (.returned (.slice (some ⟨b, 0, none⟩) 1024 1024)) w') :
    GoC Try.prog F_law08_page #[.int .u8 (f : Int)] w R := by
  refine S_law08_page ?_
  unfold W_law08_page
  refine make_u8 (n := 1024) (by omega) fun b w1 cur hb hcur k1 hbe => ⟨_, _, _, rfl, ?_⟩
  have B0 : Bb w1 (fun _ => 0) 0 b (List.replicate 1024 0) := ⟨⟨cur, hb, hcur⟩, rfl⟩
  refine loopN (fun st w' => ∃ k : Nat, k ≤ 1024 ∧ st.1 = (k : Int) ∧ Kp no w w' ∧ Bb w' (fun _ => 0) 0 b ((pageB f).take k ++ (List.replicate 1024 0).drop k)) (fun st _ => 1024 - st.1.toNat)
    ⟨0, by omega, rfl, k1, by rw [List.take_zero, List.drop_zero, List.nil_append]; exact B0⟩ ?_
  rintro ⟨k0, u⟩ w2 ⟨k, hk, hk0, k2, B2⟩ _
  dsimp only at hk0 ⊢
  subst hk0
  have hlen : (pageB f).length = (List.replicate 1024 (0 : UInt8)).length := by rw [pageB_len, List.length_replicate]
  refine cond_d (fun hlt => ?_) (fun hge => ?_)
  · have hk4 : k < 1024 := by omega
    rw [pgB_val hf hk4]
    refine ⟨by omega, by omega, by omega, by omega, _, rfl, ?_⟩
    refine B2.st (i := k) (by rw [List.length_append, List.length_take, List.length_drop, pageB_len, List.length_replicate]; omega) (by rw [Int.toNat_natCast, add_at, Nat.zero_add]) fun w3 B3 k3 => ?_
    rw [half_set (by rw [pageB_len]; exact hk4) hlen (pageB_get (by rw [pageB_len]; exact hk4))] at B3
    exact ⟨⟨k + 1, by omega, wk8 (n := 1024) hk4 (by omega), kp_blk k2 (by omega) k3, B3⟩, by rw [wk8 (n := 1024) hk4 (by omega)]; simp only [Int.toNat_natCast]; omega⟩
  · have hke : k = 1024 := by omega
    subst hke
    rw [List.take_of_length_le (by rw [pageB_len]; exact Nat.le_refl _), List.drop_eq_nil_of_le (by rw [List.length_replicate]; exact Nat.le_refl _), List.append_nil] at B2
    exact hK b w2 (B2.sl (pageB_len f)) k2 (by omega)

theorem tmod_rest {n m : Int} (hm : 0 < m) : Int.tmod (Int.tmod n m + m) m = n % m := by
  have h1 := Int.lt_tmod_of_pos n hm
  rw [Int.tmod_eq_emod_of_nonneg (by omega), Int.add_emod_right]
  have h2 := Int.tmod_add_mul_tdiv n m
  conv => rhs; rw [← h2]
  rw [Int.add_mul_emod_self_left]
/-- A home. -/
def homeN (n : Int) : Nat := 5 + 2 * (n % 4).toNat
theorem homeN_is (n : Int) : homeN n = 5 ∨ homeN n = 7 ∨ homeN n = 9 ∨ homeN n = 11 := by
  unfold homeN
  omega
theorem homeOf_c {w : World} {n : Int} {R : Ending → World → Prop} (h : R (.returned (.int .i64 (homeN n : Int))) w) : GoC Try.prog F_law08_homeOf #[.int .i64 n] w R := by
  refine S_law08_homeOf ?_
  unfold W_law08_homeOf
  have h1 := Int.lt_tmod_of_pos n (show (0 : Int) < 4 by omega)
  have h2 := Int.tmod_lt_of_pos n (show (0 : Int) < 4 by omega)
  have e2 : IntKind.wrap .i64 (Int.tmod n 4 + 4) = Int.tmod n 4 + 4 := wrap_i64 (by omega) (by omega)
  rw [e2, tmod_rest (by omega)]
  clear e2
  have e3 : IntKind.wrap .i64 (2 * (n % 4)) = 2 * (n % 4) := wrap_i64 (by omega) (by omega)
  rw [e3]
  clear e3
  have e4 : IntKind.wrap .i64 (5 + 2 * (n % 4)) = 5 + 2 * (n % 4) := wrap_i64 (by omega) (by omega)
  rw [e4]
  clear e4
  have e5 : ((homeN n : Nat) : Int) = 5 + 2 * (n % 4) := by unfold homeN; omega
  rw [e5] at h
  exact ⟨by omega, by omega, h⟩
theorem fstep_c {w : World} {n n2 n3 : Int} {a : Option Addr} {l c : Nat} {R : Ending → World → Prop} (h : ∀ w', Kp no w w' → R (.returned (.int .i64 (n % 12))) w') :
    GoC Try.prog F_law08_Fall_step #[.agg #[.int .i64 n, .slice a l c, .int .i64 n2, .int .i64 n3]] w R := by
  refine S_law08_Fall_step ?_
  unfold W_law08_Fall_step
  refine AlF.intro fun b1 w1 hb1e hb1 k1 _ => ⟨n, hb1.at rfl rfl, ?_⟩
  have h1 := Int.lt_tmod_of_pos n (show (0 : Int) < 12 by omega)
  have h2 := Int.tmod_lt_of_pos n (show (0 : Int) < 12 by omega)
  have e2 : IntKind.wrap .i64 (Int.tmod n 12 + 12) = Int.tmod n 12 + 12 := wrap_i64 (by omega) (by omega)
  rw [e2, tmod_rest (by omega)]
  clear e2
  exact ⟨by omega, by omega, h w1 k1⟩

theorem writeR_sm {v : Dv} {at_ h : Int} {bs : List UInt8} {m : Nat} (hs : v.Sm m) : (writeR v at_ h bs).2.Sm (m + 6) := by
  have s1 := putL_sm (chunkL 2 bs) (i := at_ + 1) hs
  have s2 := putL_sm [markB h.toNat 165] (i := at_) s1
  have s3 := putL_sm (chunkL 2 bs) (i := h) s2
  have s4 := putL_sm [markB h.toNat 0] (i := at_) s3
  rw [chunkL_len] at s1 s2 s3 s4
  simp only [List.length_cons, List.length_nil] at s2 s3 s4
  unfold writeR
  repeat' split
  · exact hs.mono (by omega)
  · exact hs.mono (by omega)
  · exact hs.mono (by omega)
  · exact s1.mono (by omega)
  · exact s2.mono (by omega)
  · exact s3.mono (by omega)
  · exact s4.mono (by omega)
theorem finR_sm {v : Dv} {at_ : Int} {m : Nat} (hs : v.Sm m) : (finR v at_).2.Sm (m + 3) := by
  unfold finR finS
  repeat' split
  · exact hs.mono (by omega)
  · exact hs.mono (by omega)
  · exact hs.mono (by omega)
  · exact hs.mono (by omega)
  · exact (putL_sm _ hs).mono (by simp)
  · exact (putL_sm _ (putL_sm _ hs)).mono (by simp)
  · exact (putL_sm _ (putL_sm _ hs)).mono (by simp)
theorem Up.sm {v : Dv} {n m m' : Nat} (h : Up v n) (hs : v.Sm m) : v.Sm m' := ⟨by rw [h.q]; simp, hs.k⟩

/-- The disk of the statements; its pages. -/
structure Sto (v : Dv) (P : Nat → List UInt8) : Prop where
  up : Up v 13
  z : Zm v 2
  a0 : v.sect 0 = List.replicate 512 0
  a1 : v.sect 1 = List.replicate 512 0
  pg : ∀ h, (h = 5 ∨ h = 7 ∨ h = 9 ∨ h = 11) → Pg v h (P h)
theorem sect_zero (n j : Nat) (h : j < n) : (Dv.new n).sect j = List.replicate 512 0 := by
  unfold Dv.sect Dv.new
  have : (j + 1) * 512 ≤ n * 512 := Nat.mul_le_mul_right _ h
  dsimp only
  rw [List.drop_replicate, List.take_replicate]
  congr 1
  omega
theorem up_new {n : Nat} (h1 : 1 ≤ n) (h2 : n ≤ 8192) : Up (Dv.new n) n := by
  have hl : (Dv.new n).img.length = n * 512 := List.length_replicate ..
  refine ⟨?_, rfl, rfl, Dv.n_of hl⟩
  rw [Dv.new_load]
  exact Dv.Ok.load (List.length_replicate ..) h1 h2
theorem zm_new {n : Nat} (h : 2 < n) : Zm (Dv.new n) 2 := by
  unfold Zm
  rw [sect_zero n 2 h, List.getD_eq_getElem?_getD, List.getElem?_replicate]
  rfl
theorem sm_new (n : Nat) : (Dv.new n).Sm 0 := ⟨Nat.le_refl _, by simp [Dv.new]⟩
theorem slT_bs {w w' : World} {ow : Nat → Nat} {b t u n : Nat} {bs : List UInt8} (s : Sl w' T_uint8 1 (some ⟨b, 0, none⟩) n n (bvs bs)) (hb : w.heap.size ≤ b) (hu : Td t u) (hn : n ≤ 140737488355328) : Bs w' (ext ow w.heap.size u) t (some ⟨b, 0, none⟩) bs := by
  have e := s.ln
  refine ⟨fun i v hv => ?_, by omega, fun h => by cases h⟩
  obtain ⟨b', o, ha, hc⟩ := s.rd i v hv
  cases ha
  exact ⟨b, 0, rfl, hc, by rw [ext_new hb]; exact hu⟩

set_option maxHeartbeats 1000000 in
theorem store_c {w : World} {ow : Nat → Nat} {t : Nat} {R : Ending → World → Prop}
    (hK : ∀ b w' ow' v, DX w' ow' t b v → v.Sm 0 → Sto v pageB → v.step = 0 → Fro (Td t) w ow w' ow' → w.heap.size ≤ b → R (.returned (.tuple #[.pointer (some ⟨b, 0, none⟩), .bool true])) w') : GoC Try.prog F_law08_store #[] w R := by
  refine S_law08_store ?_
  unfold W_law08_store
  refine new_c (ow := ow) (n := 13) (by omega) (by omega) t fun b w1 ow1 h1 k1 ag1 hb1 => ⟨_, _, rfl, cond_f rfl (cond_f rfl ?_)⟩
  have F1 : Fro (Td t) w ow w1 ow1 := Fro.new k1 ag1
  refine loopN (fun st w' => ∃ j : Nat, j ≤ 4 ∧ st.1 = ((5 + 2 * j : Nat) : Int) ∧ ∃ ow' v, DX w' ow' t b v ∧ v.Sm 0 ∧ v.step = 0 ∧ Fro (Td t) w ow w' ow' ∧ Up v 13 ∧ Zm v 2 ∧ v.sect 0 = List.replicate 512 0 ∧ v.sect 1 = List.replicate 512 0 ∧ ∀ i, i < j → Pg v (5 + 2 * i) (pageB (5 + 2 * i))) (fun st _ => 13 - st.1.toNat)
    ⟨0, by omega, rfl, ow1, Dv.new 13, h1, sm_new 13, rfl, F1, up_new (by omega) (by omega), zm_new (by omega), sect_zero 13 0 (by omega), sect_zero 13 1 (by omega), fun i hi => by omega⟩ ?_
  rintro ⟨j0, u⟩ w2 ⟨j, hj, hj0, ow2, v, h2, sm2, st2, F2, u2, z2, a0, a1, pg⟩ _
  dsimp only at hj0 ⊢
  subst hj0
  refine cond_d (fun hlt => ?_) (fun hge => ?_)
  · have e8 : IntKind.wrap .u8 ((5 + 2 * j : Nat) : Int) = ((5 + 2 * j : Nat) : Int) := by rw [u8_mod, Nat.mod_eq_of_lt (by omega)]
    have e9 : IntKind.wrap .i64 (((5 + 2 * j : Nat) : Int) + 2) = ((5 + 2 * (j + 1) : Nat) : Int) := by rw [wrap_i64 (by omega) (by omega)]; omega
    rw [e8, e9]
    refine page_c (by omega) fun b3 w3 s3 k3 hb3 => ⟨_, _, _, rfl, ?_⟩
    have f3 : Fro (fun _ => True) w2 ow2 w3 (ext ow2 w2.heap.size (t + 5)) := Fro.of_kp0 (t + 5) k3
    have B3 := slT_bs (ow := ow2) (t := t) (u := t + 5) s3 hb3 ⟨by omega, by omega, by omega⟩ (by omega)
    have h3 := h2.fr f3 trivial trivial trivial trivial
    have F3 := F2.trans (f3.mono fun u (_ : Td t u) => trivial)
    generalize ext ow2 w2.heap.size (t + 5) = ow3 at *
    refine twrite_c h3 (u2.sm sm2) B3 (pageB_len _) (Nat.le_refl _) fun e w4 ow4 h4 f4 he _ => ⟨_, rfl, ?_⟩
    rcases write_out (at_ := 2) (h := 5 + 2 * j) (bs := pageB (5 + 2 * j)) u2 (by omega) (by omega) (pageB_len _) z2 with ⟨_, w0, wu, wo, wz, wp, ws, _⟩ | ⟨hh, _⟩
    · rw [show ((2 : Nat) : Int) = 2 from rfl] at w0 wu wo wz wp ws
      rw [w0] at he
      rcases he with ⟨_, rfl⟩ | ⟨hne, _⟩
      · have sm4 := writeR_sm (at_ := 2) (h := ((5 + 2 * j : Nat) : Int)) (bs := pageB (5 + 2 * j)) sm2
        refine .inl ⟨rfl, cond_f rfl ⟨⟨j + 1, by omega, rfl, ow4, _, h4, wu.sm sm4, ws st2, F3.trans f4, wu, wz, by rw [wo 0 (by omega) (by omega) (by omega)]; exact a0, by rw [wo 1 (by omega) (by omega) (by omega)]; exact a1, fun i hi => ?_⟩, by simp only [Int.toNat_natCast]; omega⟩⟩
        by_cases hij : i = j
        · subst hij
          exact wp
        · exact wo.pg (pg i (by omega)) (by omega) (by omega) (by omega)
      · exact absurd rfl hne
    · omega
  · have hj4 : j = 4 := by omega
    subst hj4
    refine hK b w2 ow2 v h2 sm2 ⟨u2, z2, a0, a1, fun h hh => ?_⟩ st2 F2 hb1
    rcases hh with rfl | rfl | rfl | rfl
    · exact pg 0 (by omega)
    · exact pg 1 (by omega)
    · exact pg 2 (by omega)
    · exact pg 3 (by omega)
end Go.Proofs.Ytalkkhocljehfaa

/- Layer 8's statements: the first line; the other pages. Conditions: none. -/
set_option linter.unusedVariables false
set_option linter.unusedSimpArgs false
namespace Go.Proofs.Ytalkkhocljehfaa
open Go Go.RowKit

theorem conv_c {w : World} {a : Option Addr} {l c : Nat} {bs : List UInt8} {K : Value → World → Prop} (s : Sl w T_uint8 1 a l c (bvs bs)) (hK : ∀ z : ByteArray, z.toList = bs → K (.string z) w) : RunF Try.prog (convert T_s_uint8 T_string (.slice a l c)) w K :=
  convert_bytes (e := T_uint8) (by kernel_rfl) (by kernel_rfl) (by kernel_rfl) s.rd s.ln (sl_some' s) hK
theorem toKp {w w' : World} {ow' : Nat → Nat} (f : Fro (Td 0) w (fun _ => 10) w' ow') : Kp no w w' := f.kp.mono fun j _ hj => (hj ⟨by omega, by omega, by omega⟩).elim
set_option maxRecDepth 100000 in
set_option maxHeartbeats 2000000 in
theorem first_c {w : World} {R : Ending → World → Prop} (hK : ∀ w', Kp no w w' → R (.returned (.bool true)) w') : GoC Try.prog F_law08_first #[] w R := by
  refine S_law08_first ?_
  unfold W_law08_first
  refine new_c (ow := fun _ => 10) (n := 9) (by omega) (by omega) 0 fun b w1 ow1 h1 k1 ag1 hb1 => ⟨_, _, rfl, cond_f rfl (cond_f rfl ?_)⟩
  have F1 : Fro (Td 0) w (fun _ => 10) w1 ow1 := Fro.new k1 ag1
  refine page_c (f := 97) (by omega) fun b2 w2 s2 k2 _ => ⟨_, _, _, rfl, ?_⟩
  refine twrite_nil fun e3 w3 k3 he3 _ => ⟨_, rfl, ltold_c (z := zW) he3 ⟨_, rfl, cond_f (by decide) ?_⟩⟩
  have k13 := k2.trans0 k3
  refine page_c (f := 97) (by omega) fun b4 w4 s4 k4 hb4 => ⟨_, _, _, rfl, ?_⟩
  have k14 := k13.trans0 k4
  have f4 : Fro (fun _ => True) w1 ow1 w4 (ext ow1 w1.heap.size 5) := Fro.of_kp0 5 k14
  have B4 := slT_bs (w := w1) (ow := ow1) (t := 0) (u := 5) s4 (by have := k13.size; omega) ⟨by omega, by omega, by omega⟩ (by omega)
  have h4 := h1.fr f4 trivial trivial trivial trivial
  have F4 := F1.trans (f4.mono fun u (_ : Td 0 u) => trivial)
  generalize ext ow1 w1.heap.size 5 = ow4 at *
  have u0 := up_new (n := 9) (by omega) (by omega)
  have e4 : writeR (Dv.new 9) 2 4 (pageB 97) = (4, Dv.new 9) := by
    unfold writeR
    rw [u0.d, if_neg (by simp), if_pos (by unfold mayP; omega)]
  refine twrite_c h4 ((sm_new 9).mono (by omega)) B4 (pageB_len _) (Nat.le_refl _) fun e5 w5 ow5 h5 f5 he5 _ => ⟨_, rfl, ?_⟩
  rw [e4] at h5 he5
  refine ltold_c (z := zW) he5 ⟨_, rfl, cond_f (by decide) ?_⟩
  refine calls_c h5 ⟨_, rfl, cond_f rfl ?_⟩
  have F5 := F4.trans f5
  refine page_c (f := 97) (by omega) fun b6 w6 s6 k6 hb6 => ⟨_, _, _, rfl, ?_⟩
  have f6 : Fro (fun _ => True) w5 ow5 w6 (ext ow5 w5.heap.size 5) := Fro.of_kp0 5 k6
  have B6 := slT_bs (w := w5) (ow := ow5) (t := 0) (u := 5) s6 hb6 ⟨by omega, by omega, by omega⟩ (by omega)
  have h6 := h5.fr f6 trivial trivial trivial trivial
  have F6 := F5.trans (f6.mono fun u (_ : Td 0 u) => trivial)
  generalize ext ow5 w5.heap.size 5 = ow6 at *
  rcases write_out (at_ := 2) (h := 5) (bs := pageB 97) u0 (by omega) (by omega) (pageB_len _) (zm_new (by omega)) with ⟨_, w0, wu, wo, wz, wp, ws, wc⟩ | ⟨hh, _⟩
  rotate_left
  · have : (Dv.new 9).step = 0 := rfl
    omega
  have hc := wc (Int.le_refl _) (by show (0 : Int) < _; omega)
  have sm7 := wu.sm (m' := 0) (writeR_sm (at_ := ((2 : Nat) : Int)) (h := ((5 : Nat) : Int)) (bs := pageB 97) (sm_new 9))
  refine twrite_c h6 ((sm_new 9).mono (by omega)) B6 (pageB_len _) (Nat.le_refl _) fun e7 w7 ow7 h7 f7 he7 _ => ⟨_, rfl, ?_⟩
  rw [show ((2 : Nat) : Int) = 2 from rfl, show ((5 : Nat) : Int) = 5 from rfl] at *
  rw [w0] at he7
  have e7 := err0 he7
  subst e7
  have rp := read_pg (h := 5) wu (by omega) wp (pageB_len _)
  have fz := fin_zero wu (at_ := 2) (by omega) wz
  rw [show ((2 : Nat) : Int) = 2 from rfl] at fz
  rw [show ((5 : Nat) : Int) = 5 from rfl] at rp
  generalize (writeR (Dv.new 9) 2 5 (pageB 97)).2 = v at *
  refine tread_c h7 (sm7.mono (by omega)) fun a8 l8 c8 e8 w8 k8 s8 f8 he8 _ => ⟨_, _, _, _, rfl, ?_⟩
  rw [rp] at s8 he8
  have e8' := err0 he8
  subst e8'
  have fr8 : Fro (fun _ => True) w7 ow7 w8 (ext ow7 w7.heap.size 5) := Fro.of_kp0 5 k8
  have S8 : SlT w8 (ext ow7 w7.heap.size 5) T_uint8 1 a8 l8 c8 (bvs (pageB 97)) 5 := ⟨s8, fun j hj => ext_new (f8 j hj)⟩
  have h8 := h7.fr fr8 trivial trivial trivial trivial
  have F8 := (F6.trans f7).trans (fr8.mono fun u (_ : Td 0 u) => trivial)
  generalize ext ow7 w7.heap.size 5 = ow8 at *
  refine tfinish_c h8 (sm7.mono (by omega)) fun e9 w9 ow9 h9 f9 he9 _ => ⟨_, _, rfl, ?_⟩
  rw [fz] at h9 he9 ⊢
  have e9' := err0 he9
  subst e9'
  have F9 := F8.trans f9
  have k9 := toKp F9
  have S9 := (S8.fr f9 ⟨by omega, by omega, by omega⟩).sl
  have kd : Kp no w9 w9.drew := Kp.drew w9 1
  refine ⟨fun w' => Kp no w9 w', kd, .inl ⟨rfl, cond_t rfl (.inl ⟨rfl, cond_t rfl (.inl ⟨rfl, cond_t rfl (cond_t rfl ⟨?_, ?_⟩)⟩)⟩)⟩⟩
  · refine conv_c (S9.kp0 kd) fun z1 hz1 => ⟨_, rfl, kd, ?_⟩
    refine page_c (f := 97) (by omega) fun b10 w10 s10 k10 hb10 => ⟨_, _, _, rfl, kd.trans0 k10, ?_⟩
    refine conv_c s10 fun z2 hz2 => ⟨_, rfl, kd.trans0 k10, cond_t (by rw [hz1, hz2]; exact beq_self_eq_true _) ?_⟩
    refine calls_c (h9.kp0 (kd.trans0 k10)) ⟨_, rfl, kd.trans0 k10, ?_⟩
    rw [hc]
    exact hK _ ((k9.trans0 kd).trans0 k10)
  · refine page_c (f := 97) (by omega) fun b10 w10 s10 k10 hb10 => ⟨_, _, _, rfl, kd.trans0 k10, ?_, ?_⟩
    · refine conv_c (S9.kp0 (kd.trans0 k10)) fun z1 hz1 => ⟨_, rfl, kd.trans0 k10, ?_⟩
      refine conv_c s10 fun z2 hz2 => ⟨_, rfl, kd.trans0 k10, cond_t (by rw [hz1, hz2]; exact beq_self_eq_true _) ?_⟩
      refine calls_c (h9.kp0 (kd.trans0 k10)) ⟨_, rfl, kd.trans0 k10, ?_⟩
      rw [hc]
      exact hK _ ((k9.trans0 kd).trans0 k10)
    · refine conv_c s10 fun z2 hz2 => ⟨_, rfl, kd.trans0 k10, ?_⟩
      refine conv_c (S9.kp0 (kd.trans0 k10)) fun z1 hz1 => ⟨_, rfl, kd.trans0 k10, cond_t (by rw [hz1, hz2]; exact beq_self_eq_true _) ?_⟩
      refine calls_c (h9.kp0 (kd.trans0 k10)) ⟨_, rfl, kd.trans0 k10, ?_⟩
      rw [hc]
      exact hK _ ((k9.trans0 kd).trans0 k10)

/-- All but one home are what they were laid as. -/
structure Rest (v : Dv) (home : Nat) : Prop where
  up : Up v 13
  a0 : v.sect 0 = List.replicate 512 0
  a1 : v.sect 1 = List.replicate 512 0
  pg : ∀ h, (h = 5 ∨ h = 7 ∨ h = 9 ∨ h = 11) → h ≠ home → Pg v h (pageB h)
set_option maxRecDepth 100000 in
set_option maxHeartbeats 2000000 in
theorem others_c {w : World} {ow : Nat → Nat} {t b home : Nat} {v : Dv} {R : Ending → World → Prop} (h : DX w ow t b v) (hs : v.Sm 1000000) (hr : Rest v home) (hK : ∀ w', Kp no w w' → R (.returned (.bool true)) w') :
    GoC Try.prog F_law08_others #[.pointer (some ⟨b, 0, none⟩), .int .i64 (home : Int)] w R := by
  refine S_law08_others ?_
  unfold W_law08_others
  refine loopN (fun st w' => ∃ j : Nat, j ≤ 4 ∧ st.1 = ((5 + 2 * j : Nat) : Int) ∧ Kp no w w') (fun st _ => 13 - st.1.toNat) ⟨0, by omega, rfl, Kp.refl _ _⟩ ?_
  rintro ⟨j0, u⟩ w1 ⟨j, hj, hj0, k1⟩ _
  dsimp only at hj0 ⊢
  subst hj0
  refine cond_d (fun hlt => ?_) (fun hge => ?_)
  · have e8 : IntKind.wrap .u8 ((5 + 2 * j : Nat) : Int) = ((5 + 2 * j : Nat) : Int) := by rw [u8_mod, Nat.mod_eq_of_lt (by omega)]
    have e9 : IntKind.wrap .i64 (((5 + 2 * j : Nat) : Int) + 2) = ((5 + 2 * (j + 1) : Nat) : Int) := by rw [wrap_i64 (by omega) (by omega)]; omega
    rw [e8, e9]
    have ro := read_out (h := 5 + 2 * j) hr.up (by omega)
    refine tread_c (h.kp0 k1) hs fun a2 l2 c2 e2 w2 k2 s2 f2 he2 _ => ⟨_, _, _, _, rfl, ?_⟩
    have e2' : e2 = .nilIface := by rw [ro] at he2; exact err0 he2
    subst e2'
    have kd : Kp no w2 w2.drew := Kp.drew w2 1
    have nx : ∀ w', Kp no w2 w' → (∃ j', j' ≤ 4 ∧ ((5 + 2 * (j + 1) : Nat) : Int) = ((5 + 2 * j' : Nat) : Int) ∧ Kp no w w') ∧ 13 - Int.toNat ((5 + 2 * (j + 1) : Nat) : Int) < 13 - Int.toNat ((5 + 2 * j : Nat) : Int) := fun w' k => ⟨⟨j + 1, by omega, rfl, (k1.trans0 k2).trans0 k⟩, by simp only [Int.toNat_natCast]; omega⟩
    refine ⟨fun w' => Kp no w2 w', kd, .inl ⟨rfl, cond_f rfl (cond_ne (fun hne => ?_) (fun he => ⟨nx _ kd, nx _ kd, nx _ kd⟩))⟩⟩
    have pg := hr.pg (5 + 2 * j) (by omega) (by omega)
    rw [ro, pg.1, pg.2, halves (pageB_len _)] at s2
    refine ⟨?_, ?_⟩
    · refine conv_c (s2.kp0 kd) fun z1 hz1 => ⟨_, rfl, kd, ?_⟩
      refine page_c (by omega) fun b10 w10 s10 k10 hb10 => ⟨_, _, _, rfl, kd.trans0 k10, ?_⟩
      exact conv_c s10 fun z2 hz2 => ⟨_, rfl, kd.trans0 k10, cond_f (by rw [hz1, hz2, beq_self_eq_true]; rfl) (nx _ (kd.trans0 k10))⟩
    · refine page_c (by omega) fun b10 w10 s10 k10 hb10 => ⟨_, _, _, rfl, kd.trans0 k10, ?_, ?_⟩
      · refine conv_c (s2.kp0 (kd.trans0 k10)) fun z1 hz1 => ⟨_, rfl, kd.trans0 k10, ?_⟩
        exact conv_c s10 fun z2 hz2 => ⟨_, rfl, kd.trans0 k10, cond_f (by rw [hz1, hz2, beq_self_eq_true]; rfl) (nx _ (kd.trans0 k10))⟩
      · refine conv_c s10 fun z2 hz2 => ⟨_, rfl, kd.trans0 k10, ?_⟩
        exact conv_c (s2.kp0 (kd.trans0 k10)) fun z1 hz1 => ⟨_, rfl, kd.trans0 k10, cond_f (by rw [hz1, hz2, beq_self_eq_true]; rfl) (nx _ (kd.trans0 k10))⟩
  · have ro := read_out (h := 0) hr.up (by omega)
    rw [show ((0 : Nat) : Int) = 0 from rfl, hr.a0, hr.a1, List.replicate_append_replicate] at ro
    refine tread_c (h.kp0 k1) hs fun a2 l2 c2 e2 w2 k2 s2 f2 he2 _ => ⟨_, _, _, _, rfl, ?_⟩
    rw [ro] at he2 s2
    have e2' := err0 he2
    subst e2'
    have kd : Kp no w2 w2.drew := Kp.drew w2 1
    have nx : ∀ w' (z1 z2 : ByteArray), Kp no w2 w' → z1.toList = List.replicate (512 + 512) 0 → z2.toList = List.replicate 1024 0 → R (.returned (.bool (ByteArray.toList z1 == ByteArray.toList z2))) w' := fun w' z1 z2 k h1 h2 => by
      rw [h1, h2, beq_self_eq_true]
      exact hK _ ((k1.trans0 k2).trans0 k)
    have nx' : ∀ w' (z1 z2 : ByteArray), Kp no w2 w' → z1.toList = List.replicate (512 + 512) 0 → z2.toList = List.replicate 1024 0 → R (.returned (.bool (ByteArray.toList z1 == ByteArray.toList z2))) w' := nx
    have mk : ∀ {w' : World} {b' : Nat} {cur : Array Value}, Blk w' b' cur T_uint8 → cur.toList = bvs (List.replicate 1024 0) → Sl w' T_uint8 1 (some ⟨b', 0, none⟩) 1024 1024 (bvs (List.replicate 1024 0)) := fun hb hc =>
      Bb.sl (ow := fun _ => 0) (u := 0) ⟨⟨_, hb, hc⟩, rfl⟩ (List.length_replicate ..)
    refine ⟨fun w' => Kp no w2 w', kd, .inl ⟨rfl, cond_t rfl ⟨?_, ?_⟩⟩⟩
    · refine conv_c (s2.kp0 kd) fun z1 hz1 => ⟨_, rfl, kd, ?_⟩
      refine make_u8 (n := 1024) (by omega) fun b3 w3 cur hb3 hcur k3 hb3e => ⟨_, _, _, rfl, kd.trans0 k3, ?_⟩
      exact conv_c (mk hb3 hcur) fun z2 hz2 => ⟨_, rfl, kd.trans0 k3, nx _ _ _ (kd.trans0 k3) hz1 hz2⟩
    · refine make_u8 (n := 1024) (by omega) fun b3 w3 cur hb3 hcur k3 hb3e => ⟨_, _, _, rfl, kd.trans0 k3, ?_, ?_⟩
      · refine conv_c (s2.kp0 (kd.trans0 k3)) fun z1 hz1 => ⟨_, rfl, kd.trans0 k3, ?_⟩
        exact conv_c (mk hb3 hcur) fun z2 hz2 => ⟨_, rfl, kd.trans0 k3, nx _ _ _ (kd.trans0 k3) hz1 hz2⟩
      · refine conv_c (mk hb3 hcur) fun z2 hz2 => ⟨_, rfl, kd.trans0 k3, ?_⟩
        exact conv_c (s2.kp0 (kd.trans0 k3)) fun z1 hz1 => ⟨_, rfl, kd.trans0 k3, nx _ _ _ (kd.trans0 k3) hz1 hz2⟩
end Go.Proofs.Ytalkkhocljehfaa

/- Layer 8's falls, as they are handed in. Conditions: none. -/
set_option linter.unusedVariables false
set_option linter.unusedSimpArgs false
namespace Go.Proofs.Ytalkkhocljehfaa
open Go Go.RowKit Go.ChangeShapes Go.WideShapes

/-- A fall. -/
structure FallA where
  n : Int
  la : Option Addr
  lc : Nat
  keep : List Nat
  torn : Int
  off : Int
def FallA.cs (o : FallA) : List Value := [.int .i64 o.n, .slice o.la o.keep.length o.lc, .int .i64 o.torn, .int .i64 o.off]
theorem FallA.cs_len (o : FallA) : o.cs.length = 4 := rfl
def fFA : List FallA → List Value := flatV FallA.cs
instance : Inhabited FallA := ⟨⟨0, none, 0, [], 0, 0⟩⟩
def FallA.Ok (W : World) (o : FallA) : Prop := LossOk W o.la o.keep.length o.keep o.torn o.off
/-- Its step. -/
def FallA.st (o : FallA) : Int := o.n % 12
theorem fall_open' {W : World} {cs : List Value} (h : ClW Try.prog W T_quotalaw08_Fall cs) : ∃ x : FallA, cs = x.cs ∧ x.Ok W := by
  have hl := h.cl.slen (s := 4) (by kernel_rfl)
  have f0 := h.cl.field 0 (e := T_int) (o := 0) (s := 1) (by kernel_rfl)
  have f1 := h.field 1 (e := T_api_Loss) (o := 1) (s := 3) (by kernel_rfl)
  match cs, hl with
  | [x0, x1, x2, x3], _ =>
    simp only [List.drop_zero, List.drop_succ_cons, List.take_succ_cons, List.take_zero] at f0 f1
    obtain ⟨k, h0, w0⟩ := f0.int (k := .i64) (by kernel_rfl)
    obtain ⟨a, l, c, keep, torn, off, h5, hL⟩ := loss_open' f1
    cases h0; cases h5
    have hn := hL.n
    subst hn
    exact ⟨⟨k, a, c, keep, torn, off⟩, rfl, hL⟩
theorem fall_open {W : World} {v : Value} (h : ArgW Try.prog W T_quotalaw08_Fall v) : ∃ x : FallA, v = .agg #[.int .i64 x.n, .slice x.la x.keep.length x.lc, .int .i64 x.torn, .int .i64 x.off] ∧ x.Ok W := by
  obtain ⟨cells, rfl, _⟩ := h.arg.struct (s := 4) (by kernel_rfl)
  have hw := h.clw
  obtain ⟨x, he, hp⟩ := fall_open' (cs := cells.toList) hw
  refine ⟨x, ?_, hp⟩
  congr 1
  cases cells
  exact congrArg List.toArray he
structure FallsOk (W : World) (a : Option Addr) (l c : Nat) (L : List FallA) : Prop where
  n : L.length = l
  rd : Rd W a (fFA L)
  ok : ∀ x ∈ L, x.Ok W
theorem rd_flatF {W : World} {a : Option Addr} {L : List FallA} (h : ∀ (i : Nat) (hi : i < L.length) (q : Nat) (v : Value), (L[i]).cs[q]? = some v → ∃ b o, a = some ⟨b, o, none⟩ ∧ W.cell? ⟨b, o + i * 4 + q, none⟩ = some v) : Rd W a (fFA L) := by
  intro j v hv
  have hj : j < L.length * 4 := by have := (List.getElem?_eq_some_iff.1 hv).1; rwa [fFA, flatV_len FallA.cs_len] at this
  have hq : j % 4 < 4 := Nat.mod_lt _ (by omega)
  have hi : j / 4 < L.length := by omega
  have e : j / 4 * 4 + j % 4 = j := by omega
  have hg := flatV_get FallA.cs_len L (j / 4) hi (j % 4) hq
  rw [e] at hg
  unfold fFA at hv
  rw [hv] at hg
  obtain ⟨b, o, ha, hc⟩ := h (j / 4) hi (j % 4) v hg.symm
  refine ⟨b, o, ha, ?_⟩
  rwa [Nat.add_assoc, e] at hc
theorem falls_open {W : World} {v : Value} (h : ArgW Try.prog W T_s_quotalaw08_Fall v) : ∃ a l c L, v = .slice a l c ∧ FallsOk W a l c L := by
  obtain ⟨a, l, c, rfl, hc⟩ := h.arg.slice (e := T_quotalaw08_Fall) (by kernel_rfl)
  have hw : ClW Try.prog W T_s_quotalaw08_Fall [.slice a l c] := h.clw
  obtain ⟨css, h1, h2⟩ := hw.cells (e := T_quotalaw08_Fall) (s := 4) (by kernel_rfl) (by kernel_rfl) (by omega)
  have each : ∀ i, i < l → ∃ x : FallA, css i = x.cs ∧ x.Ok W := fun i hi => fall_open' (h1 i hi)
  obtain ⟨f, hf⟩ := Deep.choose_lt (α := FallA) (p := fun i x => css i = x.cs ∧ x.Ok W) each
  refine ⟨a, l, c, (List.range l).map f, rfl, by simp, rd_flatF fun i hi q v hv => ?_, fun x hx => ?_⟩
  · have hil : i < l := by simpa using hi
    have e : ((List.range l).map f)[i] = f i := by simp
    rw [e] at hv
    exact h2 i hil q v (by rw [(hf i hil).1]; exact hv)
  · simp only [List.mem_map, List.mem_range] at hx
    obtain ⟨i, hi, rfl⟩ := hx
    exact (hf i hi).2
/-- A fall's cells, in a list of falls. -/
theorem fallI {w : World} {a : Option Addr} {L : List FallA} (h : Rd w a (fFA L)) {i : Nat} (hi : i < L.length) : ∃ b o, a = some ⟨b, o, none⟩ ∧ ∀ q, q < 4 → ∀ v, (L[i]).cs[q]? = some v → w.cell? ⟨b, o + i * 4 + q, none⟩ = some v := by
  have hg := fun q hq => flatV_get FallA.cs_len L i hi q hq
  obtain ⟨b, o, ha, hc⟩ := h (i * 4) (.int .i64 (L[i]).n) (by unfold fFA; exact hg 0 (by omega))
  refine ⟨b, o, ha, fun q hq v hv => ?_⟩
  obtain ⟨b', o', ha', hc'⟩ := h (i * 4 + q) v (by unfold fFA; rw [hg q hq]; exact hv)
  rw [ha] at ha'
  cases ha'
  rw [Nat.add_assoc]
  exact hc'
theorem fallCells {w : World} {b o i : Nat} {y : FallA} (fc : ∀ q, q < 4 → ∀ v, y.cs[q]? = some v → w.cell? ⟨b, o + i * 4 + q, none⟩ = some v) :
    w.cell? (Addr.add ⟨b, o, none⟩ (Int.toNat (i : Int) * 4)) = some (.int .i64 y.n) ∧ w.cell? (Addr.add (Addr.add ⟨b, o, none⟩ (Int.toNat (i : Int) * 4)) 1) = some (.slice y.la y.keep.length y.lc) ∧
    w.cell? (Addr.add (Addr.add ⟨b, o, none⟩ (Int.toNat (i : Int) * 4)) 2) = some (.int .i64 y.torn) ∧ w.cell? (Addr.add (Addr.add ⟨b, o, none⟩ (Int.toNat (i : Int) * 4)) 3) = some (.int .i64 y.off) ∧ True := by
  rw [Int.toNat_natCast, add_at]
  exact ⟨fc 0 (by omega) _ rfl, fc 1 (by omega) _ rfl, fc 2 (by omega) _ rfl, fc 3 (by omega) _ rfl, trivial⟩
theorem fallCellsL {w : World} {b o i : Nat} {y : FallA} (fc : ∀ q, q < 4 → ∀ v, y.cs[q]? = some v → w.cell? ⟨b, o + i * 4 + q, none⟩ = some v) :
    w.cell? (Addr.add (Addr.add ⟨b, o, none⟩ (Int.toNat (i : Int) * 4)) 1) = some (.slice y.la y.keep.length y.lc) ∧
    w.cell? (Addr.add (Addr.add (Addr.add ⟨b, o, none⟩ (Int.toNat (i : Int) * 4)) 1) 1) = some (.int .i64 y.torn) ∧ w.cell? (Addr.add (Addr.add (Addr.add ⟨b, o, none⟩ (Int.toNat (i : Int) * 4)) 1) 2) = some (.int .i64 y.off) ∧ True := by
  rw [Int.toNat_natCast, add_at]
  exact ⟨fc 1 (by omega) _ rfl, fc 2 (by omega) _ rfl, fc 3 (by omega) _ rfl, trivial⟩
/-- A loss that was handed in. -/
theorem FallA.Ok.ls {W w : World} {ow : Nat → Nat} {x : FallA} (h : x.Ok W) (o : Old W w ow) : Ls w ow 100 x.la x.keep :=
  ⟨(o.rdT h.rd).mono fun u hu => ⟨by omega, by omega, by omega⟩, h.lt, by have := h.ln; omega, h.nn⟩
theorem FallA.Ok.k {W : World} {x : FallA} (h : x.Ok W) : x.keep.length * 8 ≤ 140737488355328 := by have := h.ln; omega
theorem FallA.st_bd (x : FallA) : 0 ≤ x.st ∧ x.st ≤ 11 := by unfold FallA.st; omega
/-- Armed. -/
def Dv.armed (v : Dv) (x : FallA) : Dv := { v with step := x.st, keep := x.keep, torn := x.torn, off := x.off }
theorem Up.arm {v : Dv} {n : Nat} (h : Up v n) (x : FallA) : v.arm x.st x.keep x.torn x.off = (0, v.armed x) := by
  have := x.st_bd
  unfold Dv.arm
  rw [if_neg (by rw [h.d]; simp), if_neg (by omega)]
  rfl
theorem Up.armed {W : World} {v : Dv} {n : Nat} {x : FallA} (h : Up v n) (hx : x.Ok W) : Up (v.armed x) n := by
  have := x.st_bd
  have ho := h.ok.arm (step := x.st) (keep := x.keep) x.torn x.off (by omega) hx.lt
  rw [h.arm x] at ho
  exact ⟨ho, h.d, h.q, h.vn⟩
theorem Up.armed_sm {W : World} {v : Dv} {n m : Nat} {x : FallA} (h : Up v n) (hx : x.Ok W) : (v.armed x).Sm m := ⟨by show v.q.length ≤ m; rw [h.q]; simp, hx.k⟩
end Go.Proofs.Ytalkkhocljehfaa

/- Layer 8, the document's: places, markers, deeds; Write. Conditions: the disk's queue and its loss's list are short. -/
set_option linter.unusedVariables false
set_option linter.unusedSimpArgs false
namespace Go.Proofs.Ytalkkhocljehfaa
open Go Go.RowKit

section
variable {w : World} {ow : Nat → Nat} {t b : Nat} {v : Dv} {R : Ending → World → Prop}
theorem rgone (h : RX w ow t b v) : w.cell? (Addr.add ⟨b, 0, none⟩ 2) = some (.bool v.down) := by
  obtain ⟨H, Q, ka, kc, kp, kt, ko, h⟩ := h
  exact cN h.hb rfl
theorem rthree_c {at_ : Int} (h : RX w ow t b v) (hK : R (.returned (.bool (decide (0 ≤ at_ ∧ at_ + 3 ≤ (v.n : Int))))) w) : GoC Try.prog F_ref08_three #[.pointer (some ⟨b, 0, none⟩), .int .i64 at_] w R := by
  refine S_ref08_three ?_
  unfold W_ref08_three
  have n2 := h.ok.n2
  refine cond_d (fun h0 => rsize_c h ⟨_, rfl, ?_⟩) (fun h0 => ?_)
  · have e : decide (at_ < IntKind.wrap .i64 ((v.n : Int) - 2)) = decide (0 ≤ at_ ∧ at_ + 3 ≤ (v.n : Int)) := by
      rw [wrap_i64 (by omega) (by omega)]
      congr 1
      apply propext
      omega
    rw [e]
    exact hK
  · rw [decide_eq_false (by omega)] at hK
    exact hK
theorem rhome_c {at_ hm : Int} (h : RX w ow t b v) (ha : 0 ≤ at_ ∧ at_ ≤ 100000) (hK : R (.returned (.bool (decide (mayP v.n at_ hm)))) w) : GoC Try.prog F_ref08_home #[.pointer (some ⟨b, 0, none⟩), .int .i64 at_, .int .i64 hm] w R := by
  refine S_ref08_home ?_
  unfold W_ref08_home
  have n2 := h.ok.n2
  refine cond_d (fun h0 => ?_) (fun h0 => rsize_c h ⟨_, rfl, ?_⟩)
  · rw [decide_eq_false (by unfold mayP; omega)] at hK
    exact hK
  rw [wrap_i64 (x := (v.n : Int) - 1) (by omega) (by omega)]
  refine cond_d (fun h1 => ?_) (fun h1 => ?_)
  · rw [decide_eq_false (by unfold mayP; omega)] at hK
    exact hK
  rw [wrap_i64 (x := hm + 1) (by omega) (by omega), wrap_i64 (x := at_ + 2) (by omega) (by omega)]
  refine cond_d (fun h2 => ?_) (fun h2 => ?_)
  · rw [decide_eq_true (by unfold mayP; omega)] at hK
    exact hK
  · have e : decide (hm > at_ + 2) = decide (mayP v.n at_ hm) := by
      congr 1
      apply propext
      unfold mayP
      omega
    rw [e]
    exact hK
end
/-- A marker of any number. -/
def bI (h : Int) (i : Nat) : UInt8 := UInt8.ofNat (IntKind.wrap .u8 (shrV .i64 h ((8 * i : Nat) : Int))).toNat
def mkI (h : Int) (i : Nat) : List UInt8 := ((List.range 4).map (bI h)).take i ++ (List.replicate 512 (0 : UInt8)).drop i
theorem mkI_len (h : Int) (i : Nat) (hi : i ≤ 4) : (mkI h i).length = 512 := by
  unfold mkI
  rw [List.length_append, List.length_take, List.length_drop, List.length_map, List.length_range, List.length_replicate]
  omega
theorem mkI_step (h : Int) (i : Nat) (hi : i < 4) : (mkI h i).set i (bI h i) = mkI h (i + 1) := by
  unfold mkI
  have e : ((List.range 4).map (bI h)).take (i + 1) = ((List.range 4).map (bI h)).take i ++ [bI h i] := by
    rw [List.take_succ_eq_append_getElem (by simpa using hi)]
    simp
  have e2 : (List.replicate 512 (0 : UInt8)).drop i = (0 : UInt8) :: (List.replicate 512 (0 : UInt8)).drop (i + 1) := by
    rw [List.drop_eq_getElem_cons (by rw [List.length_replicate]; omega), List.getElem_replicate]
  rw [e, e2, List.set_append_right _ _ (by rw [List.length_take, List.length_map, List.length_range]; omega), List.length_take, List.length_map, List.length_range, show i - min i 4 = 0 by omega, List.set_cons_zero, List.append_assoc]
  rfl
theorem bI_nat (h i : Nat) (hi : i < 4) : bI (h : Int) i = UInt8.ofNat (h / 256 ^ i % 256) := by
  unfold bI
  rw [shrV_nat (by simp only [IntKind.bits]; omega), u8_mod, Int.toNat_natCast, Nat.pow_mul]
theorem mkI_nat (h : Nat) : ∀ i, i ≤ 4 → mkI (h : Int) i = mkB h i
  | 0, _ => rfl
  | i + 1, hi => by rw [← mkI_step _ _ (by omega), ← mkB_step _ _ (by omega), mkI_nat h i (by omega), bI_nat _ _ (by omega)]
theorem bI_val (h : Int) (i : Nat) : Value.int .u8 (IntKind.wrap .u8 (shrV .i64 h ((8 * i : Nat) : Int))) = bv (bI h i) := by
  unfold bI
  generalize shrV .i64 h ((8 * i : Nat) : Int) = x
  have e : IntKind.wrap .u8 x = x % 256 := by simp [IntKind.wrap, IntKind.signed, IntKind.bits]
  rw [e]
  clear e
  rw [show x % 256 = (((x % 256).toNat : Nat) : Int) by omega, Int.toNat_natCast]
  exact bv_of (by omega)
set_option maxRecDepth 100000 in
theorem marker_c {w : World} {h : Int} {x : UInt8} {R : Ending → World → Prop} (hK : ∀ b w', Sl w' T_uint8 1 (some ⟨b, 0, none⟩) 512 512 (bvs ((mkI h 4).set 511 x)) → Kp no w w' → w.heap.size ≤ b → R (.returned (.slice (some ⟨b, 0, none⟩) 512 512)) w') :
    GoC Try.prog F_ref08_marker #[.int .i64 h, .int .u8 (x.toNat : Int)] w R := by
  refine S_ref08_marker ?_
  unfold W_ref08_marker
  refine make_u8 (n := 512) (by omega) fun b w1 cur hb hcur k1 hbe => ⟨_, _, _, rfl, ?_⟩
  have B0 : Bb w1 (fun _ => 0) 0 b (mkI h 0) := ⟨⟨cur, hb, hcur⟩, rfl⟩
  refine loopN (fun st w' => ∃ k : Nat, k ≤ 4 ∧ st.1 = (k : Int) ∧ Kp no w w' ∧ Bb w' (fun _ => 0) 0 b (mkI h k)) (fun st _ => 4 - st.1.toNat) ⟨0, by omega, rfl, k1, B0⟩ ?_
  rintro ⟨k0, u⟩ w2 ⟨k, hk, hk0, k2, B2⟩ _
  dsimp only at hk0 ⊢
  subst hk0
  have hl := mkI_len h k hk
  refine cond_d (fun hlt => ?_) (fun hge => ?_)
  · have m8 : IntKind.wrap .u64 (IntKind.wrap .i64 (8 * (k : Int))) = ((8 * k : Nat) : Int) := by rw [wrap_i64 (by omega) (by omega), wrap_u64 (by omega) (by omega)]; omega
    have mj : IntKind.wrap .i64 ((k : Int) + 1) = ((k + 1 : Nat) : Int) := wk8 (n := 20) (by omega) (by omega)
    rw [m8, mj, bI_val]
    refine ⟨by omega, by omega, by omega, _, rfl, ?_⟩
    refine B2.st (i := k) (by omega) (by rw [Int.toNat_natCast, add_at, Nat.zero_add]) fun w3 B3 k3 => ?_
    rw [mkI_step _ _ (by omega)] at B3
    exact ⟨⟨k + 1, by omega, rfl, kp_blk k2 (by omega) k3, B3⟩, by simp only [Int.toNat_natCast]; omega⟩
  · have hk4 : k = 4 := by omega
    subst hk4
    refine ⟨by omega, by omega, _, rfl, ?_⟩
    show StF w2 _ (bv x) _
    refine B2.st (i := 511) (by omega) (by rw [add_at, Nat.zero_add]; rfl) fun w3 B3 k3 => ?_
    exact hK b w3 (B3.sl (by rw [List.length_set]; exact hl)) (kp_blk k2 (by omega) k3) (by omega)

/-- Deeds. -/
def deedR (v : Dv) (p : Int × List UInt8) : Nat × Dv := if p.2.length = 0 then v.sync else v.write p.1 p.2
def doesL : Dv → List (Int × List UInt8) → Nat × Dv
  | v, [] => (0, v)
  | v, p :: r => if (deedR v p).1 ≠ 0 then deedR v p else doesL (deedR v p).2 r
theorem deedR_sm {v : Dv} {p : Int × List UInt8} {m : Nat} (h : v.Sm m) : (deedR v p).2.Sm (m + 1) := by
  unfold deedR
  split
  · exact (Dv.sync_sm h).mono (by omega)
  · exact Dv.write_sm h
theorem does_put : ∀ (l : List (List UInt8)) {v : Dv} {i : Int} {r : List (Int × List UInt8)}, (∀ b ∈ l, b.length = 512) →
    doesL v (zipI i l ++ (0, []) :: r) = if (putL v i l).1 ≠ 0 then putL v i l else doesL (putL v i l).2 r
  | [], v, i, r, _ => rfl
  | x :: l, v, i, r, h => by
    have hx := h x (by simp)
    rw [zipI, List.cons_append, doesL, putL]
    have e : deedR v (i, x) = v.write i x := by unfold deedR; rw [if_neg (by show ¬ x.length = 0; omega)]
    rw [e]
    by_cases hw : (v.write i x).1 ≠ 0
    · rw [if_pos hw, if_pos hw, if_pos hw]
    · rw [if_neg hw, if_neg hw]
      exact does_put l fun b hb => h b (by simp [hb])
theorem putL_self {p : Nat × Dv} : (if p.1 ≠ 0 then p else (0, p.2)) = p := by
  by_cases h : p.1 = 0
  · rw [if_neg (fun hh => hh h)]
    cases p
    dsimp only at h
    subst h
    rfl
  · rw [if_pos h]

set_option maxHeartbeats 1000000 in
theorem does_c {w : World} {ow : Nat → Nat} {u b l c : Nat} {v : Dv} {a : Option Addr} {D : List PD} {R : Ending → World → Prop} (h : RX w ow u b v) (hs : v.Sm 800000) (hl : D.length = l) (hl2 : l ≤ 100) (hd : RdT w ow (Td u) a (fP D)) (hb : ∀ x ∈ D, Bs w ow u x.a x.bs)
    (hK : ∀ w' ow', RX w' ow' u b (doesL v (D.map PD.v)).2 → Fro (Td u) w ow w' ow' → R (.returned (.int .i64 ((doesL v (D.map PD.v)).1 : Int))) w') :
    GoC Try.prog F_ref08_does #[.pointer (some ⟨b, 0, none⟩), .slice a l c] w R := by
  refine S_ref08_does ?_
  unfold W_ref08_does
  subst hl
  refine loopN (fun st w' => ∃ k : Nat, k ≤ D.length ∧ st.1 = (k : Int) ∧ ∃ v' ow', RX w' ow' u b v' ∧ v'.Sm (800000 + k) ∧ Fro (Td u) w ow w' ow' ∧ doesL v (D.map PD.v) = doesL v' ((D.drop k).map PD.v)) (fun st _ => D.length - st.1.toNat)
    ⟨0, by omega, rfl, v, ow, h, hs, ⟨Kp.refl _ _, fun _ _ _ => rfl⟩, rfl⟩ ?_
  rintro ⟨k0, z⟩ w1 ⟨k, hk, hk0, v', ow1, h1, sm1, f1, e1⟩ _
  dsimp only at hk0 ⊢
  subst hk0
  refine cond_d (fun hlt => ?_) (fun hge => ?_)
  · have hkl : k < D.length := by omega
    have mj : IntKind.wrap .i64 ((k : Int) + 1) = ((k + 1 : Nat) : Int) := wk8 (n := 200) (by omega) (by omega)
    rw [mj]
    have kd : Kp no w1 w1.drew := Kp.drew w1 1
    have hd1 := (hd.fr f1 fun _ hu => hu).rd
    obtain ⟨ba, bo, ha, c0', c1'⟩ := pdA hd1 hkl
    subst ha
    have hB := (hb _ (List.getElem_mem hkl)).fr f1 fun _ hu => hu
    rw [List.drop_eq_getElem_cons hkl, List.map_cons, doesL] at e1
    have smn := deedR_sm (p := PD.v D[k]) sm1
    refine ⟨by omega, by omega, _, rfl, _, _, _, by rw [Int.toNat_natCast]; exact c1', ?_⟩
    have nxt : ∀ w2 ow2, RX w2 ow2 u b (deedR v' (PD.v D[k])).2 → Fro (Td u) w ow w2 ow2 → cond ((((deedR v' (PD.v D[k])).1 : Nat) : Int) != 0) (R (.returned (.int .i64 ((deedR v' (PD.v D[k])).1 : Int))) w2) ((∃ k' : Nat, k' ≤ D.length ∧ ((k + 1 : Nat) : Int) = (k' : Int) ∧ ∃ v' ow', RX w2 ow' u b v' ∧ v'.Sm (800000 + k') ∧ Fro (Td u) w ow w2 ow' ∧ doesL v (D.map PD.v) = doesL v' ((D.drop k').map PD.v)) ∧ D.length - Int.toNat ((k + 1 : Nat) : Int) < D.length - Int.toNat (k : Int)) := fun w2 ow2 h2 f2 => by
      refine cond_ne (fun hne => ?_) (fun he => ?_)
      · rw [if_pos (by omega)] at e1
        rw [e1] at hK
        exact hK w2 ow2 h2 f2
      · rw [if_neg (by omega)] at e1
        exact ⟨⟨k + 1, by omega, rfl, _, ow2, h2, smn, f2, e1⟩, by simp only [Int.toNat_natCast]; omega⟩
    refine cond_eq (fun h0 => ?_) (fun h0 => ?_)
    · have e : deedR v' (PD.v D[k]) = v'.sync := by unfold deedR; rw [if_pos (by show (D[k]).bs.length = 0; omega)]
      rw [e] at nxt
      exact rsync_c h1 (by have := sm1.q; omega) sm1.k fun w2 ow2 h2 f2 => ⟨_, rfl, nxt w2 ow2 h2 (f1.trans f2)⟩
    · have e : deedR v' (PD.v D[k]) = v'.write (D[k]).sec (D[k]).bs := by unfold deedR; rw [if_neg (by show ¬ (D[k]).bs.length = 0; omega)]; rfl
      rw [e] at nxt
      have d0 := kd.cell c0' id
      have d1 := kd.cell c1' id
      refine ⟨by omega, by omega, _, rfl, _, by rw [Int.toNat_natCast]; exact d0, by omega, by omega, _, rfl, _, _, _, by rw [Int.toNat_natCast]; exact d1, ?_⟩
      refine rwrite_c (h1.kp0 kd) (hB.fr (Fro.kp0 kd |>.mono fun x (_ : Td u x) => trivial) fun _ hu => hu) rfl (by have := sm1.q; omega) sm1.k fun w2 ow2 h2 f2 => ⟨_, rfl, nxt w2 ow2 h2 ?_⟩
      exact (f1.trans ((Fro.kp0 kd).mono fun x _ => trivial)).trans f2
  · have hkn : k = D.length := by omega
    subst hkn
    rw [List.drop_length] at e1
    rw [e1] at hK
    exact hK w1 ow1 h1 f1
end Go.Proofs.Ytalkkhocljehfaa

/- Layer 8, the document's Write, Finish, Read. Conditions: the disk's queue and its loss's list are short. -/
set_option linter.unusedVariables false
set_option linter.unusedSimpArgs false
namespace Go.Proofs.Ytalkkhocljehfaa
open Go Go.RowKit

theorem slB_hi {c l n : Nat} {K : Prop} (h : n ≤ c) (hK : K) : SlB c l none (some (n : Int)) K := ⟨⟨by omega, by omega⟩, trivial, hK⟩
theorem slB_lo {c l n : Nat} {K : Prop} (h : n ≤ l) (hK : K) : SlB c l (some (n : Int)) none K := ⟨trivial, ⟨by omega, by show (n : Int) ≤ (l : Int); omega⟩, hK⟩
theorem Bs.sub {w : World} {ow : Nat → Nat} {t c lo n : Nat} {a : Option Addr} {bs : List UInt8} (h : Bs w ow t a bs) (hlo : lo < bs.length) (hc : lo < c) : Bs w ow t (subA a c lo 1) ((bs.drop lo).take n) :=
  ⟨h.rd.sub hlo hc, by rw [List.length_take, List.length_drop]; have := h.ln; omega, fun hh => by
    have hh2 := h.rd lo (bv (bs[lo]'hlo)) (bvs_get hlo)
    obtain ⟨b', o', ha, _⟩ := hh2
    subst ha
    unfold subA at hh
    rw [if_neg (by omega)] at hh
    cases hh⟩
theorem markI_nat (h : Nat) (x : UInt8) : (mkI (h : Int) 4).set 511 x = markB h x := by rw [mkI_nat h 4 (by omega), mkB_4]
theorem bs_none (w : World) (ow : Nat → Nat) (t : Nat) : Bs w ow t none [] := ⟨fun i v hv => (by simp [bvs] at hv), (by simp), fun _ => rfl⟩
theorem bs_blk {w0 w : World} {ow : Nat → Nat} {t b n : Nat} {bs : List UInt8} (s : Sl w T_uint8 1 (some ⟨b, 0, none⟩) n n (bvs bs)) (hge : w0.heap.size ≤ b) (hl : bs.length ≤ 100000) : Bs w (ext ow w0.heap.size (t + 5)) t (some ⟨b, 0, none⟩) bs := by
  refine ⟨fun i v hv => ?_, by omega, fun h => by cases h⟩
  obtain ⟨b', o, ha, hc⟩ := s.rd i v hv
  cases ha
  exact ⟨b, 0, rfl, hc, by rw [ext_new hge]; exact ⟨by omega, by omega, by omega⟩⟩

set_option maxRecDepth 100000 in
set_option maxHeartbeats 2000000 in
theorem rwrite8_c {w : World} {ow : Nat → Nat} {u b l c : Nat} {v : Dv} {at_ hm : Int} {a : Option Addr} {bs : List UInt8} {R : Ending → World → Prop} (h : RX w ow u b v) (hs : v.Sm 700000) (hr : Bs w ow u a bs) (hl : bs.length = l) (hc : l ≤ c)
    (hK : ∀ w' ow', RX w' ow' u b (writeR v at_ hm bs).2 → Fro (Td u) w ow w' ow' → R (.returned (.int .i64 ((writeR v at_ hm bs).1 : Int))) w') :
    GoC Try.prog F_ref08_Write #[.pointer (some ⟨b, 0, none⟩), .int .i64 at_, .int .i64 hm, .slice a l c] w R := by
  subst hl
  refine S_ref08_Write ?_
  unfold W_ref08_Write
  have n2 := h.ok.n2
  have f0 : Fro (Td u) w ow w ow := ⟨Kp.refl _ _, fun _ _ _ => rfl⟩
  have stop : ∀ e : Nat, writeR v at_ hm bs = (e, v) → R (.returned (.int .i64 (e : Int))) w := fun e he => by
    have := hK w ow
    rw [he] at this
    exact this h f0
  refine NilF.intro rfl ⟨_, rgone h, cond_b (fun hd => stop 40 (by unfold writeR; rw [if_pos hd])) (fun hd => ?_)⟩
  refine rthree_c h ⟨_, rfl, cond_not (cond_d (fun hth => ?_) (fun hth => stop 4 (by unfold writeR; rw [if_neg (by simp [hd]), if_pos (fun hh => hth hh.1)])))⟩
  refine rhome_c h (by omega) ⟨_, rfl, cond_not (cond_d (fun hmay => ?_) (fun hmay => stop 4 (by unfold writeR; rw [if_neg (by simp [hd]), if_pos (fun hh => hmay hh.2)])))⟩
  refine cond_ne (fun hne => stop 42 (by unfold writeR; rw [if_neg (by simp [hd]), if_neg (fun hh => hh ⟨hth, hmay⟩), if_pos (by omega)])) (fun hl0 => ?_)
  have hl : bs.length = 1024 := by omega
  have e0 : writeR v at_ hm bs = if (putL v (at_ + 1) (chunkL 2 bs)).1 ≠ 0 then putL v (at_ + 1) (chunkL 2 bs)
      else if (putL (putL v (at_ + 1) (chunkL 2 bs)).2 at_ [markB hm.toNat 165]).1 ≠ 0 then putL (putL v (at_ + 1) (chunkL 2 bs)).2 at_ [markB hm.toNat 165]
      else if (putL (putL (putL v (at_ + 1) (chunkL 2 bs)).2 at_ [markB hm.toNat 165]).2 hm (chunkL 2 bs)).1 ≠ 0 then putL (putL (putL v (at_ + 1) (chunkL 2 bs)).2 at_ [markB hm.toNat 165]).2 hm (chunkL 2 bs)
      else putL (putL (putL (putL v (at_ + 1) (chunkL 2 bs)).2 at_ [markB hm.toNat 165]).2 hm (chunkL 2 bs)).2 at_ [markB hm.toNat 0] := by
    unfold writeR
    rw [if_neg (by simp [hd]), if_neg (fun hh => hh ⟨hth, hmay⟩), if_neg (fun hh => hh hl)]
  unfold mayP at hmay
  have hmn : hm = ((hm.toNat : Nat) : Int) := by omega
  refine slB_hi (n := 512) (by omega) (slB_lo (n := 512) (by omega) ?_)
  refine marker_c (x := 165) fun b3 w3 s3 k3 hb3 => ⟨_, _, _, rfl, ?_⟩
  refine marker_c (x := 0) fun b4 w4 s4 k4 hb4 => ⟨_, _, _, rfl, ?_⟩
  rw [hmn, markI_nat] at s3 s4
  refine AlF.intro fun b5 w5 hb5e hb5 k5 _ => ?_
  have kw : Kp no w w5 := (k3.trans0 k4).trans0 k5
  have f5 : Fro (fun _ => True) w ow w5 (ext ow w.heap.size (u + 5)) := Fro.of_kp0 (u + 5) kw
  have h5 := h.fr f5 trivial trivial trivial trivial
  have r5 := hr.fr f5 fun _ _ => trivial
  have m3 := bs_blk (ow := ow) (t := u) ((s3.kp0 k4).kp0 k5) hb3 (by rw [markB_len]; omega)
  have m4 := bs_blk (w0 := w) (ow := ow) (t := u) (s4.kp0 k5) (by have := k3.size; omega) (by rw [markB_len]; omega)
  have t5 : ext ow w.heap.size (u + 5) b5 = u + 5 := ext_new (by have := k3.size; have := k4.size; omega)
  have F5 : Fro (Td u) w ow w5 (ext ow w.heap.size (u + 5)) := f5.mono fun _ _ => trivial
  generalize ext ow w.heap.size (u + 5) = ow5 at *
  have one5 := r5.sub (c := c) (lo := 0) (n := 512) (by omega) (by omega)
  have two5 := r5.sub (c := c) (lo := 512) (n := 512) (by omega) (by omega)
  rw [List.drop_zero] at one5
  have l1 : (bs.take 512).length = 512 := by rw [List.length_take]; omega
  have l2 : ((bs.drop 512).take 512).length = 512 := by rw [List.length_take, List.length_drop]; omega
  have m1 : IntKind.wrap .i64 (at_ + 1) = at_ + 1 := wrap_i64 (by omega) (by omega)
  have m2 : IntKind.wrap .i64 (at_ + 2) = at_ + 1 + 1 := by rw [wrap_i64 (by omega) (by omega)]; omega
  have mh : IntKind.wrap .i64 (hm + 1) = hm + 1 := wrap_i64 (by omega) (by omega)
  rw [m1, m2, mh] at hb5
  obtain ⟨D, hD⟩ : ∃ D : List PD, D = [⟨at_ + 1, subA a c 0 1, c, bs.take 512⟩, ⟨at_ + 1 + 1, subA a c 512 1, c - 512, (bs.drop 512).take 512⟩, ⟨0, none, 0, []⟩, ⟨at_, some ⟨b3, 0, none⟩, 512, markB hm.toNat 165⟩, ⟨0, none, 0, []⟩,
      ⟨hm, subA a c 0 1, c, bs.take 512⟩, ⟨hm + 1, subA a c 512 1, c - 512, (bs.drop 512).take 512⟩, ⟨0, none, 0, []⟩, ⟨at_, some ⟨b4, 0, none⟩, 512, markB hm.toNat 0⟩, ⟨0, none, 0, []⟩] := ⟨_, rfl⟩
  have eD : Rd w5 (some ⟨b5, 0, none⟩) (fP D) := by
    refine rd_cells hb5 ?_
    subst hD
    simp only [fP, flatV, PD.cs, l1, l2, markB_len, List.length_nil, List.cons_append, List.nil_append, show Int.toNat 512 = 512 from rfl, hl]
  have rD : RdT w5 ow5 (Td u) (some ⟨b5, 0, none⟩) (fP D) := fun i x hx => by
    obtain ⟨b', o', ha, hcell⟩ := eD i x hx
    cases ha
    exact ⟨b5, 0, rfl, hcell, by rw [t5]; exact ⟨by omega, by omega, by omega⟩⟩
  have bD : ∀ x ∈ D, Bs w5 ow5 u x.a x.bs := fun x hx => by
    subst hD
    simp only [List.mem_cons, List.not_mem_nil, or_false] at hx
    rcases hx with rfl | rfl | rfl | rfl | rfl | rfl | rfl | rfl | rfl | rfl
    · exact one5
    · exact two5
    · exact bs_none _ _ _
    · exact m3
    · exact bs_none _ _ _
    · exact one5
    · exact two5
    · exact bs_none _ _ _
    · exact m4
    · exact bs_none _ _ _
  have eq : doesL v (D.map PD.v) = writeR v at_ hm bs := by
    have hb2 : ∀ b ∈ chunkL 2 bs, b.length = 512 := fun b hb => by
      simp only [chunkL, List.mem_cons, List.not_mem_nil, or_false] at hb
      rcases hb with rfl | rfl
      · exact l1
      · exact l2
    have hb1 : ∀ x : UInt8, ∀ b ∈ [markB hm.toNat x], b.length = 512 := fun x b hb => by
      rw [List.mem_singleton] at hb
      rw [hb, markB_len]
    have e : D.map PD.v = zipI (at_ + 1) (chunkL 2 bs) ++ (0, []) :: (zipI at_ [markB hm.toNat 165] ++ (0, []) :: (zipI hm (chunkL 2 bs) ++ (0, []) :: (zipI at_ [markB hm.toNat 0] ++ (0, []) :: []))) := by
      subst hD
      rfl
    rw [e, does_put _ hb2, does_put _ (hb1 _), does_put _ hb2, does_put _ (hb1 _), doesL, putL_self, e0]
  refine does_c (D := D) (l := 10) h5 (hs.mono (by omega)) (by rw [hD]; rfl) (by omega) rD bD fun w6 ow6 h6 f6 => ⟨_, rfl, ?_⟩
  rw [eq] at h6 ⊢
  exact hK w6 ow6 h6 (F5.trans f6)

theorem rread8_c {w : World} {ow : Nat → Nat} {u b : Nat} {v : Dv} {i : Int} {R : Ending → World → Prop} (h : RX w ow u b v) (hs : v.Sm 1000000)
    (hK : ∀ a' l' c' w', Kp no w w' → Sl w' T_uint8 1 a' l' c' (bvs (readR v i).2) → Fresh w a' → R (.returned (.tuple #[.slice a' l' c', .int .i64 ((readR v i).1 : Int)])) w') :
    GoC Try.prog F_ref08_Read #[.pointer (some ⟨b, 0, none⟩), .int .i64 i] w R := by
  refine S_ref08_Read ?_
  unfold W_ref08_Read
  have hok := h.ok
  have n2 := hok.n2
  have stop : ∀ e : Nat, readR v i = (e, []) → R (.returned (.tuple #[.slice none 0 0, .int .i64 (e : Int)])) w := fun e he => by
    have := hK none 0 0 w (Kp.refl _ _)
    rw [he] at this
    exact this (Sl.nil _ _ _) (fresh_nil w)
  refine NilF.intro rfl ⟨_, rgone h, cond_b (fun hd => stop 40 (by unfold readR; rw [if_pos hd])) (fun hd => ?_)⟩
  refine cond_d (fun h0 => stop 4 (by unfold readR; rw [if_neg (by simp [hd]), if_pos (by omega)])) (fun h0 => rsize_c h ⟨_, rfl, ?_⟩)
  rw [wrap_i64 (x := (v.n : Int) - 1) (by omega) (by omega)]
  refine cond_d (fun h1 => stop 4 (by unfold readR; rw [if_neg (by simp [hd]), if_pos (by omega)])) (fun h1 => ?_)
  have e0 : readR v i = (0, (v.read i).1 ++ (v.read (i + 1)).1) := by unfold readR; rw [if_neg (by simp [hd]), if_neg (fun hh => hh ⟨by omega, by omega⟩)]
  rw [e0] at hK
  obtain ⟨r1, q1⟩ := hok.read_at hd (i := i) (by omega) (by omega)
  obtain ⟨r2, q2⟩ := hok.read_at hd (i := i + 1) (by omega) (by omega)
  rw [wrap_i64 (x := i + 1) (by omega) (by omega)]
  refine rread_c h hs.q fun a1 l1 c1 w2 k2 s2 f2 => ⟨_, _, _, _, rfl, ?_⟩
  refine rread_c (h.kp0 k2) hs.q fun a2 l2 c2 w3 k3 s3 f3 => ⟨_, _, _, _, rfl, ?_⟩
  have e1 := s2.ln
  have e2 := s3.ln
  refine append_own er_u8 (s2.kp0 k3) s3.rd (by rw [bvs_len]; omega) (sl_some' s3) bvs_one (by omega) (by omega) fun a4 c4 w4 s4 k4 i4 _ _ => ⟨_, _, _, rfl, ?_⟩
  rw [← bvs_app] at s4
  have kw4 : Kp no w w4 := (k2.trans0 k3).trans k4 (fun _ _ h => h) fun j hj hh => by have := f2 j hh; omega
  exact hK _ _ _ w4 kw4 s4 fun j hj => by
    rcases i4 j hj with hh | hh
    · exact f2 j hh
    · have := k2.size
      have := k3.size
      omega
end Go.Proofs.Ytalkkhocljehfaa

/- Layer 8, the document's Finish. Conditions: the disk's queue and its loss's list are short. -/
set_option linter.unusedVariables false
set_option linter.unusedSimpArgs false
namespace Go.Proofs.Ytalkkhocljehfaa
open Go Go.RowKit

/-- A marker is one that stands just if its last byte says so and no byte is odd. -/
theorem leB8_leN : ∀ l : List UInt8, leB8 l.length (leN l) = l
  | [] => rfl
  | c :: r => by
    have hc := u8_lt c
    have h1 : (c.toNat + 256 * leN r) % 256 = c.toNat := by omega
    have h2 : (c.toNat + 256 * leN r) / 256 = leN r := by omega
    rw [List.length_cons, leB8, leN, h1, h2, leB8_leN r]
    congr 1
    simp
theorem zeros_of {l : List UInt8} (h : l.any (fun x => decide (x.toNat ≠ 0)) = false) : l = List.replicate l.length 0 := by
  rw [List.eq_replicate_iff]
  refine ⟨rfl, fun x hx => ?_⟩
  rw [List.any_eq_false] at h
  have := h x hx
  have hz : x.toNat = 0 := by
    by_cases e : x.toNat = 0
    · exact e
    · exact absurd (by simpa using e) this
  exact UInt8.toNat_inj.1 (by rw [hz]; rfl)
theorem mark_iff {m : List UInt8} (hm : m.length = 512) : m = markB (finH m) 165 ↔ (m.getD 511 0).toNat = 165 ∧ finOdd m = false := by
  constructor
  · intro h
    rw [h]
    have hl := leN_lt (m.take 4)
    rw [List.length_take, Nat.min_eq_left (by omega)] at hl
    exact ⟨by rw [markB_511]; rfl, finOdd_mark _ _⟩
  · rintro ⟨h1, h2⟩
    have e4 : leB8 4 (finH m) = m.take 4 := by
      have := leB8_leN (m.take 4)
      rw [List.length_take, Nat.min_eq_left (by omega)] at this
      exact this
    have e5 : (m.drop 4).take 507 = List.replicate 507 0 := by
      have := zeros_of h2
      rw [List.length_take, List.length_drop, show min 507 (m.length - 4) = 507 by omega] at this
      exact this
    have e6 : m.drop 511 = [165] := by
      rw [List.drop_eq_getElem_cons (by omega), List.drop_eq_nil_of_le (by omega)]
      congr 1
      rw [List.getD_eq_getElem?_getD, List.getElem?_eq_getElem (by omega)] at h1
      exact UInt8.toNat_inj.1 h1
    unfold markB
    rw [e4, ← e5, ← e6]
    have : m.drop 511 = (m.drop 4).drop 507 := by rw [List.drop_drop]
    rw [this, List.take_append_drop, List.take_append_drop]

theorem bs_fresh {w0 w : World} {ow : Nat → Nat} {t l c : Nat} {a : Option Addr} {bs : List UInt8} (s : Sl w T_uint8 1 a l c (bvs bs)) (hf : Fresh w0 a) (hl : bs.length ≤ 100000) : Bs w (ext ow w0.heap.size (t + 5)) t a bs := by
  refine ⟨fun i v hv => ?_, by omega, fun h => by have := sl_some' s h; have := s.ln; omega⟩
  obtain ⟨b', o, ha, hc⟩ := s.rd i v hv
  exact ⟨b', o, ha, hc, by rw [ext_new (hf b' ⟨_, ha, rfl⟩)]; exact ⟨by omega, by omega, by omega⟩⟩
set_option maxRecDepth 100000 in
set_option maxHeartbeats 4000000 in
theorem rfinish8_c {w : World} {ow : Nat → Nat} {u b : Nat} {v : Dv} {at_ : Int} {R : Ending → World → Prop} (h : RX w ow u b v) (hs : v.Sm 700000)
    (hK : ∀ w' ow', RX w' ow' u b (finR v at_).2 → Fro (Td u) w ow w' ow' → R (.returned (.tuple #[.bool (finR v at_).1.1, .int .i64 ((finR v at_).1.2 : Int)])) w') :
    GoC Try.prog F_ref08_Finish #[.pointer (some ⟨b, 0, none⟩), .int .i64 at_] w R := by
  refine S_ref08_Finish ?_
  unfold W_ref08_Finish
  have hok := h.ok
  have n2 := hok.n2
  have f0 : Fro (Td u) w ow w ow := ⟨Kp.refl _ _, fun _ _ _ => rfl⟩
  have stopF : ∀ (e : Nat) (w' : World), Kp no w w' → finR v at_ = ((false, e), v) → R (.returned (.tuple #[.bool false, .int .i64 (e : Int)])) w' := fun e w' k he => by
    have := hK w' ow
    rw [he] at this
    exact this (h.kp0 k) ((Fro.kp0 k).mono fun _ _ => trivial)
  refine NilF.intro rfl ⟨_, rgone h, cond_b (fun hd => stopF 40 w (Kp.refl _ _) (by unfold finR; rw [if_pos hd])) (fun hd => ?_)⟩
  refine rthree_c h ⟨_, rfl, cond_not (cond_d (fun hth => ?_) (fun hth => stopF 4 w (Kp.refl _ _) (by unfold finR; rw [if_neg (by simp [hd]), if_pos hth])))⟩
  obtain ⟨r0, q0⟩ := hok.read_at hd (i := at_) hth.1 (by omega)
  obtain ⟨r1, q1⟩ := hok.read_at hd (i := at_ + 1) (by omega) (by omega)
  obtain ⟨r2, q2⟩ := hok.read_at hd (i := at_ + 2) (by omega) (by omega)
  have e0 : finR v at_ = finS v at_ (v.read at_).1 (v.read (at_ + 1)).1 (v.read (at_ + 2)).1 := by unfold finR; rw [if_neg (by simp [hd]), if_neg (fun hh => hh hth)]
  refine rread_c h (by have := hs.q; omega) fun a1 l1 c1 w2 k2 s2 f2 => ⟨_, _, _, _, rfl, ?_⟩
  have e1 := s2.ln
  have hl1 : l1 = 512 := by omega
  subst hl1
  generalize hm : (v.read at_).1 = m at *
  have g511 : m.getD 511 0 = m[511] := by rw [List.getD_eq_getElem?_getD, List.getElem?_eq_getElem (by omega)]; rfl
  have hG : finG m v.n at_ ↔ m = markB (finH m) 165 ∧ mayP v.n at_ (finH m : Int) := by
    unfold finG
    rw [mark_iff q0, and_assoc]
  unfold finS at e0
  have g511' := g511
  rw [g511] at e0
  refine s2.rd.idx (by omega) (by omega) (by rw [bvs_len]; omega) fun bm om ha hc => ?_
  subst ha
  have c511 : w2.cell? (Addr.add ⟨bm, om, none⟩ (Int.toNat 511)) = some (.int .u8 ((m[511]).toNat : Int)) := by
    rw [add_at]
    exact hc 511 _ (bvs_get (by omega))
  refine ⟨_, c511, cond_eq (fun hz => stopF 0 w2 k2 (by rw [e0, if_pos (by omega)])) (fun hz => ?_)⟩
  rw [if_neg (by omega)] at e0
  refine loopN (fun st w' => w' = w2 ∧ ∃ j : Nat, j ≤ 4 ∧ st.2.1 = (j : Int) - 1 ∧ st.1 = ((leN ((m.take 4).drop j) : Nat) : Int)) (fun st _ => (st.2.1 + 1).toNat) ⟨rfl, 4, by omega, rfl, by rw [List.drop_eq_nil_of_le (by rw [List.length_take]; omega)]; rfl⟩ ?_
  rintro ⟨hh0, j0, z⟩ w3 ⟨hw3, j, hj, hj0, hn⟩ _
  dsimp only at hj0 hn ⊢
  subst hw3 hj0 hn
  refine cond_d (fun hge => ?_) (fun hlt => ?_)
  · have mj : IntKind.wrap .i64 ((j : Int) - 1 - 1) = ((j - 1 : Nat) : Int) - 1 := by rw [wrap_i64 (by omega) (by omega)]; omega
    have hb := u8_lt (m[j - 1]'(by omega))
    have hlt4 := leN_lt ((m.take 4).drop j)
    rw [List.length_drop, List.length_take, Nat.min_eq_left (by omega)] at hlt4
    have p4 : 256 ^ (4 - j) ≤ 256 ^ 3 := Nat.pow_le_pow_right (by omega) (by omega)
    have ej : (j : Int) - 1 = ((j - 1 : Nat) : Int) := by omega
    rw [mj, wrap_i64 (x := ((m[j - 1]'(by omega)).toNat : Int)) (by omega) (by omega) |> fun _ => ej]
    refine ⟨by omega, by omega, by omega, _, rfl, ⟨((m[j - 1]'(by omega)).toNat : Int), by rw [Int.toNat_natCast, add_at]; exact hc (j - 1) _ (bvs_get (by omega)), ?_⟩⟩
    rw [wrap_i64 (x := ((m[j - 1]'(by omega)).toNat : Int)) (by omega) (by omega)]
    refine ⟨⟨rfl, j - 1, by omega, rfl, ?_⟩, by omega⟩
    have e8 : shlV .i64 ((leN ((m.take 4).drop j) : Nat) : Int) 8 = ((leN ((m.take 4).drop j) * 2 ^ 8 : Nat) : Int) := shlV_i64 (s := 8) (by omega) (by omega)
    rw [e8, orV_i64 (by omega) (by omega), Nat.or_comm, or_shift (by omega), List.drop_eq_getElem_cons (i := j - 1) (by rw [List.length_take]; omega), leN, List.getElem_take, show j - 1 + 1 = j by omega]
    congr 1
    omega
  have hj0 : j = 0 := by omega
  subst hj0
  rw [List.drop_zero]
  have hHd : ((leN (m.take 4) : Nat) : Int) = (finH m : Int) := rfl
  rw [hHd]
  have kd : Kp no w3 w3.drew := Kp.drew w3 1
  have bad : ∀ w', Kp no w3 w' → ¬ finG m v.n at_ → R (.returned (.tuple #[.bool false, .int .i64 84])) w' := fun w' k hg => stopF 84 w' (k2.trans0 k) (by rw [e0, if_pos hg])
  have hH : finH m < 4294967296 := by
    have := leN_lt (m.take 4)
    rw [List.length_take, Nat.min_eq_left (by omega)] at this
    exact this
  refine ⟨fun w' => Kp no w3 w', kd, by omega, by omega, _, rfl, _, fun w hw => hw.cell c511 id, cond_ne (fun hne => ?_) (fun h165 => ?_)⟩
  · have hg : ¬ finG m v.n at_ := fun hg => by
      have := hg.1
      rw [g511] at this
      omega
    exact ⟨bad _ kd hg, bad _ kd hg, bad _ kd hg⟩
  have noteq : ∀ z1 z2 : ByteArray, z1.toList = m → z2.toList = markB (finH m) 165 → (!(z1.toList == z2.toList)) = true → ¬ finG m v.n at_ := fun z1 z2 h1 h2 hne hg => by
    have := (hG.1 hg).1
    rw [h1, h2, ← this, beq_self_eq_true] at hne
    cases hne
  have iseq : ∀ z1 z2 : ByteArray, z1.toList = m → z2.toList = markB (finH m) 165 → (!(z1.toList == z2.toList)) = false → m = markB (finH m) 165 := fun z1 z2 h1 h2 he => by
    rw [h1, h2] at he
    simpa using he
  refine ⟨?_, ?_⟩
  refine conv_c (s2.kp0 kd) fun z1 h1 => ⟨_, rfl, kd, ?_⟩
  refine marker_c (x := 165) fun b4 w4 s4 k4 hb4 => ⟨_, _, _, rfl, kd.trans0 k4, ?_⟩
  rw [markI_nat] at s4
  refine conv_c s4 fun z2 h2 => ⟨_, rfl, kd.trans0 k4, cond_b (fun hne => bad _ (kd.trans0 k4) (noteq _ _ h1 h2 hne)) (fun he => ?_)⟩
  have hmk := iseq _ _ h1 h2 he
  rotate_left
  refine marker_c (x := 165) fun b4 w4 s4 k4 hb4 => ⟨_, _, _, rfl, kd.trans0 k4, ?_, ?_⟩
  rw [markI_nat] at s4
  refine conv_c (s2.kp0 (kd.trans0 k4)) fun z1 h1 => ⟨_, rfl, kd.trans0 k4, ?_⟩
  refine conv_c s4 fun z2 h2 => ⟨_, rfl, kd.trans0 k4, cond_b (fun hne => bad _ (kd.trans0 k4) (noteq _ _ h1 h2 hne)) (fun he => ?_)⟩
  have hmk := iseq _ _ h1 h2 he
  rotate_left
  rw [markI_nat] at s4
  refine conv_c s4 fun z2 h2 => ⟨_, rfl, kd.trans0 k4, ?_⟩
  refine conv_c (s2.kp0 (kd.trans0 k4)) fun z1 h1 => ⟨_, rfl, kd.trans0 k4, cond_b (fun hne => bad _ (kd.trans0 k4) (noteq _ _ h1 h2 hne)) (fun he => ?_)⟩
  have hmk := iseq _ _ h1 h2 he
  all_goals
    have k6 := kd.trans0 k4
    have h4 := h.kp0 (k2.trans0 k6)
    refine rhome_c h4 (by omega) ⟨_, rfl, k6, cond_not (cond_d (fun hmay => ?_) (fun hmay => bad _ k6 (fun hg => hmay (hG.1 hg).2)))⟩
    rw [if_neg (fun hh => hh (hG.2 ⟨hmk, hmay⟩))] at e0
    unfold mayP at hmay
    rw [wrap_i64 (x := at_ + 1) (by omega) (by omega), wrap_i64 (x := at_ + 2) (by omega) (by omega), wrap_i64 (x := (finH m : Int) + 1) (by omega) (by omega)]
    refine rread_c h4 (by have := hs.q; omega) fun a5 l5 c5 w5 k5 s5 f5 => ⟨_, _, _, _, rfl, ?_⟩
    refine rread_c (h4.kp0 k5) (by have := hs.q; omega) fun a6 l6 c6 w6 k7 s6 f6 => ⟨_, _, _, _, rfl, ?_⟩
    refine marker_c (x := 0) fun b8 w8 s8 k8 hb8 => ⟨_, _, _, rfl, ?_⟩
    rw [markI_nat] at s8
    refine AlF.intro fun b9 w9 hb9e hb9 k9 _ => ?_
    have n5 := s5.ln
    have n6 := s6.ln
    have kw : Kp no w4 w9 := ((k5.trans0 k7).trans0 k8).trans0 k9
    have f9 : Fro (fun _ => True) w4 ow w9 (ext ow w4.heap.size (u + 5)) := Fro.of_kp0 (u + 5) kw
    have h9 := h4.fr f9 trivial trivial trivial trivial
    have x9 := bs_fresh (w0 := w4) (ow := ow) (t := u) (((s5.kp0 k7).kp0 k8).kp0 k9) f5 (by omega)
    have y9 := bs_fresh (w0 := w4) (ow := ow) (t := u) ((s6.kp0 k8).kp0 k9) (fun j hj => by have := f6 j hj; have := k5.size; omega) (by omega)
    have m9 := bs_blk (w0 := w4) (ow := ow) (t := u) (s8.kp0 k9) (by have := k5.size; have := k7.size; omega) (by rw [markB_len]; omega)
    have t9 : ext ow w4.heap.size (u + 5) b9 = u + 5 := ext_new (by have := k5.size; have := k7.size; have := k8.size; omega)
    have F9 : Fro (Td u) w ow w9 (ext ow w4.heap.size (u + 5)) := ((Fro.kp0 (ow := ow) (k2.trans0 k6)).mono fun x (_ : Td u x) => trivial).trans (f9.mono fun _ _ => trivial)
    generalize ext ow w4.heap.size (u + 5) = ow9 at *
    have hm0 : m.set 511 0 = markB (finH m) 0 := by
      conv => lhs; rw [hmk]
      exact markB_set _ _ _
    rw [hm0] at e0
    generalize (v.read (at_ + 1)).1 = x at *
    generalize (v.read (at_ + 2)).1 = y at *
    subst n5 n6
    obtain ⟨D, hD⟩ : ∃ D : List PD, D = [⟨(finH m : Int), a5, c5, x⟩, ⟨(finH m : Int) + 1, a6, c6, y⟩, ⟨0, none, 0, []⟩, ⟨at_, some ⟨b8, 0, none⟩, 512, markB (finH m) 0⟩, ⟨0, none, 0, []⟩] := ⟨_, rfl⟩
    have eD : Rd w9 (some ⟨b9, 0, none⟩) (fP D) := by
      refine rd_cells hb9 ?_
      subst hD
      simp only [fP, flatV, PD.cs, markB_len, List.length_nil, List.cons_append, List.nil_append]
    have rD : RdT w9 ow9 (Td u) (some ⟨b9, 0, none⟩) (fP D) := fun i x hx => by
      obtain ⟨b', o', ha, hcell⟩ := eD i x hx
      cases ha
      exact ⟨b9, 0, rfl, hcell, by rw [t9]; exact ⟨by omega, by omega, by omega⟩⟩
    have bD : ∀ x ∈ D, Bs w9 ow9 u x.a x.bs := fun x hx => by
      subst hD
      simp only [List.mem_cons, List.not_mem_nil, or_false] at hx
      rcases hx with rfl | rfl | rfl | rfl | rfl
      · exact x9
      · exact y9
      · exact bs_none _ _ _
      · exact m9
      · exact bs_none _ _ _
    have eq : finR v at_ = ((decide ((doesL v (D.map PD.v)).1 = 0), (doesL v (D.map PD.v)).1), (doesL v (D.map PD.v)).2) := by
      have hb2 : ∀ b ∈ [x, y], b.length = 512 := fun b hb => by
        simp only [List.mem_cons, List.not_mem_nil, or_false] at hb
        rcases hb with rfl | rfl <;> assumption
      have hb1 : ∀ b ∈ [markB (finH m) 0], b.length = 512 := fun b hb => by
        rw [List.mem_singleton] at hb
        rw [hb, markB_len]
      have e : D.map PD.v = zipI (finH m : Int) [x, y] ++ (0, []) :: (zipI at_ [markB (finH m) 0] ++ (0, []) :: []) := by
        subst hD
        rfl
      rw [e, does_put _ hb2, does_put _ hb1, doesL, putL_self, e0]
      generalize putL v (finH m : Int) [x, y] = P
      by_cases hP : P.1 = 0
      · have hP' : ¬ P.1 ≠ 0 := fun hh => hh hP
        rw [if_neg hP']
        generalize putL P.2 at_ [markB (finH m) 0] = Q
        by_cases hQ : Q.1 = 0
        · have hQ' : ¬ Q.1 ≠ 0 := fun hh => hh hQ
          rw [if_neg hQ', if_neg hP', hQ]
          rfl
        · rw [if_pos hQ, if_neg hP', decide_eq_false hQ]
      · rw [if_pos hP, if_pos hP, decide_eq_false hP]
    refine does_c (D := D) (l := 5) h9 (hs.mono (by omega)) (by rw [hD]; rfl) (by omega) rD bD fun w12 ow12 h12 f12 => ⟨_, rfl, ?_⟩
    have hk := hK w12 ow12
    rw [eq] at hk
    have eb : ((((doesL v (D.map PD.v)).1 : Nat) : Int) == 0) = decide ((doesL v (D.map PD.v)).1 = 0) := by
      rw [Bool.eq_iff_iff, beq_iff_eq, decide_eq_true_eq]
      omega
    rw [eb]
    exact hk h12 (F9.trans f12)
end Go.Proofs.Ytalkkhocljehfaa

/- TwinPlays: two disks side by side, and the errors that were handed out. Conditions: none. -/
set_option linter.unusedVariables false
set_option linter.unusedSimpArgs false
namespace Go.Proofs.Ytalkkhocljehfaa
open Go Go.RowKit

theorem er_err : ElemRow Try.prog T_s_error T_error .nilIface 1 16 := elemRow (by kernel_rfl) (by kernel_rfl) rfl
theorem er_str : ElemRow Try.prog T_s_string T_string (.string .empty) 1 16 := elemRow (by kernel_rfl) (by kernel_rfl) rfl
theorem er_int : ElemRow Try.prog T_s_int T_int (.int .i64 0) 1 8 := elemRow (by kernel_rfl) (by kernel_rfl) rfl
/-- An error that was handed out, its call, its number. -/
structure EI where
  v : Value
  z : ByteArray
  n : Int
structure Bo (w : World) (ow : Nat → Nat) (bb p r : Nat) (ea : Option Addr) (ec : Nat) (ca : Option Addr) (cc : Nat) (na : Option Addr) (nc : Nat) (E : List EI) : Prop where
  x : Blk w bb #[.pointer (some ⟨p, 0, none⟩), .pointer (some ⟨r, 0, none⟩), .slice ea E.length ec, .slice ca E.length cc, .slice na E.length nc] T_quotalaw08_Both
  tx : ow bb = 1
  es : SlT w ow T_error 1 ea E.length ec (E.map fun x => x.v) 2
  cs : SlT w ow T_string 1 ca E.length cc (E.map fun x => .string x.z) 3
  ns : SlT w ow T_int 1 na E.length nc (E.map fun x => .int .i64 x.n) 4
  er : ∀ x ∈ E, ErrV w x.v x.z x.n ∧ ∀ b, x.v = .iface T_p_api_Fault (.pointer (some ⟨b, 0, none⟩)) → ow b = 59
theorem ErrV.lt {w : World} {v : Value} {z : ByteArray} {n : Int} (h : ErrV w v z n) {b : Nat} (hb : v = .iface T_p_api_Fault (.pointer (some ⟨b, 0, none⟩))) : b < w.heap.size := by
  rcases h with ⟨_, rfl⟩ | ⟨_, b', rfl, hx⟩
  · cases hb
  · cases hb
    exact hx.lt
section
variable {T : Nat → Prop} {w w' : World} {ow ow' : Nat → Nat} {bb p r ec cc nc : Nat} {ea ca na : Option Addr} {E : List EI}
theorem Bo.fr (h : Bo w ow bb p r ea ec ca cc na nc E) (f : Fro T w ow w' ow') (hT : ∀ u, (1 ≤ u ∧ u ≤ 4) ∨ u = 59 → T u) : Bo w' ow' bb p r ea ec ca cc na nc E := by
  have g := blk_fr h.x h.tx f (hT 1 (by omega))
  refine ⟨g.1, g.2, h.es.fr f (hT 2 (by omega)), h.cs.fr f (hT 3 (by omega)), h.ns.fr f (hT 4 (by omega)), fun x hx => ?_⟩
  obtain ⟨e1, e2⟩ := h.er x hx
  exact ⟨e1.fr (fun b hb => by rw [e2 b hb]; exact hT 59 (by omega)) f, fun b hb => by rw [f.ag b (e1.lt hb) (by rw [e2 b hb]; exact hT 59 (by omega)), e2 b hb]⟩
theorem Bo.kp (h : Bo w ow bb p r ea ec ca cc na nc E) (k : Kp no w w') : Bo w' ow bb p r ea ec ca cc na nc E := h.fr (Fro.kp0 k) fun _ _ => trivial
end
def BoX (w : World) (ow : Nat → Nat) (bb p r : Nat) (E : List EI) : Prop := ∃ ea ec ca cc na nc, Bo w ow bb p r ea ec ca cc na nc E
theorem BoX.fr {T : Nat → Prop} {w w' : World} {ow ow' : Nat → Nat} {bb p r : Nat} {E : List EI} (h : BoX w ow bb p r E) (f : Fro T w ow w' ow') (hT : ∀ u, (1 ≤ u ∧ u ≤ 4) ∨ u = 59 → T u) : BoX w' ow' bb p r E := by
  obtain ⟨ea, ec, ca, cc, na, nc, h⟩ := h
  exact ⟨ea, ec, ca, cc, na, nc, h.fr f hT⟩
theorem BoX.kp {w w' : World} {ow : Nat → Nat} {bb p r : Nat} {E : List EI} (h : BoX w ow bb p r E) (k : Kp no w w') : BoX w' ow bb p r E := h.fr (Fro.kp0 k) fun _ _ => trivial
/-- The two disks' pointers. -/
theorem BoX.p {w : World} {ow : Nat → Nat} {bb p r : Nat} {E : List EI} (h : BoX w ow bb p r E) : w.cell? ⟨bb, 0, none⟩ = some (.pointer (some ⟨p, 0, none⟩)) ∧ w.cell? (Addr.add ⟨bb, 0, none⟩ 1) = some (.pointer (some ⟨r, 0, none⟩)) := by
  obtain ⟨ea, ec, ca, cc, na, nc, h⟩ := h
  exact ⟨h.x.at rfl rfl, h.x.at rfl rfl⟩

def T4 : Nat → Prop := fun u => u ≠ 1 ∧ u ≠ 2 ∧ u ≠ 3 ∧ u ≠ 4
set_option maxRecDepth 100000 in
set_option maxHeartbeats 2000000 in
theorem keep_c {w : World} {ow : Nat → Nat} {bb p r : Nat} {E : List EI} {e : Value} {z : ByteArray} {n : Int} {R : Ending → World → Prop} (h : BoX w ow bb p r E) (hE : E.length ≤ 10000) (he : ErrV w e z n) (ho : ∀ b, e = .iface T_p_api_Fault (.pointer (some ⟨b, 0, none⟩)) → ow b = 59)
    (hK : ∀ w' ow', BoX w' ow' bb p r (E ++ [⟨e, z, n⟩]) → Fro T4 w ow w' ow' → R (.returned (.bool true)) w') : GoC Try.prog F_law08_Both_keep #[.pointer (some ⟨bb, 0, none⟩), e, .string z, .int .i64 n] w R := by
  obtain ⟨ea, ec, ca, cc, na, nc, h⟩ := h
  have one : e.oneCell' = true := by
    rcases he with ⟨_, rfl⟩ | ⟨_, b', rfl, _⟩ <;> rfl
  -- the three lists grow, one behind the other
  have go : ∀ (K : World → Prop), (∀ w9 ow9, BoX w9 ow9 bb p r (E ++ [⟨e, z, n⟩]) → Fro T4 w ow w9 ow9 → ErrV w9 e z n → K w9) →
      NilF (some ⟨bb, 0, none⟩) fun d1 => (∃ (a1 : Option Addr) (l1 c1 : Nat), w.cell? (Addr.add d1 2) = some (.slice a1 l1 c1) ∧ (AlF w (.cells #[e] T_error) fun b1 w1 => (RunF Try.prog (Builtin.append_ #[T_s_error, T_s_error] T_s_error #[(.slice a1 l1 c1), (.slice (some ⟨b1, 0, none⟩) 1 1)]) w1 fun r1 w2 => ∃ (a2 : Option Addr) (l2 c2 : Nat), r1 = (.slice a2 l2 c2) ∧ (NilF (some ⟨bb, 0, none⟩) fun d2 => (StF w2 (Addr.add d2 2) (.slice a2 l2 c2) fun w3 => (NilF (some ⟨bb, 0, none⟩) fun d3 => (∃ (a3 : Option Addr) (l3 c3 : Nat), w3.cell? (Addr.add d3 3) = some (.slice a3 l3 c3) ∧ (AlF w3 (.cells #[(.string z)] T_string) fun b2 w4 => (RunF Try.prog (Builtin.append_ #[T_s_string, T_s_string] T_s_string #[(.slice a3 l3 c3), (.slice (some ⟨b2, 0, none⟩) 1 1)]) w4 fun r2 w5 => ∃ (a4 : Option Addr) (l4 c4 : Nat), r2 = (.slice a4 l4 c4) ∧ (NilF (some ⟨bb, 0, none⟩) fun d4 => (StF w5 (Addr.add d4 3) (.slice a4 l4 c4) fun w6 => (NilF (some ⟨bb, 0, none⟩) fun d5 => (∃ (a5 : Option Addr) (l5 c5 : Nat), w6.cell? (Addr.add d5 4) = some (.slice a5 l5 c5) ∧ (AlF w6 (.cells #[(.int .i64 n)] T_int) fun b3 w7 => (RunF Try.prog (Builtin.append_ #[T_s_int, T_s_int] T_s_int #[(.slice a5 l5 c5), (.slice (some ⟨b3, 0, none⟩) 1 1)]) w7 fun r3 w8 => ∃ (a6 : Option Addr) (l6 c6 : Nat), r3 = (.slice a6 l6 c6) ∧ (NilF (some ⟨bb, 0, none⟩) fun d6 => (StF w8 (Addr.add d6 4) (.slice a6 l6 c6) fun w9 => K w9))))))))))))))))) := fun K hk => by
    have T4' : ∀ {u}, T4 u → u ≠ 1 ∧ u ≠ 2 ∧ u ≠ 3 ∧ u ≠ 4 := fun hu => hu
    refine NilF.intro rfl ⟨_, _, _, cN h.x rfl, ?_⟩
    refine pushT er_err h.es (v := e) one (by omega) (by omega) fun a2 c2 w2 g2 k2 f2 => ?_
    have x2 := blk_fr h.x h.tx f2 (by omega)
    have cs2 := h.cs.fr f2 (by omega)
    have ns2 := h.ns.fr f2 (by omega)
    have er2 : ∀ x ∈ E, ErrV w2 x.v x.z x.n ∧ ∀ b, x.v = .iface T_p_api_Fault (.pointer (some ⟨b, 0, none⟩)) → ext ow w.heap.size 2 b = 59 := fun x hx => by
      obtain ⟨e1, e2⟩ := h.er x hx
      exact ⟨e1.fr (fun b hb => by rw [e2 b hb]; omega) f2, fun b hb => by rw [f2.ag b (e1.lt hb) (by rw [e2 b hb]; omega), e2 b hb]⟩
    have he2 : ErrV w2 e z n ∧ ∀ b, e = .iface T_p_api_Fault (.pointer (some ⟨b, 0, none⟩)) → ext ow w.heap.size 2 b = 59 :=
      ⟨he.fr (fun b hb => by rw [ho b hb]; omega) f2, fun b hb => by rw [f2.ag b (he.lt hb) (by rw [ho b hb]; omega), ho b hb]⟩
    generalize ext ow w.heap.size 2 = ow2 at *
    refine NilF.intro rfl (stb (i := 2) (add1 bb 2) x2.1 x2.2 (by simp) fun w3 x3 f3 _ => ?_)
    have g3 := g2.fr f3 (by omega)
    have cs3 := cs2.fr f3 (by omega)
    have ns3 := ns2.fr f3 (by omega)
    have er3 : ∀ x ∈ E ++ [⟨e, z, n⟩], ErrV w3 x.v x.z x.n ∧ ∀ b, x.v = .iface T_p_api_Fault (.pointer (some ⟨b, 0, none⟩)) → ow2 b = 59 := fun x hx => by
      have go2 : ErrV w2 x.v x.z x.n ∧ ∀ b, x.v = .iface T_p_api_Fault (.pointer (some ⟨b, 0, none⟩)) → ow2 b = 59 := by
        rcases List.mem_append.1 hx with hx | hx
        · exact er2 x hx
        · rw [List.mem_singleton] at hx
          subst hx
          exact he2
      exact ⟨go2.1.fr (fun b hb => by rw [go2.2 b hb]; omega) f3, go2.2⟩
    have F3 : Fro T4 w ow w3 ow2 := (f2.mono fun u hu => (T4' hu).2.1).trans (f3.mono fun u hu => (T4' hu).1)
    refine NilF.intro rfl ⟨_, _, _, cN x3 rfl, ?_⟩
    refine pushT er_str cs3 (v := .string z) rfl (by omega) (by omega) fun a4 c4 w5 g5 k5 f5 => ?_
    have x5 := blk_fr x3 x2.2 f5 (by omega)
    have g5' := g3.fr f5 (by omega)
    have ns5 := ns3.fr f5 (by omega)
    have er5 : ∀ x ∈ E ++ [⟨e, z, n⟩], ErrV w5 x.v x.z x.n ∧ ∀ b, x.v = .iface T_p_api_Fault (.pointer (some ⟨b, 0, none⟩)) → ext ow2 w3.heap.size 3 b = 59 := fun x hx => by
      obtain ⟨e1, e2⟩ := er3 x hx
      exact ⟨e1.fr (fun b hb => by rw [e2 b hb]; omega) f5, fun b hb => by rw [f5.ag b (e1.lt hb) (by rw [e2 b hb]; omega), e2 b hb]⟩
    have F5 : Fro T4 w ow w5 (ext ow2 w3.heap.size 3) := F3.trans (f5.mono fun u hu => (T4' hu).2.2.1)
    generalize ext ow2 w3.heap.size 3 = ow5 at *
    refine NilF.intro rfl (stb (i := 3) (add1 bb 3) x5.1 x5.2 (by simp) fun w6 x6 f6 _ => ?_)
    have g6 := g5'.fr f6 (by omega)
    have cs6 := g5.fr f6 (by omega)
    have ns6 := ns5.fr f6 (by omega)
    have er6 : ∀ x ∈ E ++ [⟨e, z, n⟩], ErrV w6 x.v x.z x.n ∧ ∀ b, x.v = .iface T_p_api_Fault (.pointer (some ⟨b, 0, none⟩)) → ow5 b = 59 := fun x hx => by
      obtain ⟨e1, e2⟩ := er5 x hx
      exact ⟨e1.fr (fun b hb => by rw [e2 b hb]; omega) f6, e2⟩
    have F6 : Fro T4 w ow w6 ow5 := F5.trans (f6.mono fun u hu => (T4' hu).1)
    refine NilF.intro rfl ⟨_, _, _, cN x6 rfl, ?_⟩
    refine pushT er_int ns6 (v := .int .i64 n) rfl (by omega) (by omega) fun a6 c6 w8 g8 k8 f8 => ?_
    have x8 := blk_fr x6 x5.2 f8 (by omega)
    have es8 := g6.fr f8 (by omega)
    have cs8 := cs6.fr f8 (by omega)
    have er8 : ∀ x ∈ E ++ [⟨e, z, n⟩], ErrV w8 x.v x.z x.n ∧ ∀ b, x.v = .iface T_p_api_Fault (.pointer (some ⟨b, 0, none⟩)) → ext ow5 w6.heap.size 4 b = 59 := fun x hx => by
      obtain ⟨e1, e2⟩ := er6 x hx
      exact ⟨e1.fr (fun b hb => by rw [e2 b hb]; omega) f8, fun b hb => by rw [f8.ag b (e1.lt hb) (by rw [e2 b hb]; omega), e2 b hb]⟩
    have F8 : Fro T4 w ow w8 (ext ow5 w6.heap.size 4) := F6.trans (f8.mono fun u hu => (T4' hu).2.2.2)
    generalize ext ow5 w6.heap.size 4 = ow8 at *
    refine NilF.intro rfl (stb (i := 4) (add1 bb 4) x8.1 x8.2 (by simp) fun w9 x9 f9 _ => ?_)
    have ln : (E ++ [(⟨e, z, n⟩ : EI)]).length = E.length + 1 := by simp
    refine hk w9 ow8 ⟨a2, c2, a4, c4, a6, c6, by rw [ln]; exact x9, x8.2, ?_, ?_, ?_, fun x hx => ?_⟩ (F8.trans (f9.mono fun u hu => (T4' hu).1)) (((er8 ⟨e, z, n⟩ (by simp)).1).fr (fun b hb => by rw [(er8 ⟨e, z, n⟩ (by simp)).2 b hb]; omega) f9)
    · rw [ln, List.map_append]
      exact es8.fr f9 (by omega)
    · rw [ln, List.map_append]
      exact cs8.fr f9 (by omega)
    · rw [ln, List.map_append]
      exact g8.fr f9 (by omega)
    · obtain ⟨e1, e2⟩ := er8 x hx
      exact ⟨e1.fr (fun b hb => by rw [e2 b hb]; omega) f9, e2⟩
  have fin : ∀ w9 ow9, BoX w9 ow9 bb p r (E ++ [⟨e, z, n⟩]) → Fro T4 w ow w9 ow9 → ErrV w9 e z n → CallF Try.prog F_law08_told #[e, .string z, .int .i64 n] w9 (fun r4 w10 => ∃ (q1 : Bool), r4 = (.bool q1) ∧ (R (.returned (.bool q1)) w10)) (PanF R) := fun w9 ow9 hB f hv =>
    ltold_c hv ⟨_, rfl, by rw [decide_eq_true rfl]; exact hK w9 ow9 hB f⟩
  rcases he with ⟨h0, rfl⟩ | ⟨h0, b', rfl, hx⟩
  · refine S_law08_Both_keep_nil ?_
    unfold W_law08_Both_keep_nil
    exact go _ fin
  · refine S_law08_Both_keep ?_
    unfold W_law08_Both_keep
    exact go _ fin

theorem EI.at {w : World} {a : Option Addr} {E : List EI} {f : EI → Value} (h : Rd w a (E.map f)) {k : Nat} (hk : k < E.length) : (E.map f)[k]? = some (f E[k]) := by simp [hk]
theorem stay_c {w : World} {ow : Nat → Nat} {bb p r : Nat} {E : List EI} {R : Ending → World → Prop} (h : BoX w ow bb p r E) (hE : E.length ≤ 10000) (hK : ∀ w', Kp no w w' → R (.returned (.bool true)) w') : GoC Try.prog F_law08_Both_stay #[.pointer (some ⟨bb, 0, none⟩)] w R := by
  obtain ⟨ea, ec, ca, cc, na, nc, h⟩ := h
  refine S_law08_Both_stay ?_
  unfold W_law08_Both_stay
  refine loopN (fun s w' => ∃ k : Nat, s.1 = (k : Int) ∧ k ≤ E.length ∧ Kp no w w') (fun s _ => E.length - s.1.toNat) ⟨0, rfl, by omega, Kp.refl _ _⟩ ?_
  rintro ⟨k0, u⟩ w1 ⟨k, hk0, hk, k1⟩ _
  dsimp only at hk0 ⊢
  subst hk0
  have h1 := h.kp k1
  refine NilF.intro rfl ⟨_, _, _, cN h1.x rfl, cond_d (fun hlt => ?_) (fun _ => hK w1 k1)⟩
  have hkl : k < E.length := by omega
  have kd := k1.trans0 (Kp.drew w1 1)
  have hd := h.kp kd
  rw [wk8 (n := 20000) (by omega) (by omega)]
  refine NilF.intro rfl ⟨_, _, _, cN hd.x rfl, rdI hd.es.sl.rd (EI.at hd.es.sl.rd hkl) rfl hkl fun b1 o1 ha1 c1 => ⟨_, c1, ?_⟩⟩
  refine NilF.intro rfl ⟨_, _, _, cN hd.x rfl, rdI hd.cs.sl.rd (EI.at hd.cs.sl.rd hkl) rfl hkl fun b2 o2 ha2 c2 => ⟨_, c2, ?_⟩⟩
  refine NilF.intro rfl ⟨_, _, _, cN hd.x rfl, rdI hd.ns.sl.rd (EI.at hd.ns.sl.rd hkl) rfl hkl fun b3 o3 ha3 c3 => ⟨_, c3, ?_⟩⟩
  refine ltold_c (hd.er _ (List.getElem_mem hkl)).1 ⟨_, rfl, cond_f (by rw [decide_eq_true rfl]; rfl) ⟨⟨k + 1, rfl, by omega, kd⟩, by simp only [Int.toNat_natCast]; omega⟩⟩

theorem sl_nn {w : World} {a : Option Addr} {l c : Nat} {bs : List UInt8} (s : Sl w T_uint8 1 a l c (bvs bs)) : a = none → l = 0 := sl_some' s
set_option maxRecDepth 100000 in
set_option maxHeartbeats 4000000 in
theorem looks_c {w : World} {ow : Nat → Nat} {bb p r : Nat} {v : Dv} {E : List EI} {R : Ending → World → Prop} (h : BoX w ow bb p r E) (hd : DX w ow 50 p v) (hr : RX w ow 70 r v) (hq : v.q.length ≤ 1000000) (hK : ∀ w', Kp no w w' → R (.returned (.bool true)) w') :
    GoC Try.prog F_law08_Both_looks #[.pointer (some ⟨bb, 0, none⟩)] w R := by
  refine S_law08_Both_looks ?_
  unfold W_law08_Both_looks
  have cd : ∀ w', Kp no w w' → w'.cell? ⟨bb, 0, none⟩ = some (.pointer (some ⟨p, 0, none⟩)) := fun w' k => (h.kp k).p.1
  have ce : ∀ w', Kp no w w' → w'.cell? (Addr.add ⟨bb, 0, none⟩ 1) = some (.pointer (some ⟨r, 0, none⟩)) := fun w' k => (h.kp k).p.2
  refine NilF.intro rfl ⟨_, cd _ (Kp.refl _ _), cache_c hd hq fun a1 c1 X w1 hX hXv => ⟨_, _, _, rfl, NilF.intro rfl ⟨_, ce _ hX.k, ?_⟩⟩⟩
  refine rcache_c (hr.kp0 hX.k) hq fun a2 c2 Y w2 hY hYv => ⟨_, _, _, rfl, ?_⟩
  have k2 : Kp no w w2 := hX.k.trans0 hY.k
  have kd : Kp no w w2.drew := k2.trans0 (Kp.drew w2 1)
  have k2d : Kp no w2 w2.drew := Kp.drew w2 1
  have xs : Rd w2 a1 (fP X) := hX.s.rd.kp0 hY.k
  have ys : Rd w2 a2 (fP Y) := hY.s.rd
  have hlen : X.length = Y.length := by have := congrArg List.length (hXv.trans hYv.symm); simpa using this
  have hXn := hX.n
  have hYn := hY.n
  refine ⟨fun w' => Kp no w w', kd, NilF.intro rfl ⟨_, fun w' hw => cd w' hw, NilF.intro rfl ⟨_, fun w' hw => ce w' hw, ?_⟩⟩⟩
  refine calls_c (hd.kp0 kd) ⟨_, rfl, kd, rcalls_c (hr.kp0 kd) ⟨_, rfl, kd, cond_ne (fun hh => absurd rfl hh) (fun _ => ?_)⟩⟩
  refine NilF.intro rfl ⟨_, fun w' hw => cd w' hw, NilF.intro rfl ⟨_, fun w' hw => ce w' hw, ?_⟩⟩
  refine down_c (hd.kp0 kd) ⟨_, rfl, kd, rdown_c (hr.kp0 kd) ⟨_, rfl, kd, cond_f (by simp) ?_⟩⟩
  refine NilF.intro rfl ⟨_, fun w' hw => cd w' hw, NilF.intro rfl ⟨_, fun w' hw => ce w' hw, ?_⟩⟩
  refine image_c (hd.kp0 kd) fun a5 c5 w5 s5 k5 fr5 => ⟨_, _, _, rfl, kd.trans0 k5, ?_⟩
  have eqi : ∀ {z1 z2 : ByteArray}, z1.toList = v.img → z2.toList = v.img → (!(z1.toList == z2.toList)) = false := fun h1 h2 => by rw [h1, h2, beq_self_eq_true]; rfl
  have k25 := k2d.trans0 k5
  refine ⟨?_, ?_⟩
  refine convert_bytes (e := T_uint8) (by kernel_rfl) (by kernel_rfl) (by kernel_rfl) s5.rd rfl (sl_nn s5) fun z1 hz1 => ⟨_, rfl, kd.trans0 k5, ?_⟩
  refine rimage_c ((hr.kp0 kd).kp0 k5) fun a6 c6 w10 s6 k6 fr6 => ⟨_, _, _, rfl, (kd.trans0 k5).trans0 k6, ?_⟩
  refine convert_bytes (e := T_uint8) (by kernel_rfl) (by kernel_rfl) (by kernel_rfl) s6.rd rfl (sl_nn s6) fun z2 hz2 => ⟨_, rfl, (kd.trans0 k5).trans0 k6, cond_f (eqi hz1 hz2) ?_⟩
  rotate_left
  refine rimage_c ((hr.kp0 kd).kp0 k5) fun a6 c6 w10 s6 k6 fr6 => ⟨_, _, _, rfl, (kd.trans0 k5).trans0 k6, ?_, ?_⟩
  refine convert_bytes (e := T_uint8) (by kernel_rfl) (by kernel_rfl) (by kernel_rfl) (s5.rd.kp0 k6) rfl (sl_nn s5) fun z1 hz1 => ⟨_, rfl, (kd.trans0 k5).trans0 k6, ?_⟩
  refine convert_bytes (e := T_uint8) (by kernel_rfl) (by kernel_rfl) (by kernel_rfl) s6.rd rfl (sl_nn s6) fun z2 hz2 => ⟨_, rfl, (kd.trans0 k5).trans0 k6, cond_f (eqi hz1 hz2) ?_⟩
  rotate_left
  refine convert_bytes (e := T_uint8) (by kernel_rfl) (by kernel_rfl) (by kernel_rfl) s6.rd rfl (sl_nn s6) fun z2 hz2 => ⟨_, rfl, (kd.trans0 k5).trans0 k6, ?_⟩
  refine convert_bytes (e := T_uint8) (by kernel_rfl) (by kernel_rfl) (by kernel_rfl) (s5.rd.kp0 k6) rfl (sl_nn s5) fun z1 hz1 => ⟨_, rfl, (kd.trans0 k5).trans0 k6, cond_f (eqi hz1 hz2) ?_⟩
  all_goals
    have k10 : Kp no w2 w10 := k25.trans0 k6
    refine cond_ne (fun hh => absurd rfl hh) (fun _ => ?_)
    refine loopN (fun s w' => Kp no w2 w' ∧ ∃ k : Nat, s.1 = (k : Int)) (fun s _ => v.q.length - s.1.toNat) ⟨k10, 0, rfl⟩ ?_
    rintro ⟨k0, u⟩ w11 ⟨k11, k, hk0⟩ _
    dsimp only at hk0 ⊢
    subst hk0
    refine cond_d (fun hlt => ?_) (fun hge => hK w11 (k2.trans0 k11))
    have hk : k < X.length := by omega
    have hk' : k < Y.length := by omega
    rw [show IntKind.wrap .i64 ((k : Int) + 1) = ((k + 1 : Nat) : Int) by rw [wrap_i64 (by omega) (by omega)]; omega]
    have hv : (X[k]).v = (Y[k]).v := by
      have := congrArg (fun l => l[k]?) (hXv.trans hYv.symm)
      simpa [hk, hk'] using this
    have hs : (X[k]).sec = (Y[k]).sec := congrArg Prod.fst hv
    have hb : (X[k]).bs = (Y[k]).bs := congrArg Prod.snd hv
    have kd' := k11.trans0 (Kp.drew w11 1)
    obtain ⟨bx, ox, hax, cx0, cx1⟩ := pdA xs hk
    obtain ⟨by_, oy, hay, cy0, cy1⟩ := pdA ys hk'
    have rx := (hX.x _ (List.getElem_mem hk)).1.kp0 hY.k
    have ry := (hY.x _ (List.getElem_mem hk')).1
    have eqb : ∀ {z1 z2 : ByteArray}, z1.toList = (X[k]).bs → z2.toList = (Y[k]).bs → (!(z1.toList == z2.toList)) = false ∧ (!(z2.toList == z1.toList)) = false := fun h1 h2 => by rw [h1, h2, hb, beq_self_eq_true]; exact ⟨rfl, rfl⟩
    have nx : (Kp no w2 w11.drew ∧ ∃ k' : Nat, ((k + 1 : Nat) : Int) = (k' : Int)) ∧ v.q.length - Int.toNat ((k + 1 : Nat) : Int) < v.q.length - Int.toNat (k : Int) := ⟨⟨kd', k + 1, rfl⟩, by simp only [Int.toNat_natCast]; omega⟩
    refine ⟨fun w' => Kp no w2 w', kd', by omega, by omega, _, hax, _, fun w' kw => by rw [Int.toNat_natCast]; exact kw.cell cx0 id, by omega, by omega, _, hay, _, fun w' kw => by rw [Int.toNat_natCast]; exact kw.cell cy0 id, cond_ne (fun hne => absurd hs hne) (fun _ => ?_)⟩
    refine ⟨by omega, by omega, _, hax, _, _, _, fun w' kw => by rw [Int.toNat_natCast]; exact kw.cell cx1 id, by omega, by omega, _, hay, _, _, _, fun w' kw => by rw [Int.toNat_natCast]; exact kw.cell cy1 id, ?_, ?_⟩
    · exact conv_c (rx.kp0 kd') fun z1 h1 => ⟨_, rfl, kd', conv_c (ry.kp0 kd') fun z2 h2 => ⟨_, rfl, kd', cond_f (eqb h1 h2).1 nx⟩⟩
    · exact conv_c (ry.kp0 kd') fun z2 h2 => ⟨_, rfl, kd', conv_c (rx.kp0 kd') fun z1 h1 => ⟨_, rfl, kd', cond_f (eqb h1 h2).1 nx⟩⟩
end Go.Proofs.Ytalkkhocljehfaa

/- TwinPlays: a Write of a script. Conditions: none. -/
set_option linter.unusedVariables false
set_option linter.unusedSimpArgs false
namespace Go.Proofs.Ytalkkhocljehfaa
open Go Go.RowKit Go.ChangeShapes Go.WideShapes

/-- A step of a script. -/
structure Op8 where
  kind : Int
  at_ : Int
  home : Int
  fill : UInt8
  len : Int
  last : UInt8
  odd : UInt8
  place : Int
  la : Option Addr
  lc : Nat
  keep : List Nat
  torn : Int
  off : Int
def Op8.cs (o : Op8) : List Value := [.int .i64 o.kind, .int .i64 o.at_, .int .i64 o.home, .int .u8 (o.fill.toNat : Int), .int .i64 o.len, .int .u8 (o.last.toNat : Int), .int .u8 (o.odd.toNat : Int), .int .i64 o.place, .slice o.la o.keep.length o.lc, .int .i64 o.torn, .int .i64 o.off]
theorem Op8.cs_len (o : Op8) : o.cs.length = 11 := rfl
def Op8.v (o : Op8) : Value := .agg #[.int .i64 o.kind, .int .i64 o.at_, .int .i64 o.home, .int .u8 (o.fill.toNat : Int), .int .i64 o.len, .int .u8 (o.last.toNat : Int), .int .u8 (o.odd.toNat : Int), .int .i64 o.place, .slice o.la o.keep.length o.lc, .int .i64 o.torn, .int .i64 o.off]
structure Op8.Ok (W : World) (o : Op8) : Prop where
  a : -9223372036854775808 ≤ o.at_ ∧ o.at_ ≤ 9223372036854775807
  l : LossOk W o.la o.keep.length o.keep o.torn o.off
def Op8.blk (o : Op8) (w : World) (b : Nat) : Prop := Blk w b #[.int .i64 o.kind, .int .i64 o.at_, .int .i64 o.home, .int .u8 (o.fill.toNat : Int), .int .i64 o.len, .int .u8 (o.last.toNat : Int), .int .u8 (o.odd.toNat : Int), .int .i64 o.place, .slice o.la o.keep.length o.lc, .int .i64 o.torn, .int .i64 o.off] T_quotalaw08_Op
/-- The two disks, what was handed out, what was handed in. -/
structure Tw (W w : World) (ow : Nat → Nat) (bb p r : Nat) (v : Dv) (E : List EI) : Prop where
  d : DX w ow 50 p v
  e : RX w ow 70 r v
  b : BoX w ow bb p r E
  o : Old W w ow
def Own (u : Nat) : Prop := u ≤ 4 ∨ (50 ≤ u ∧ u ≤ 53) ∨ u = 59 ∨ (70 ≤ u ∧ u ≤ 73)
section
variable {T : Nat → Prop} {W w w' : World} {ow ow' : Nat → Nat} {bb p r : Nat} {v : Dv} {E : List EI}
theorem Tw.fr (h : Tw W w ow bb p r v E) (f : Fro T w ow w' ow') (hT : ∀ u, Own u → T u) : Tw W w' ow' bb p r v E := by
  unfold Own at hT
  exact ⟨h.d.fr f (hT _ (by omega)) (hT _ (by omega)) (hT _ (by omega)) (hT _ (by omega)), h.e.fr f (hT _ (by omega)) (hT _ (by omega)) (hT _ (by omega)) (hT _ (by omega)), h.b.fr f (fun u hu => hT u (by omega)), h.o.fr f (hT _ (by omega))⟩
theorem Tw.kp (h : Tw W w ow bb p r v E) (k : Kp no w w') : Tw W w' ow bb p r v E := h.fr (Fro.kp0 k) fun _ _ => trivial
theorem Tw.ex (h : Tw W w ow bb p r v E) {n u : Nat} (k : Kp no w w') : Tw W w' (ext ow w.heap.size u) bb p r v E := h.fr (Fro.of_kp0 (T := fun _ => True) u k) fun _ _ => trivial
/-- A step on both. -/
theorem Tw.st {w2 : World} {ow2 : Nat → Nat} {v' : Dv} (h : Tw W w ow bb p r v E) (hd : DX w' ow' 50 p v') (f : Fro (Td 50) w ow w' ow') (he : RX w2 ow2 70 r v') (f2 : Fro (Td 70) w' ow' w2 ow2) : Tw W w2 ow2 bb p r v' E :=
  ⟨hd.fr f2 ⟨by omega, by omega, by omega⟩ ⟨by omega, by omega, by omega⟩ ⟨by omega, by omega, by omega⟩ ⟨by omega, by omega, by omega⟩, he, (h.b.fr f (fun u hu => ⟨by omega, by omega, by omega⟩)).fr f2 (fun u hu => ⟨by omega, by omega, by omega⟩), (h.o.fr f ⟨by omega, by omega, by omega⟩).fr f2 ⟨by omega, by omega, by omega⟩⟩
theorem Tw.e1 (h : Tw W w ow bb p r v E) (f : Fro (Td 50) w ow w' ow') : RX w' ow' 70 r v := h.e.fr f ⟨by omega, by omega, by omega⟩ ⟨by omega, by omega, by omega⟩ ⟨by omega, by omega, by omega⟩ ⟨by omega, by omega, by omega⟩
end
def Tb (t u : Nat) : Nat → Prop := fun x => Td t x ∧ Td u x
theorem tb_fr {w w' w2 : World} {ow ow' ow2 : Nat → Nat} {t u : Nat} (f : Fro (Td t) w ow w' ow') (f2 : Fro (Td u) w' ow' w2 ow2) : Fro (Tb t u) w ow w2 ow2 := (f.mono fun _ h => h.1).trans (f2.mono fun _ h => h.2)

/-- The bytes that a Write hands in. -/
def inB (o : Op8) : List UInt8 := if 0 < o.len ∧ o.len < 3000 then (pageB o.fill.toNat ++ pageB o.fill.toNat ++ pageB o.fill.toNat).take o.len.toNat else pageB o.fill.toNat
theorem inB_len (o : Op8) : 1 ≤ (inB o).length ∧ (inB o).length ≤ 3000 := by
  have := pageB_len o.fill.toNat
  unfold inB
  split
  · rw [List.length_take, List.length_append, List.length_append]
    omega
  · omega
theorem sub0 {b c : Nat} (hc : 0 < c) : subA (some ⟨b, 0, none⟩) c 0 1 = some ⟨b, 0, none⟩ := by
  unfold subA
  rw [if_neg (by omega)]
  rfl
/-- The same memory, a shorter slice. -/
theorem Sl.cut {w : World} {b l c n : Nat} {bs : List UInt8} (h : Sl w T_uint8 1 (some ⟨b, 0, none⟩) l c (bvs bs)) (hn : n ≤ l) : Sl w T_uint8 1 (some ⟨b, 0, none⟩) n c (bvs (bs.take n)) := by
  have hl := h.ln
  have e : bs = bs.take n ++ bs.drop n := (List.take_append_drop n bs).symm
  have e2 : l = n + (l - n) := by omega
  rw [e, bvs_app, e2] at h
  exact h.shrink (by rw [bvs_len, List.length_take]; omega)

theorem is_eq {b o j : Nat} (h : Is (some ⟨b, o, none⟩) j) : b = j := by
  obtain ⟨ad, ha, hb⟩ := h
  cases ha
  exact hb
set_option maxRecDepth 100000 in
set_option maxHeartbeats 4000000 in
theorem writes_c {W w : World} {ow : Nat → Nat} {bb p r : Nat} {v : Dv} {E : List EI} {o : Op8} {R : Ending → World → Prop} (h : Tw W w ow bb p r v E) (hs : v.Sm 600000) (hE : E.length ≤ 5000)
    (hK : ∀ w' ow' E', Tw W w' ow' bb p r (writeR v o.at_ o.home (inB o)).2 E' → E'.length ≤ E.length + 1 → R (.returned (.bool true)) w') :
    GoC Try.prog F_law08_Both_writes #[.pointer (some ⟨bb, 0, none⟩), o.v] w R := by
  refine S_law08_Both_writes ?_
  unfold W_law08_Both_writes
  have il := inB_len o
  refine AlF.intro fun b1 w1 hb1e hb1 k1 _ => ⟨_, cN hb1 rfl, ?_⟩
  have pl := pageB_len o.fill.toNat
  refine page_c (u8_lt _) fun b2 w2 s2 k2 hb2 => ⟨_, _, _, rfl, ?_⟩
  -- what is handed in
  refine ⟨fun s w' => ∃ b c, s = ((some ⟨b, 0, none⟩, (inB o).length, c), ()) ∧ Sl w' T_uint8 1 (some ⟨b, 0, none⟩) (inB o).length c (bvs (inB o)) ∧ w1.heap.size ≤ b ∧ Kp no w1 w', ?_, ?_⟩
  · have x2 := k2.blk hb1 id
    have plain : ¬ (0 < o.len ∧ o.len < 3000) → ∃ b c, ((some (⟨b2, 0, none⟩ : Addr), 1024, 1024), ()) = ((some ⟨b, 0, none⟩, (inB o).length, c), ()) ∧ Sl w2 T_uint8 1 (some ⟨b, 0, none⟩) (inB o).length c (bvs (inB o)) ∧ w1.heap.size ≤ b ∧ Kp no w1 w2 := fun hn => by
      have e : inB o = pageB o.fill.toNat := by unfold inB; rw [if_neg hn]
      rw [e, pl]
      exact ⟨b2, 1024, rfl, s2, hb2, k2⟩
    refine ⟨_, cN x2 rfl, cond_d (fun h0 => ⟨_, cN x2 rfl, cond_d (fun h3 => ?_) (fun h3 => plain (by omega))⟩) (fun h0 => plain (by omega))⟩
    refine ⟨_, cN x2 rfl, page_c (u8_lt _) fun b3 w3 s3 k3 hb3 => ⟨_, _, _, rfl, ?_⟩⟩
    refine append_own er_u8 (s2.kp0 k3) s3.rd (by rw [bvs_len]; omega) (fun hh => by cases hh) bvs_one (by omega) (by omega) fun a4 c4 w4 s4 k4 i4 _ _ => ⟨_, _, _, rfl, ?_⟩
    have kw4 : Kp no w1 w4 := (k2.trans0 k3).trans k4 (fun _ _ h => h) fun j hj hh => by have := is_eq hh; omega
    have f4 : Fresh w1 a4 := fun j hj => by
      rcases i4 j hj with hh | hh
      · have := is_eq hh
        omega
      · have := k2.size; have := k3.size; omega
    refine ⟨_, cN (kw4.blk hb1 id) rfl, page_c (u8_lt _) fun b5 w5 s5 k5 hb5 => ⟨_, _, _, rfl, ?_⟩⟩
    rw [← bvs_app] at s4
    refine append_own er_u8 (s4.kp0 k5) s5.rd (by rw [bvs_len]; omega) (fun hh => by cases hh) bvs_one (by omega) (by omega) fun a6 c6 w6 s6 k6 i6 _ _ => ⟨_, _, _, rfl, ?_⟩
    have kw6 : Kp no w1 w6 := (kw4.trans0 k5).trans k6 (fun _ _ h => h) fun j hj hh => by have := f4 j hh; omega
    refine ⟨_, cN (kw6.blk hb1 id) rfl, ⟨by omega, ?_⟩, trivial, ?_⟩
    · have := s6.2.1
      omega
    rw [← bvs_app] at s6
    obtain ⟨b6, cur6, ha6, _⟩ := s6.addr (by omega)
    subst ha6
    have hc6 := s6.2.1
    rw [sub0 (by omega)]
    have e : inB o = (pageB o.fill.toNat ++ pageB o.fill.toNat ++ pageB o.fill.toNat).take o.len.toNat := by unfold inB; rw [if_pos ⟨h0, h3⟩]
    have el : (inB o).length = o.len.toNat := by rw [e, List.length_take, List.length_append, List.length_append]; omega
    refine ⟨b6, c6, by rw [el], ?_, ?_, kw6⟩
    · rw [el, e]
      exact s6.cut (by omega)
    · rcases i6 b6 ⟨_, rfl, rfl⟩ with hh | hh
      · exact f4 _ hh
      · have := kw4.size; have := k5.size; omega
  rintro _ w7 ⟨bi, ci, rfl, s7, hbi, k7⟩ _
  dsimp only
  generalize inB o = bs at *
  refine append_new er_u8 s7.rd (by rw [bvs_len]; omega) (fun hh => by cases hh) bvs_one (by omega) (by omega) fun a7 c7 w8 s8 k8 f8 _ => ⟨_, _, _, rfl, ?_⟩
  refine AlF.intro fun b9 w9 hb9e hb9 k9 _ => ?_
  refine append_own er_u8 (s8.kp0 k9) (rd_cells (xs := bvs [91, 92]) hb9 rfl) rfl (fun hh => by cases hh) bvs_one (by omega) (by omega) fun a8 c8 w10 s10 k10 i10 _ _ => ⟨_, _, _, rfl, ?_⟩
  rw [← bvs_app] at s10
  have hc8 := s10.2.1
  have kw10 : Kp no w7 w10 := (k8.trans0 k9).trans k10 (fun _ _ h => h) fun j hj hh => by have := f8 j hh; omega
  have f10 : Fresh w7 a8 := fun j hj => by
    rcases i10 j hj with hh | hh
    · exact f8 j hh
    · have := k8.size; have := k9.size; omega
  obtain ⟨b8, cur8, ha8, _⟩ := s10.addr (by omega)
  subst ha8
  -- owners
  have k17 := k1.trans0 k7
  have T7 := h.ex (n := 0) (u := 11) k17
  have x7 : o.blk w7 b1 := k7.blk hb1 id
  have t7 : ext ow w.heap.size 11 b1 = 11 := ext_new (by omega)
  have I7 : SlT w7 (ext ow w.heap.size 11) T_uint8 1 (some ⟨bi, 0, none⟩) bs.length ci (bvs bs) 11 := ⟨s7, fun j hj => by have := is_eq hj; have := k1.size; exact ext_new (by omega)⟩
  generalize ext ow w.heap.size 11 = ow7 at *
  have T10 := T7.ex (n := 0) (u := 12) kw10
  have g10 : Fro (fun _ => True) w7 ow7 w10 (ext ow7 w7.heap.size 12) := Fro.of_kp0 12 kw10
  have x10 := blk_fr x7 t7 g10 trivial
  have I10 := I7.fr g10 trivial
  have O10 : SlT w10 (ext ow7 w7.heap.size 12) T_uint8 1 (some ⟨b8, 0, none⟩) (bs.length + 2) c8 (bvs (bs ++ [91, 92])) 12 := ⟨s10, fun j hj => ext_new (f10 j hj)⟩
  generalize ext ow7 w7.heap.size 12 = ow10 at *
  have kd : Kp no w10 w10.drew := Kp.drew w10 1
  have gd : Fro (fun _ => True) w10 ow10 w10.drew ow10 := Fro.kp0 kd
  have Td_ := T10.kp kd
  have xd : o.blk w10.drew b1 := kd.blk x10.1 id
  have Id := I10.fr gd trivial
  have Od := O10.fr gd trivial
  refine NilF.intro rfl ⟨_, Td_.b.p.1, _, cN xd rfl, _, cN xd rfl, ⟨by omega, by omega⟩, trivial, ?_⟩
  rw [sub0 (by omega), Int.toNat_natCast]
  have cutE : (bs ++ [91, 92]).take bs.length = bs := by rw [List.take_left]
  have cut : ∀ {w' : World}, Sl w' T_uint8 1 (some ⟨b8, 0, none⟩) (bs.length + 2) c8 (bvs (bs ++ [91, 92])) → Sl w' T_uint8 1 (some ⟨b8, 0, none⟩) bs.length c8 (bvs bs) := fun s => by
    have := s.cut (n := bs.length) (by omega)
    rwa [cutE] at this
  have td : ∀ {t u : Nat}, (u < t ∨ t + 3 ≤ u) → Td t u := fun hu => ⟨by omega, by omega, by omega⟩
  have B10 : Bs w10.drew ow10 50 (some ⟨b8, 0, none⟩) bs := ⟨(SlT.rdT (u := 12) ⟨cut Od.sl, Od.tg⟩).mono fun u hu => by rw [hu]; exact td (by omega), by omega, fun hh => by cases hh⟩
  refine twrite_c Td_.d (hs.mono (by omega)) B10 rfl (by omega) fun e1 w11 ow11 h11 f11 he1 ho1 => ⟨_, rfl, ?_⟩
  have kd11 : Kp no w11 w11.drew := Kp.drew w11 1
  have f11d : Fro (Td 50) w10.drew ow10 w11.drew ow11 := f11.trans ((Fro.kp0 kd11).mono fun _ _ => trivial)
  have x11 := blk_fr xd x10.2 f11d (td (by omega))
  have I11 := Id.fr f11d (td (by omega))
  have O11 := Od.fr f11d (td (by omega))
  have p11 := (Td_.b.fr f11d (fun u hu => td (by omega))).p
  refine ⟨fun w' => o.blk w' b1 ∧ (w'.cell? ⟨bb, 0, none⟩ = some (.pointer (some ⟨p, 0, none⟩)) ∧ w'.cell? (Addr.add ⟨bb, 0, none⟩ 1) = some (.pointer (some ⟨r, 0, none⟩))), ⟨x11.1, p11⟩, NilF.intro rfl ⟨_, fun w' hw => hw.2.2, _, fun w' hw => cN hw.1 rfl, _, fun w' hw => cN hw.1 rfl, ?_⟩⟩
  have B11 : Bs w11.drew ow11 70 (some ⟨bi, 0, none⟩) bs := ⟨(I11.rdT).mono fun u hu => by rw [hu]; exact td (by omega), by omega, fun hh => by cases hh⟩
  refine rwrite8_c (Td_.e1 f11d) (hs.mono (by omega)) B11 rfl s7.2.1 fun w12 ow12 h12 f12 => ⟨_, rfl, ?_⟩
  have T12 : Tw W w12 ow12 bb p r (writeR v o.at_ o.home bs).2 E := Td_.st (h11.kp0 kd11) f11d h12 f12
  have x12 := blk_fr x11.1 x11.2 f12 (td (by omega))
  have I12 := I11.fr f12 (td (by omega))
  have O12 := O11.fr f12 (td (by omega))
  have h59 : ∀ b, e1 = .iface T_p_api_Fault (.pointer (some ⟨b, 0, none⟩)) → ow11 b = 59 := ho1.2
  have he12 : ErrV w12 e1 zW ((writeR v o.at_ o.home bs).1 : Int) := (he1.kp0 kd11).fr (fun b hb => by rw [h59 b hb]; exact td (by omega)) f12
  refine ⟨⟨x12.1, T12.b.p⟩, ?_⟩
  refine keep_c (z := zW) T12.b (by omega) he12 (fun b hb => by rw [f12.ag b (ErrV.lt (he1.kp0 kd11) hb) (by rw [h59 b hb]; exact td (by omega))]; exact h59 b hb) fun w13 ow13 hB f13 => ⟨_, rfl, ?_⟩
  have t4 : ∀ {u : Nat}, 5 ≤ u ∨ u = 0 → T4 u := fun hu => ⟨by omega, by omega, by omega, by omega⟩
  have T13 : Tw W w13 ow13 bb p r (writeR v o.at_ o.home bs).2 (E ++ [⟨e1, zW, ((writeR v o.at_ o.home bs).1 : Int)⟩]) :=
    ⟨T12.d.fr f13 (t4 (by omega)) (t4 (by omega)) (t4 (by omega)) (t4 (by omega)), T12.e.fr f13 (t4 (by omega)) (t4 (by omega)) (t4 (by omega)) (t4 (by omega)), hB, T12.o.fr f13 (t4 (by omega))⟩
  have x13 := blk_fr x12.1 x12.2 f13 (t4 (by omega))
  have I13 := I12.fr f13 (t4 (by omega))
  have O13 := O12.fr f13 (t4 (by omega))
  refine ⟨⟨x13.1, hB.p⟩, ?_⟩
  have kd13 : Kp no w13 w13.drew := Kp.drew w13 1
  refine ⟨fun s w' => s.1 = true ∧ Kp no w13 w', ?_, ?_⟩
  · refine ⟨fun w' => Kp no w13 w', kd13, cond_t rfl ⟨⟨by omega, by omega⟩, trivial, ?_⟩⟩
    have m1 : IntKind.wrap .i64 ((bs.length : Int) + 1) = ((bs.length + 1 : Nat) : Int) := wk8 (n := 5000) (by omega) (by omega)
    rw [m1, Int.toNat_natCast]
    have g1 : (bvs (bs ++ [91, 92]))[bs.length]? = some (bv 91) := by
      rw [bvs_app, List.getElem?_append_right (by rw [bvs_len]; exact Nat.le_refl _), bvs_len, Nat.sub_self]
      rfl
    have g2 : (bvs (bs ++ [91, 92]))[bs.length + 1]? = some (bv 92) := by
      rw [bvs_app, List.getElem?_append_right (by rw [bvs_len]; omega), bvs_len, Nat.add_sub_cancel_left]
      rfl
    obtain ⟨q1, r1, ha1, c1⟩ := O13.sl.rd _ _ g1
    cases ha1
    obtain ⟨q2, r2, ha2, c2⟩ := O13.sl.rd _ _ g2
    cases ha2
    have rest : IdxF (some ⟨b8, 0, none⟩) ((bs.length : Nat) : Int) (bs.length + 2) fun d5 => (∃ (n24 : Int), (∀ w, Kp no w13 w → w.cell? (d5.add bs.length) = some (.int .u8 n24)) ∧ (cond (n24 == (91 : Int)) (IdxF (some ⟨b8, 0, none⟩) ((bs.length + 1 : Nat) : Int) (bs.length + 2) fun d6 => (∃ (n25 : Int), (∀ w, Kp no w13 w → w.cell? (d6.add (bs.length + 1)) = some (.int .u8 n25)) ∧ ((n25 == (92 : Int)) = true ∧ Kp no w13 w13.drew))) (false = true ∧ Kp no w13 w13.drew))) :=
      ⟨by omega, by omega, _, rfl, 91, fun w' hw => by rw [add_at]; exact hw.cell c1 id, cond_t rfl ⟨by omega, by omega, _, rfl, 92, fun w' hw => by rw [add_at]; exact hw.cell c2 id, rfl, kd13⟩⟩
    refine ⟨?_, ?_⟩
    · exact conv_c ((cut O13.sl).kp0 kd13) fun z1 h1 => ⟨_, rfl, kd13, conv_c (I13.sl.kp0 kd13) fun z2 h2 => ⟨_, rfl, kd13, cond_t (by rw [h1, h2]; exact beq_self_eq_true _) rest⟩⟩
    · exact conv_c (I13.sl.kp0 kd13) fun z2 h2 => ⟨_, rfl, kd13, conv_c ((cut O13.sl).kp0 kd13) fun z1 h1 => ⟨_, rfl, kd13, cond_t (by rw [h1, h2]; exact beq_self_eq_true _) rest⟩⟩
  rintro ⟨ok, z⟩ w18 ⟨hok, k18⟩ _
  dsimp only at hok ⊢
  subst hok
  refine loopN (fun st w' => ∃ k : Nat, k ≤ bs.length + 2 ∧ st.1 = (k : Int) ∧ ∃ X', Tw W w' ow13 bb p r (writeR v o.at_ o.home bs).2 (E ++ [⟨e1, zW, ((writeR v o.at_ o.home bs).1 : Int)⟩]) ∧ SlT w' ow13 T_uint8 1 (some ⟨b8, 0, none⟩) (bs.length + 2) c8 (bvs X') 12) (fun st _ => bs.length + 2 - st.1.toNat)
    ⟨0, by omega, rfl, _, T13.kp k18, O13.fr (Fro.kp0 (ow := ow13) k18) trivial⟩ ?_
  rintro ⟨k0, z⟩ w19 ⟨k, hk, hk0, X', T19, O19⟩ _
  dsimp only at hk0 ⊢
  subst hk0
  refine cond_d (fun hlt => ?_) (fun _ => hK w19 ow13 _ T19 (by simp))
  rw [wk8 (n := 5000) (by omega) (by omega)]
  refine ⟨by omega, hlt, _, rfl, ?_⟩
  refine slt_put (v := bv 85) O19 rfl (i := k) (by omega) (by rw [Int.toNat_natCast, add_at]) fun w20 O20 f20 => ⟨⟨k + 1, by omega, rfl, X'.set k 85, T19.fr f20 (fun u hu => by unfold Own at hu; omega), by rw [← bvs_set]; exact O20⟩, by simp only [Int.toNat_natCast]; omega⟩
end Go.Proofs.Ytalkkhocljehfaa

/- TwinPlays: a step of a script. Conditions: none. -/
set_option linter.unusedVariables false
set_option linter.unusedSimpArgs false
namespace Go.Proofs.Ytalkkhocljehfaa
open Go Go.RowKit Go.ChangeShapes Go.WideShapes

set_option maxRecDepth 100000 in
theorem rMarker_c {w : World} {h n : Int} {x y : UInt8} {R : Ending → World → Prop} (hK : ∀ b w' bs, bs.length = 512 → Sl w' T_uint8 1 (some ⟨b, 0, none⟩) 512 512 (bvs bs) → Kp no w w' → w.heap.size ≤ b → R (.returned (.slice (some ⟨b, 0, none⟩) 512 512)) w') :
    GoC Try.prog F_ref08_Marker #[.int .i64 h, .int .u8 (x.toNat : Int), .int .i64 n, .int .u8 (y.toNat : Int)] w R := by
  refine S_ref08_Marker ?_
  unfold W_ref08_Marker
  have ml : ((mkI h 4).set 511 x).length = 512 := by rw [List.length_set]; exact mkI_len h 4 (by omega)
  refine marker_c fun b w1 s1 k1 hb => ⟨_, _, _, rfl, ?_⟩
  generalize (mkI h 4).set 511 x = bs at *
  refine cond_d (fun h0 => cond_d (fun h1 => ?_) (fun _ => hK b w1 _ ml s1 k1 hb)) (fun _ => hK b w1 _ ml s1 k1 hb)
  refine ⟨h0, h1, _, rfl, ?_⟩
  refine s1.putv (i := n.toNat) (v := bv y) (by omega) (by rw [add_at, Nat.zero_add]) fun w2 s2 k2 _ => ?_
  rw [bvs_set] at s2
  exact hK b w2 _ (by rw [List.length_set]; exact ml) s2 (k1.trans k2 (fun _ _ h => h) fun j hj hh => by have := is_eq hh; omega) hb
theorem LossOk.ls {W w : World} {ow : Nat → Nat} {t : Nat} {a : Option Addr} {keep : List Nat} {torn off : Int} (h : LossOk W a keep.length keep torn off) (o : Old W w ow) (ht : 1 ≤ t) : Ls w ow t a keep :=
  ⟨(o.rdT h.rd).mono fun u hu => ⟨by omega, by omega, by omega⟩, h.lt, by have := h.ln; omega, h.nn⟩
theorem Dv.arm_sm {v : Dv} {s torn off : Int} {keep : List Nat} {m : Nat} (h : v.Sm m) (hk : keep.length * 8 ≤ 140737488355328) : (v.arm s keep torn off).2.Sm m := by
  unfold Dv.arm
  repeat' split
  · exact h
  · exact h
  · exact ⟨h.q, hk⟩
theorem Dv.crash_sm {v : Dv} {torn off : Int} {keep : List Nat} {m : Nat} (h : v.Sm m) : (v.crash keep torn off).2.Sm m := by
  unfold Dv.crash
  split
  · exact h
  · exact ⟨by simp [Dv.fall], by simp [Dv.fall]⟩
theorem write_l {w : World} {ow : Nat → Nat} {t b l : Nat} {v : Dv} {R : Ending → World → Prop} {i : Int} {a : Option Addr} {c : Nat} {bs : List UInt8} (h : DX w ow t b v) (hr : Bs w ow t a bs) (hl : bs.length = l) (hq : v.q.length ≤ 999999) (hln : v.keep.length * 8 ≤ 140737488355328)
    (hK : ∀ w' ow', DX w' ow' t b (v.write i bs).2 → Fro (Td t) w ow w' ow' → R (.returned (.int .i64 ((v.write i bs).1 : Int))) w') :
    GoC Try.prog F_sectors_Device_Write #[.pointer (some ⟨b, 0, none⟩), .int .i64 i, .slice a l c] w R := by
  subst hl
  exact write_c h hr hq hln hK
theorem readR_bad {v : Dv} {i : Int} (h : (readR v i).1 ≠ 0) : (readR v i).2 = [] := by
  unfold readR at h ⊢
  repeat' split
  · rfl
  · rfl
  · rename_i h1 h2
    rw [if_neg h1, if_neg h2] at h
    exact absurd rfl h

set_option maxRecDepth 100000 in
set_option maxHeartbeats 16000000 in
theorem plays_c {W w : World} {ow : Nat → Nat} {bb p r m : Nat} {v : Dv} {E : List EI} {o : Op8} {R : Ending → World → Prop} (h : Tw W w ow bb p r v E) (ho : o.Ok W) (hs : v.Sm m) (hm : m ≤ 500000) (hE : E.length ≤ 4000)
    (hK : ∀ w' ow' v' E', Tw W w' ow' bb p r v' E' → v'.Sm (m + 10) → E'.length ≤ E.length + 3 → R (.returned (.bool true)) w') :
    GoC Try.prog F_law08_Both_plays #[.pointer (some ⟨bb, 0, none⟩), o.v] w R := by
  refine S_law08_Both_plays ?_
  unfold W_law08_Both_plays
  refine AlF.intro fun b1 w1 hb1e hb1 k1 _ => ?_
  have T1 := h.ex (n := 0) (u := 11) k1
  have x1 : o.blk w1 b1 := hb1
  have t1 : ext ow w.heap.size 11 b1 = 11 := ext_new (by omega)
  generalize ext ow w.heap.size 11 = ow1 at *
  have td : ∀ {t u : Nat}, (u < t ∨ t + 3 ≤ u) → Td t u := fun hu => ⟨by omega, by omega, by omega⟩
  have t4 : ∀ {u : Nat}, 5 ≤ u ∨ u = 0 → T4 u := fun hu => ⟨by omega, by omega, by omega, by omega⟩
  have kd : Kp no w1 w1.drew := Kp.drew w1 1
  have Td_ := T1.kp kd
  have xd : o.blk w1.drew b1 := kd.blk x1 id
  have beqI : ∀ {n : Int} {w' : World}, R (.returned (.bool true)) w' → R (.returned (.bool (n == n))) w' := fun hh => by rw [beq_self_eq_true]; exact hh
  let S : World → Prop := fun w' => o.blk w' b1 ∧ (w'.cell? ⟨bb, 0, none⟩ = some (.pointer (some ⟨p, 0, none⟩)) ∧ w'.cell? (Addr.add ⟨bb, 0, none⟩ 1) = some (.pointer (some ⟨r, 0, none⟩)))
  have Sd : S w1.drew := ⟨xd, Td_.b.p⟩
  have keepT : ∀ {w4 : World} {ow4 : Nat → Nat} {v' : Dv} {E' : List EI} {w5 : World} {ow5 : Nat → Nat} {E5 : List EI}, Tw W w4 ow4 bb p r v' E' → BoX w5 ow5 bb p r E5 → Fro T4 w4 ow4 w5 ow5 → Tw W w5 ow5 bb p r v' E5 := fun T hB f =>
    ⟨T.d.fr f (t4 (by omega)) (t4 (by omega)) (t4 (by omega)) (t4 (by omega)), T.e.fr f (t4 (by omega)) (t4 (by omega)) (t4 (by omega)) (t4 (by omega)), hB, T.o.fr f (t4 (by omega))⟩
  refine ⟨_, c0 x1 rfl, cond_eq (fun hk => ?_) (fun _ => cond_eq (fun hk => ?_) (fun _ => cond_eq (fun hk => ?_) (fun _ => cond_eq (fun hk => ?_) (fun _ => cond_eq (fun hk => ?_) (fun _ => cond_eq (fun hk => ?_) (fun _ => ?_))))))⟩
  · -- Write
    refine ⟨_, _, _, _, _, _, _, _, _, _, _, _, _, ⟨c0 x1 rfl, cN x1 rfl, cN x1 rfl, cN x1 rfl, cN x1 rfl, cN x1 rfl, cN x1 rfl, cN x1 rfl, cN x1 rfl, cN x1 rfl, cN x1 rfl, trivial⟩, ?_⟩
    exact writes_c (o := o) T1 (hs.mono (by omega)) (by omega) fun w' ow' E' hT hl => ⟨_, rfl, hK w' ow' _ E' hT ((writeR_sm hs).mono (by omega)) (by omega)⟩
  · -- Finish
    refine ⟨S, Sd, NilF.intro rfl ⟨_, fun w' hw => hw.2.1, _, fun w' hw => cN hw.1 rfl, ?_⟩⟩
    refine tfinish_c Td_.d (hs.mono (by omega)) fun e w3 ow3 h3 f3 he ho3 => ⟨_, _, rfl, ?_⟩
    have kd3 : Kp no w3 w3.drew := Kp.drew w3 1
    have f3d : Fro (Td 50) w1.drew ow1 w3.drew ow3 := f3.trans ((Fro.kp0 kd3).mono fun _ _ => trivial)
    have x3 := blk_fr xd t1 f3 (td (by omega))
    have x3d := blk_fr xd t1 f3d (td (by omega))
    have p3 := (Td_.b.fr f3 (fun u hu => td (by omega))).p
    have p3d := (Td_.b.fr f3d (fun u hu => td (by omega))).p
    refine ⟨⟨x3.1, p3⟩, S, ⟨x3d.1, p3d⟩, NilF.intro rfl ⟨_, fun w' hw => hw.2.2, _, fun w' hw => cN hw.1 rfl, ?_⟩⟩
    refine rfinish8_c (Td_.e1 f3d) (hs.mono (by omega)) fun w4 ow4 h4 f4 => ⟨_, _, rfl, ?_⟩
    have T4_ : Tw W w4 ow4 bb p r (finR v o.at_).2 E := Td_.st (h3.kp0 kd3) f3d h4 f4
    have x4 := blk_fr x3d.1 x3d.2 f4 (td (by omega))
    refine ⟨⟨x4.1, T4_.b.p⟩, cond_t (beq_self_eq_true _) ?_⟩
    have h59 : ∀ b, e = .iface T_p_api_Fault (.pointer (some ⟨b, 0, none⟩)) → ow3 b = 59 := ho3.2
    have he4 : ErrV w4 e zF ((finR v o.at_).1.2 : Int) := (he.kp0 kd3).fr (fun b hb => by rw [h59 b hb]; exact td (by omega)) f4
    refine keep_c (z := zF) T4_.b (by omega) he4 (fun b hb => by rw [f4.ag b (ErrV.lt (he.kp0 kd3) hb) (by rw [h59 b hb]; exact td (by omega))]; exact h59 b hb) fun w5 ow5 hB f5 => ⟨_, rfl, ?_⟩
    exact hK w5 ow5 _ _ (keepT T4_ hB f5) ((finR_sm hs).mono (by omega)) (by simp)
  · -- Read
    refine ⟨S, Sd, NilF.intro rfl ⟨_, fun w' hw => hw.2.1, _, fun w' hw => cN hw.1 rfl, ?_⟩⟩
    refine tread_c Td_.d (hs.mono (by omega)) fun a3 l3 c3 e w6 k6 s6 f6 he hf => ⟨_, _, _, _, rfl, ?_⟩
    obtain ⟨u, hu⟩ : ∃ u : Nat, u = if (readR v o.home).1 = 0 then 13 else 59 := ⟨_, rfl⟩
    have T6 := Td_.ex (n := 0) (u := u) k6
    have g6 : Fro (fun _ => True) w1.drew ow1 w6 (ext ow1 w1.drew.heap.size u) := Fro.of_kp0 u k6
    have x6 := blk_fr xd t1 g6 trivial
    have A6 : SlT w6 (ext ow1 w1.drew.heap.size u) T_uint8 1 a3 l3 c3 (bvs (readR v o.home).2) u := ⟨s6, fun j hj => ext_new (f6 j hj)⟩
    have o6 : ∀ b, e = .iface T_p_api_Fault (.pointer (some ⟨b, 0, none⟩)) → ext ow1 w1.drew.heap.size u b = 59 := fun b hb => by
      rw [ext_new (hf b hb), hu, if_neg]
      intro h0
      rw [h0] at he
      have := err0 he
      rw [hb] at this
      cases this
    generalize ext ow1 w1.drew.heap.size u = ow6 at *
    have kd6 : Kp no w6 w6.drew := Kp.drew w6 1
    refine ⟨⟨x6.1, T6.b.p⟩, S, ⟨kd6.blk x6.1 id, (T6.kp kd6).b.p⟩, NilF.intro rfl ⟨_, fun w' hw => hw.2.2, _, fun w' hw => cN hw.1 rfl, ?_⟩⟩
    refine rread8_c (T6.kp kd6).e (hs.mono (by omega)) fun a4 l4 c4 w7 k7 s7 f7 => ⟨_, _, _, _, rfl, ?_⟩
    have k67 := kd6.trans0 k7
    refine ⟨⟨k67.blk x6.1 id, (T6.kp k67).b.p⟩, ?_⟩
    refine conv_c (A6.sl.kp0 k67) fun z1 h1 => ⟨_, rfl, conv_c s7 fun z2 h2 => ⟨_, rfl, ?_⟩⟩
    have e3 := s6.ln
    refine loopN (fun st w' => ∃ k : Nat, k ≤ l3 ∧ st.1 = (k : Int) ∧ ∃ X', Tw W w' ow6 bb p r v E ∧ SlT w' ow6 T_uint8 1 a3 l3 c3 (bvs X') u ∧ ErrV w' e zR ((readR v o.home).1 : Int)) (fun st _ => l3 - st.1.toNat)
      ⟨0, by omega, rfl, _, T6.kp k67, A6.fr (Fro.kp0 (ow := ow6) k67) trivial, he.kp0 k67⟩ ?_
    rintro ⟨k0, z⟩ w10 ⟨k, hk, hk0, X', T10, A10, he10⟩ _
    dsimp only at hk0 ⊢
    subst hk0
    refine cond_d (fun hlt => ?_) (fun _ => ?_)
    · have h0 : (readR v o.home).1 = 0 := Decidable.byContradiction fun hn => by
        rw [readR_bad hn] at e3
        simp at e3
        omega
      rw [if_pos h0] at hu
      obtain ⟨b3, cur3, ha3, _⟩ := A10.sl.addr (by omega)
      subst ha3
      have l3b : l3 ≤ 1024 := by
        rw [← e3]
        unfold readR
        repeat' split
        · simp
        · simp
        · rename_i hd ht
          have hok := Td_.d.ok
          have := (hok.read_at (by simpa using hd) (i := o.home) (by omega) (by omega)).2
          have := (hok.read_at (by simpa using hd) (i := o.home + 1) (by omega) (by omega)).2
          show ((v.read o.home).1 ++ (v.read (o.home + 1)).1).length ≤ 1024
          rw [List.length_append]
          omega
      rw [wk8 (n := 5000) (by omega) (by omega)]
      refine ⟨by omega, hlt, _, rfl, ?_⟩
      refine slt_put (v := bv 102) A10 rfl (i := k) (by omega) (by rw [Int.toNat_natCast, add_at]) fun w11 A11 f11 => ⟨⟨k + 1, by omega, rfl, X'.set k 102, T10.fr f11 (fun x hx => by unfold Own at hx; omega), by rw [← bvs_set]; exact A11, he10.fr (fun b hb => by rw [o6 b hb]; omega) f11⟩, by simp only [Int.toNat_natCast]; omega⟩
    · refine cond_t (by rw [h1, h2]; exact beq_self_eq_true _) ?_
      refine keep_c (z := zR) T10.b (by omega) he10 o6 fun w12 ow12 hB f12 => ⟨_, rfl, ?_⟩
      exact hK w12 ow12 _ _ (keepT T10 hB f12) (hs.mono (by omega)) (by simp)
  · -- Arm
    refine ⟨S, Sd, NilF.intro rfl ⟨_, fun w' hw => hw.2.1, _, fun w' hw => cN hw.1 rfl, _, _, _, _, _, fun w' hw => ⟨cN hw.1 rfl, cNM hw.1 rfl, cNM hw.1 rfl, trivial⟩, NilF.intro rfl ⟨_, fun w' hw => hw.2.2, _, fun w' hw => cN hw.1 rfl, _, _, _, _, _, fun w' hw => ⟨cN hw.1 rfl, cNM hw.1 rfl, cNM hw.1 rfl, trivial⟩, ?_⟩⟩⟩
    refine arm_c Td_.d (ho.l.ls Td_.o (by omega)) ho.a.2 fun w3 ow3 h3 f3 => ⟨_, rfl, ?_⟩
    have x3 := blk_fr xd t1 f3 (td (by omega))
    have p3 := (Td_.b.fr f3 (fun u hu => td (by omega))).p
    refine ⟨⟨x3.1, p3⟩, ?_⟩
    refine rarm_c (Td_.e1 f3) (ho.l.ls (Td_.o.fr f3 (td (by omega))) (by omega)) ho.a.2 fun w4 ow4 h4 f4 => ⟨_, rfl, ?_⟩
    have T4_ : Tw W w4 ow4 bb p r (v.arm o.at_ o.keep o.torn o.off).2 E := Td_.st h3 f3 h4 f4
    refine ⟨⟨(blk_fr x3.1 x3.2 f4 (td (by omega))).1, T4_.b.p⟩, beqI (hK w4 ow4 _ _ T4_ ((Dv.arm_sm hs (by have := ho.l.ln; omega)).mono (by omega)) (by omega))⟩
  · -- Up
    refine ⟨S, Sd, NilF.intro rfl ⟨_, fun w' hw => hw.2.1, NilF.intro rfl ⟨_, fun w' hw => hw.2.2, ?_⟩⟩⟩
    refine up_c Td_.d fun w3 ow3 h3 f3 => ⟨_, rfl, ?_⟩
    have x3 := blk_fr xd t1 f3 (td (by omega))
    have p3 := (Td_.b.fr f3 (fun u hu => td (by omega))).p
    refine ⟨⟨x3.1, p3⟩, ?_⟩
    refine rup_c (Td_.e1 f3) fun w4 ow4 h4 f4 => ⟨_, rfl, ?_⟩
    have T4_ : Tw W w4 ow4 bb p r v.up E := Td_.st h3 f3 h4 f4
    exact ⟨⟨(blk_fr x3.1 x3.2 f4 (td (by omega))).1, T4_.b.p⟩, beqI (hK w4 ow4 _ _ T4_ (show v.up.Sm (m + 10) from ⟨(hs.mono (show m ≤ m + 10 by omega)).q, hs.k⟩) (by omega))⟩
  · -- Crash
    refine ⟨S, Sd, NilF.intro rfl ⟨_, fun w' hw => hw.2.1, _, _, _, _, _, fun w' hw => ⟨cN hw.1 rfl, cNM hw.1 rfl, cNM hw.1 rfl, trivial⟩, NilF.intro rfl ⟨_, fun w' hw => hw.2.2, _, _, _, _, _, fun w' hw => ⟨cN hw.1 rfl, cNM hw.1 rfl, cNM hw.1 rfl, trivial⟩, ?_⟩⟩⟩
    refine crash_c Td_.d (ho.l.ls Td_.o (by omega)) (by have := hs.q; omega) fun w3 ow3 h3 f3 => ⟨_, rfl, ?_⟩
    have x3 := blk_fr xd t1 f3 (td (by omega))
    have p3 := (Td_.b.fr f3 (fun u hu => td (by omega))).p
    refine ⟨⟨x3.1, p3⟩, ?_⟩
    refine rcrash_c (Td_.e1 f3) (ho.l.ls (Td_.o.fr f3 (td (by omega))) (by omega)) (by have := hs.q; omega) fun w4 ow4 h4 f4 => ⟨_, rfl, ?_⟩
    have T4_ : Tw W w4 ow4 bb p r (v.crash o.keep o.torn o.off).2 E := Td_.st h3 f3 h4 f4
    exact ⟨⟨(blk_fr x3.1 x3.2 f4 (td (by omega))).1, T4_.b.p⟩, beqI (hK w4 ow4 _ _ T4_ ((Dv.crash_sm hs).mono (by omega)) (by omega))⟩
  -- Lay, Fill; no disk; nothing
  refine ⟨fun s w' => s.1 = (decide (o.kind = 7 ∨ o.kind = 8)) ∧ w' = w1, cond_eq (fun h7 => ⟨?_, rfl⟩) (fun h7 => ⟨?_, rfl⟩), ?_⟩
  · rw [h7]; rfl
  · by_cases h8 : o.kind = 8
    · rw [h8]; rfl
    · rw [decide_eq_false (by omega)]
      simpa using h8
  rintro ⟨lf, z⟩ w19 ⟨hlf, rfl⟩ _
  dsimp only at hlf ⊢
  subst hlf
  refine cond_d (fun h78 => ?_) (fun h78 => ?_)
  · refine ⟨_, cN x1 rfl, _, cN x1 rfl, _, cN x1 rfl, _, cN x1 rfl, ?_⟩
    refine rMarker_c fun b2 w2 bs bl s2 k2 hb2 => ⟨_, _, _, rfl, ?_⟩
    refine ⟨fun s w' => ∃ b c bs, s = ((some ⟨b, 0, none⟩, 512, c), ()) ∧ bs.length = 512 ∧ Sl w' T_uint8 1 (some ⟨b, 0, none⟩) 512 c (bvs bs) ∧ w19.heap.size ≤ b ∧ Kp no w19 w', ?_, ?_⟩
    · refine ⟨_, c0 (k2.blk x1 id) rfl, cond_eq (fun h8 => ?_) (fun h8 => ⟨b2, 512, bs, rfl, bl, s2, hb2, k2⟩)⟩
      refine ⟨_, cN (k2.blk x1 id) rfl, page_c (u8_lt _) fun b3 w3 s3 k3 hb3 => ⟨_, _, _, rfl, ⟨by omega, by omega⟩, trivial, ?_⟩⟩
      rw [sub0 (by omega)]
      exact ⟨b3, 1024, _, rfl, by rw [List.length_take, pageB_len]; rfl, s3.cut (n := 512) (by omega), by have := k2.size; omega, k2.trans0 k3⟩
    rintro _ w22 ⟨b3, c3, bs3, rfl, bl3, s3, hb3, k3⟩ _
    dsimp only
    have k3d : Kp no w19 w22.drew := k3.trans0 (Kp.drew w22 1)
    have T3 := T1.ex (n := 0) (u := 13) k3d
    have g3 : Fro (fun _ => True) w19 ow1 w22.drew (ext ow1 w19.heap.size 13) := Fro.of_kp0 13 k3d
    have x3 := blk_fr x1 t1 g3 trivial
    have A3 : SlT w22.drew (ext ow1 w19.heap.size 13) T_uint8 1 (some ⟨b3, 0, none⟩) 512 c3 (bvs bs3) 13 := ⟨s3.kp0 (Kp.drew w22 1), fun j hj => by have := is_eq hj; exact ext_new (by omega)⟩
    generalize ext ow1 w19.heap.size 13 = ow3 at *
    refine ⟨S, ⟨x3.1, T3.b.p⟩, NilF.intro rfl ⟨_, fun w' hw => hw.2.1, _, fun w' hw => cN hw.1 rfl, NilF.intro rfl ⟨_, fun w' hw => hw.2.2, _, fun w' hw => cN hw.1 rfl, ?_⟩⟩⟩
    have B3 : Bs w22.drew ow3 50 (some ⟨b3, 0, none⟩) bs3 := ⟨(A3.rdT).mono fun u hu => by rw [hu]; exact td (by omega), by omega, fun hh => by cases hh⟩
    refine write_l (i := o.at_) T3.d B3 bl3 (by have := hs.q; omega) hs.k fun w23 ow23 h23 f23 => ⟨_, rfl, ?_⟩
    have x23 := blk_fr x3.1 x3.2 f23 (td (by omega))
    have p23 := (T3.b.fr f23 (fun u hu => td (by omega))).p
    have A23 := A3.fr f23 (td (by omega))
    refine ⟨⟨x23.1, p23⟩, ?_⟩
    have B23 : Bs w23 ow23 70 (some ⟨b3, 0, none⟩) bs3 := ⟨(A23.rdT).mono fun u hu => by rw [hu]; exact td (by omega), by omega, fun hh => by cases hh⟩
    refine rwrite_c (T3.e1 f23) B23 bl3 (by have := hs.q; omega) hs.k fun w24 ow24 h24 f24 => ⟨_, rfl, ?_⟩
    have T24 : Tw W w24 ow24 bb p r (v.write o.at_ bs3).2 E := T3.st h23 f23 h24 f24
    have x24 := blk_fr x23.1 x23.2 f24 (td (by omega))
    have sm24 := Dv.write_sm (i := o.at_) (b := bs3) hs
    refine ⟨⟨x24.1, T24.b.p⟩, cond_ne (fun hh => absurd rfl hh) (fun _ => ?_)⟩
    have kd24 : Kp no w24 w24.drew := Kp.drew w24 1
    have T24d := T24.kp kd24
    have x24d : o.blk w24.drew b1 := kd24.blk x24.1 id
    refine ⟨S, ⟨x24d, T24d.b.p⟩, _, fun w' hw => c0 hw.1 rfl, cond_eq (fun h8 => ?_) (fun h8 => ?_)⟩
    · exact hK _ ow24 _ _ T24d (sm24.mono (by omega)) (by omega)
    refine NilF.intro rfl ⟨_, fun w' hw => hw.2.1, NilF.intro rfl ⟨_, fun w' hw => hw.2.2, ?_⟩⟩
    refine sync_c T24d.d (by have := sm24.q; omega) sm24.k fun w25 ow25 h25 f25 => ⟨_, rfl, ?_⟩
    have x25 := blk_fr x24d x24.2 f25 (td (by omega))
    have p25 := (T24d.b.fr f25 (fun u hu => td (by omega))).p
    refine ⟨⟨x25.1, p25⟩, ?_⟩
    refine rsync_c (T24d.e1 f25) (by have := sm24.q; omega) sm24.k fun w26 ow26 h26 f26 => ⟨_, rfl, ?_⟩
    have T26 : Tw W w26 ow26 bb p r (v.write o.at_ bs3).2.sync.2 E := T24d.st h25 f25 h26 f26
    exact ⟨⟨(blk_fr x25.1 x25.2 f26 (td (by omega))).1, T26.b.p⟩, beqI (hK w26 ow26 _ _ T26 ((Dv.sync_sm sm24).mono (by omega)) (by omega))⟩
  -- no disk, or nothing
  refine cond_eq (fun h9 => ?_) (fun h9 => hK w19 ow1 v E T1 (hs.mono (by omega)) (by omega))
  refine ⟨_, cN x1 rfl, tfinish_nil fun e2 w2 k2 he2 hf2 => ⟨_, _, rfl, ?_⟩⟩
  have T2 := T1.ex (n := 0) (u := 59) k2
  have x2 := blk_fr x1 t1 (Fro.of_kp0 (T := fun _ => True) (ow := ow1) 59 k2) trivial
  have o2 : ∀ b, e2 = .iface T_p_api_Fault (.pointer (some ⟨b, 0, none⟩)) → ext ow1 w19.heap.size 59 b = 59 := fun b hb => ext_new (hf2 b hb)
  generalize ext ow1 w19.heap.size 59 = ow2 at *
  refine ⟨_, cN x2.1 rfl, tread_nil fun e3 w3 k3 he3 hf3 => ⟨_, _, _, _, rfl, ?_⟩⟩
  have T3 := T2.ex (n := 0) (u := 59) k3
  have g3 : Fro (fun _ => True) w2 ow2 w3 (ext ow2 w2.heap.size 59) := Fro.of_kp0 59 k3
  have x3 := blk_fr x2.1 x2.2 g3 trivial
  have o23 : ∀ b, e2 = .iface T_p_api_Fault (.pointer (some ⟨b, 0, none⟩)) → ext ow2 w2.heap.size 59 b = 59 := fun b hb => by rw [ext_old (he2.lt hb)]; exact o2 b hb
  have o3 : ∀ b, e3 = .iface T_p_api_Fault (.pointer (some ⟨b, 0, none⟩)) → ext ow2 w2.heap.size 59 b = 59 := fun b hb => ext_new (hf3 b hb)
  generalize ext ow2 w2.heap.size 59 = ow3 at *
  have kd3 : Kp no w3 w3.drew := Kp.drew w3 1
  refine ⟨fun w' => o.blk w' b1, kd3.blk x3.1 id, _, fun w' hw => cN hw rfl, _, fun w' hw => cN hw rfl, ?_⟩
  refine page_c (f := 1) (by omega) fun b4 w4 s4 k4 hb4 => ⟨_, _, _, rfl, (kd3.trans0 k4).blk x3.1 id, ?_⟩
  have k34 := kd3.trans0 k4
  refine twrite_nil fun e5 w5 k5 he5 hf5 => ⟨_, rfl, (k34.trans0 k5).blk x3.1 id, ?_⟩
  have k35 := k34.trans0 k5
  have T5 := T3.ex (n := 0) (u := 59) k35
  have g5 : Fro (fun _ => True) w3 ow3 w5 (ext ow3 w3.heap.size 59) := Fro.of_kp0 59 k35
  have x5 := blk_fr x3.1 x3.2 g5 trivial
  have he2' := (he2.kp0 k3).kp0 k35
  have he3' := he3.kp0 k35
  have o25 : ∀ b, e2 = .iface T_p_api_Fault (.pointer (some ⟨b, 0, none⟩)) → ext ow3 w3.heap.size 59 b = 59 := fun b hb => by rw [ext_old ((he2.kp0 k3).lt hb)]; exact o23 b hb
  have o35 : ∀ b, e3 = .iface T_p_api_Fault (.pointer (some ⟨b, 0, none⟩)) → ext ow3 w3.heap.size 59 b = 59 := fun b hb => by rw [ext_old (he3.lt hb)]; exact o3 b hb
  have o5 : ∀ b, e5 = .iface T_p_api_Fault (.pointer (some ⟨b, 0, none⟩)) → ext ow3 w3.heap.size 59 b = 59 := fun b hb => ext_new (by have := hf5 b hb; have := k34.size; omega)
  generalize ext ow3 w3.heap.size 59 = ow5 at *
  have fr59 : ∀ {e : Value} {z : ByteArray} {n : Int} {w w' : World} {ow ow' : Nat → Nat}, ErrV w e z n → (∀ b, e = .iface T_p_api_Fault (.pointer (some ⟨b, 0, none⟩)) → ow b = 59) → Fro T4 w ow w' ow' → ErrV w' e z n ∧ ∀ b, e = .iface T_p_api_Fault (.pointer (some ⟨b, 0, none⟩)) → ow' b = 59 := fun he ho f =>
    ⟨he.fr (fun b hb => by rw [ho b hb]; exact t4 (by omega)) f, fun b hb => by rw [f.ag b (he.lt hb) (by rw [ho b hb]; exact t4 (by omega))]; exact ho b hb⟩
  refine keep_c (z := zW) T5.b (by omega) he5 o5 fun w6 ow6 hB6 f6 => ⟨_, rfl, (blk_fr x5.1 x5.2 f6 (t4 (by omega))).1, cond_t rfl ?_⟩
  have T6 := keepT T5 hB6 f6
  have a6 := fr59 he2' o25 f6
  have b6 := fr59 he3' o35 f6
  refine keep_c (z := zF) T6.b (by simp; omega) a6.1 a6.2 fun w7 ow7 hB7 f7 => ⟨_, rfl, cond_t rfl ?_⟩
  have T7 := keepT T6 hB7 f7
  have b7 := fr59 b6.1 b6.2 f7
  refine keep_c (z := zR) T7.b (by simp; omega) b7.1 b7.2 fun w8 ow8 hB8 f8 => ⟨_, rfl, cond_t rfl ?_⟩
  exact hK w8 ow8 v _ (keepT T7 hB8 f8) (hs.mono (by omega)) (by simp)
end Go.Proofs.Ytalkkhocljehfaa

/- TwinPlays: scripts over a disk that gives up. Conditions: none. -/
set_option linter.unusedVariables false
set_option linter.unusedSimpArgs false
namespace Go.Proofs.Ytalkkhocljehfaa
open Go Go.RowKit Go.ChangeShapes Go.WideShapes

def fO8 : List Op8 → List Value := flatV Op8.cs
instance : Inhabited Op8 := ⟨⟨0, 0, 0, 0, 0, 0, 0, 0, none, 0, [], 0, 0⟩⟩
theorem op8_open {W : World} {cs : List Value} (h : ClW Try.prog W T_quotalaw08_Op cs) : ∃ x : Op8, cs = x.cs ∧ x.Ok W := by
  have hl := h.cl.slen (s := 11) (by kernel_rfl)
  have f0 := h.cl.field 0 (e := T_int) (o := 0) (s := 1) (by kernel_rfl)
  have f1 := h.cl.field 1 (e := T_int) (o := 1) (s := 1) (by kernel_rfl)
  have f2 := h.cl.field 2 (e := T_int) (o := 2) (s := 1) (by kernel_rfl)
  have f3 := h.cl.field 3 (e := T_uint8) (o := 3) (s := 1) (by kernel_rfl)
  have f4 := h.cl.field 4 (e := T_int) (o := 4) (s := 1) (by kernel_rfl)
  have f5 := h.cl.field 5 (e := T_uint8) (o := 5) (s := 1) (by kernel_rfl)
  have f6 := h.cl.field 6 (e := T_uint8) (o := 6) (s := 1) (by kernel_rfl)
  have f7 := h.cl.field 7 (e := T_int) (o := 7) (s := 1) (by kernel_rfl)
  have f8 := h.field 8 (e := T_api_Loss) (o := 8) (s := 3) (by kernel_rfl)
  match cs, hl with
  | [x0, x1, x2, x3, x4, x5, x6, x7, x8, x9, x10], _ =>
    simp only [List.drop_zero, List.drop_succ_cons, List.take_succ_cons, List.take_zero] at f0 f1 f2 f3 f4 f5 f6 f7 f8
    obtain ⟨k0, h0, w0⟩ := f0.int (k := .i64) (by kernel_rfl)
    obtain ⟨k1, h1, w1⟩ := f1.int (k := .i64) (by kernel_rfl)
    obtain ⟨k2, h2, w2⟩ := f2.int (k := .i64) (by kernel_rfl)
    obtain ⟨k3, h3, w3⟩ := f3.int (k := .u8) (by kernel_rfl)
    obtain ⟨k4, h4, w4⟩ := f4.int (k := .i64) (by kernel_rfl)
    obtain ⟨k5, h5, w5⟩ := f5.int (k := .u8) (by kernel_rfl)
    obtain ⟨k6, h6, w6⟩ := f6.int (k := .u8) (by kernel_rfl)
    obtain ⟨k7, h7, w7⟩ := f7.int (k := .i64) (by kernel_rfl)
    obtain ⟨a, l, c, keep, torn, off, h8, hL⟩ := loss_open' f8
    obtain ⟨m3, rfl⟩ := u8_wf w3
    obtain ⟨m5, rfl⟩ := u8_wf w5
    obtain ⟨m6, rfl⟩ := u8_wf w6
    cases h0; cases h1; cases h2; cases h3; cases h4; cases h5; cases h6; cases h7; cases h8
    have hn := hL.n
    subst hn
    exact ⟨⟨k0, k1, k2, m3, k4, m5, m6, k7, a, c, keep, torn, off⟩, rfl, i64_wf w1, hL⟩
structure Ops8Ok (W : World) (a : Option Addr) (l c : Nat) (L : List Op8) : Prop where
  n : L.length = l
  rd : Rd W a (fO8 L)
  ok : ∀ x ∈ L, x.Ok W
theorem rd_flat8 {W : World} {a : Option Addr} {L : List Op8} (h : ∀ (i : Nat) (hi : i < L.length) (q : Nat) (v : Value), (L[i]).cs[q]? = some v → ∃ b o, a = some ⟨b, o, none⟩ ∧ W.cell? ⟨b, o + i * 11 + q, none⟩ = some v) : Rd W a (fO8 L) := by
  intro j v hv
  have hj : j < L.length * 11 := by have := (List.getElem?_eq_some_iff.1 hv).1; rwa [fO8, flatV_len Op8.cs_len] at this
  have hq : j % 11 < 11 := Nat.mod_lt _ (by omega)
  have hi : j / 11 < L.length := by omega
  have e : j / 11 * 11 + j % 11 = j := by omega
  have hg := flatV_get Op8.cs_len L (j / 11) hi (j % 11) hq
  rw [e] at hg
  unfold fO8 at hv
  rw [hv] at hg
  obtain ⟨b, o, ha, hc⟩ := h (j / 11) hi (j % 11) v hg.symm
  refine ⟨b, o, ha, ?_⟩
  rwa [Nat.add_assoc, e] at hc
theorem ops8_open {W : World} {v : Value} (h : ArgW Try.prog W T_s_quotalaw08_Op v) : ∃ a l c L, v = .slice a l c ∧ Ops8Ok W a l c L := by
  obtain ⟨a, l, c, rfl, hc⟩ := h.arg.slice (e := T_quotalaw08_Op) (by kernel_rfl)
  have hw : ClW Try.prog W T_s_quotalaw08_Op [.slice a l c] := h.clw
  obtain ⟨css, h1, h2⟩ := hw.cells (e := T_quotalaw08_Op) (s := 11) (by kernel_rfl) (by kernel_rfl) (by omega)
  have each : ∀ i, i < l → ∃ x : Op8, css i = x.cs ∧ x.Ok W := fun i hi => op8_open (h1 i hi)
  obtain ⟨f, hf⟩ := Deep.choose_lt (α := Op8) (p := fun i x => css i = x.cs ∧ x.Ok W) each
  refine ⟨a, l, c, (List.range l).map f, rfl, by simp, rd_flat8 fun i hi q v hv => ?_, fun x hx => ?_⟩
  · have hil : i < l := by simpa using hi
    have e : ((List.range l).map f)[i] = f i := by simp
    rw [e] at hv
    exact h2 i hil q v (by rw [(hf i hil).1]; exact hv)
  · simp only [List.mem_map, List.mem_range] at hx
    obtain ⟨i, hi, rfl⟩ := hx
    exact (hf i hi).2
theorem op8I {w : World} {a : Option Addr} {L : List Op8} (h : Rd w a (fO8 L)) {i : Nat} (hi : i < L.length) : ∃ b o, a = some ⟨b, o, none⟩ ∧ ∀ q, q < 11 → ∀ v, (L[i]).cs[q]? = some v → w.cell? ⟨b, o + i * 11 + q, none⟩ = some v := by
  have hg := fun q hq => flatV_get Op8.cs_len L i hi q hq
  obtain ⟨b, o, ha, hc⟩ := h (i * 11) (.int .i64 (L[i]).kind) (by unfold fO8; exact hg 0 (by omega))
  refine ⟨b, o, ha, fun q hq v hv => ?_⟩
  obtain ⟨b', o', ha', hc'⟩ := h (i * 11 + q) v (by unfold fO8; rw [hg q hq]; exact hv)
  rw [ha] at ha'
  cases ha'
  rw [Nat.add_assoc]
  exact hc'

set_option maxRecDepth 100000 in
set_option maxHeartbeats 4000000 in
theorem twinPlays_c {W : World} {n1 : Int} {a1 : Option Addr} {l1 c1 : Nat} {L : List Op8} {R : Ending → World → Prop} (hL : Ops8Ok W a1 l1 c1 L) (hK : ∀ w', Kp no W w' → R (.returned (.bool true)) w') :
    GoC Try.prog F_law08_TwinPlays #[.int .i64 n1, .slice a1 l1 c1] W R := by
  refine S_law08_TwinPlays ?_
  unfold W_law08_TwinPlays
  have o0 : Old W W fun _ => 0 := ⟨Kp.refl _ _, fun _ _ => rfl⟩
  refine first_c fun w1 k1 => ⟨_, rfl, cond_f rfl ?_⟩
  have O1 := o0.fr (Fro.kp0 (ow := fun _ => 0) k1) trivial
  have h1 := Int.lt_tmod_of_pos n1 (show (0 : Int) < 38 by omega)
  have h2 := Int.tmod_lt_of_pos n1 (show (0 : Int) < 38 by omega)
  have e2 : IntKind.wrap .i64 (Int.tmod n1 38 + 38) = Int.tmod n1 38 + 38 := wrap_i64 (by omega) (by omega)
  rw [e2, tmod_rest (by omega)]
  clear e2 h1 h2
  have e3 : IntKind.wrap .i64 (3 + n1 % 38) = ((3 + (n1 % 38).toNat : Nat) : Int) := by rw [wrap_i64 (by omega) (by omega)]; omega
  rw [e3]
  clear e3
  have hn : 3 ≤ 3 + (n1 % 38).toNat ∧ 3 + (n1 % 38).toNat ≤ 40 := by omega
  generalize 3 + (n1 % 38).toNat = n at *
  refine ⟨by omega, by omega, ?_⟩
  refine new_c (ow := fun _ => 0) (n := n) (by omega) (by omega) 50 fun p w2 ow2 d2 k2 ag2 hp => ⟨_, _, rfl, ?_⟩
  refine rnew_c (ow := ow2) (n := n) (by omega) (by omega) 70 fun r w3 ow3 r3 k3 ag3 hr => ⟨_, _, rfl, ?_⟩
  refine cond_f rfl (cond_f rfl ?_)
  refine AlF.intro fun bb w4 hb4e hb4 k4 _ => ?_
  have O3 := (O1.fr (Fro.new (T := fun _ => True) k2 ag2) trivial).fr (Fro.new (T := fun _ => True) k3 ag3) trivial
  have d3 := d2.fr (Fro.new (T := fun _ => True) k3 ag3) trivial trivial trivial trivial
  have f4 : Fro (fun _ => True) w3 ow3 w4 (ext ow3 w3.heap.size 1) := Fro.of_kp0 1 k4
  have T4_ : Tw W w4 (ext ow3 w3.heap.size 1) bb p r (Dv.new n) [] :=
    ⟨d3.fr f4 trivial trivial trivial trivial, r3.fr f4 trivial trivial trivial trivial, ⟨none, 0, none, 0, none, 0, hb4, ext_new (by omega), slt_nil _ _ _ _ _, slt_nil _ _ _ _ _, slt_nil _ _ _ _ _, fun x hx => absurd hx (by simp)⟩, O3.fr f4 trivial⟩
  generalize ext ow3 w3.heap.size 1 = ow4 at *
  refine loopN (fun st w' => ∃ i : Nat, i ≤ l1 ∧ i ≤ 200 ∧ st.1 = (i : Int) ∧ ∃ ow' v E, Tw W w' ow' bb p r v E ∧ v.Sm (10 * i) ∧ E.length ≤ 3 * i) (fun st _ => l1 - st.1.toNat)
    ⟨0, by omega, by omega, rfl, ow4, Dv.new n, [], T4_, sm_new n, by simp⟩ ?_
  rintro ⟨i0, z⟩ w5 ⟨i, hi, hi2, hi0, ow5, v, E, T5, sm5, hE⟩ _
  dsimp only at hi0 ⊢
  subst hi0
  have fin : CallF Try.prog F_law08_Both_stay #[(.pointer (some ⟨bb, 0, none⟩))] w5 (fun r6 w8 => ∃ (q4 : Bool), r6 = (.bool q4) ∧ (R (.returned (.bool q4)) w8)) (PanF R) :=
    stay_c T5.b (by omega) fun w' k => ⟨_, rfl, hK w' (T5.o.kp.trans0 k)⟩
  refine cond_d (fun hlt => cond_d (fun h200 => ?_) (fun _ => fin)) (fun _ => fin)
  have hiL : i < L.length := by have := hL.n; omega
  have ho := hL.ok _ (List.getElem_mem hiL)
  obtain ⟨fb, fo, fa, fc⟩ := op8I hL.rd hiL
  subst fa
  have fc5 := fun q hq v hv => T5.o.kp.cell (fc q hq v hv) id
  rw [wk8 (n := 5000) (by omega) (by omega)]
  refine ⟨by omega, hlt, _, rfl, (L[i]).kind, (L[i]).at_, (L[i]).home, ((L[i]).fill.toNat : Int), (L[i]).len, ((L[i]).last.toNat : Int), ((L[i]).odd.toNat : Int), (L[i]).place, (L[i]).la, (L[i]).keep.length, (L[i]).lc, (L[i]).torn, (L[i]).off, ?_, ?_⟩
  · rw [Int.toNat_natCast, add_at]
    exact ⟨fc5 0 (by omega) _ rfl, fc5 1 (by omega) _ rfl, fc5 2 (by omega) _ rfl, fc5 3 (by omega) _ rfl, fc5 4 (by omega) _ rfl, fc5 5 (by omega) _ rfl, fc5 6 (by omega) _ rfl, fc5 7 (by omega) _ rfl, fc5 8 (by omega) _ rfl, fc5 9 (by omega) _ rfl, fc5 10 (by omega) _ rfl, trivial⟩
  refine plays_c (o := L[i]) T5 ho sm5 (by omega) (by omega) fun w6 ow6 v6 E6 T6 sm6 hE6 => ⟨_, rfl, cond_f rfl ?_⟩
  refine looks_c T6.b T6.d T6.e (by have := sm6.q; omega) fun w7 k7 => ⟨_, rfl, cond_f rfl ?_⟩
  exact ⟨⟨i + 1, by omega, by omega, rfl, ow6, v6, E6, T6.kp k7, sm6.mono (by omega), by omega⟩, by simp only [Int.toNat_natCast]; omega⟩

theorem twinPlays_walk {W : World} {v0 v1 : Value} (h0 : ArgW Try.prog W T_int v0) (h1 : ArgW Try.prog W T_s_quotalaw08_Op v1) : GoC Try.prog F_law08_TwinPlays #[v0, v1] W fun e W' => e = .returned (.bool true) ∧ Kp no W W' := by
  obtain ⟨n, rfl, _⟩ := h0.arg.int (k := .i64) (by kernel_rfl)
  obtain ⟨a, l, c, L, rfl, hL⟩ := ops8_open h1
  exact twinPlays_c hL fun w' k => ⟨rfl, k⟩
end Go.Proofs.Ytalkkhocljehfaa
