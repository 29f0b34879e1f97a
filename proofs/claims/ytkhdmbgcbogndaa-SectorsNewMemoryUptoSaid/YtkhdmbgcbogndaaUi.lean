/- The statement SectorsExact. Conditions: none. -/
import Derived.Test.YtkhdmbgcbogndaaUh
set_option linter.unusedVariables false
set_option linter.unusedSimpArgs false
namespace Go.Proofs.Ytkhdmbgcbogndaa
open Go Go.RowKit

/-- An op in a list: where it lies. -/
theorem opA {w : World} {a : Option Addr} {L : List OpV} (h : Rd w a (fO L)) {k : Nat} (hk : k < L.length) : ∃ b o, a = some ⟨b, o, none⟩ ∧ ∀ q v, q < 8 → (L[k]).cs[q]? = some v → w.cell? ⟨b, o + (k * 8 + q), none⟩ = some v := by
  have hg : ∀ q, q < 8 → (fO L)[k * 8 + q]? = (L[k]).cs[q]? := fun q hq => flatV_get OpV.cs_len L k hk q hq
  have h0 := hg 0 (by omega)
  obtain ⟨b, o, ha, _⟩ := h (k * 8 + 0) (.int .i64 (L[k]).kind) (by rw [h0]; rfl)
  refine ⟨b, o, ha, fun q v hq hv => ?_⟩
  obtain ⟨b', o', ha', hc'⟩ := h (k * 8 + q) v (by rw [hg q hq]; exact hv)
  rw [ha] at ha'
  cases ha'
  exact hc'

/-- Two pairs of disks. -/
structure EX (w0 w : World) (ow : Nat → Nat) (p1 r1 p2 r2 b1 b2 k : Nat) (v1 v2 : Dv) : Prop where
  d1 : DX w ow 50 p1 v1
  e1 : RX w ow 60 r1 v1
  d2 : DX w ow 70 p2 v2
  e2 : RX w ow 80 r2 v2
  o : Old w0 w ow
  k1 : Kl v1
  k2 : Kl v2
  q1 : v1.q.length ≤ k
  q2 : v2.q.length ≤ k
  x1 : Blk w b1 #[.pointer (some ⟨p1, 0, none⟩), .pointer (some ⟨r1, 0, none⟩)] T_quotalaw03_Both
  x2 : Blk w b2 #[.pointer (some ⟨p2, 0, none⟩), .pointer (some ⟨r2, 0, none⟩)] T_quotalaw03_Both
  t1 : ow b1 = 1
  t2 : ow b2 = 1
theorem EX.fr {T : Nat → Prop} {w0 w w' : World} {ow ow' : Nat → Nat} {p1 r1 p2 r2 b1 b2 k : Nat} {v1 v2 : Dv} (h : EX w0 w ow p1 r1 p2 r2 b1 b2 k v1 v2) (f : Fro T w ow w' ow') (h0 : T 0) (h1 : T 1) (hT : ∀ x, 50 ≤ x → T x) : EX w0 w' ow' p1 r1 p2 r2 b1 b2 k v1 v2 := by
  have g1 := blk_fr h.x1 h.t1 f h1
  have g2 := blk_fr h.x2 h.t2 f h1
  exact ⟨h.d1.fr f (hT _ (by omega)) (hT _ (by omega)) (hT _ (by omega)) (hT _ (by omega)), h.e1.fr f (hT _ (by omega)) (hT _ (by omega)) (hT _ (by omega)) (hT _ (by omega)), h.d2.fr f (hT _ (by omega)) (hT _ (by omega)) (hT _ (by omega)) (hT _ (by omega)), h.e2.fr f (hT _ (by omega)) (hT _ (by omega)) (hT _ (by omega)) (hT _ (by omega)), h.o.fr f h0, h.k1, h.k2, h.q1, h.q2, g1.1, g2.1, g1.2, g2.2⟩
theorem EX.kp0 {w0 w w' : World} {ow : Nat → Nat} {p1 r1 p2 r2 b1 b2 k : Nat} {v1 v2 : Dv} (h : EX w0 w ow p1 r1 p2 r2 b1 b2 k v1 v2) (kk : Kp no w w') : EX w0 w' ow p1 r1 p2 r2 b1 b2 k v1 v2 := h.fr (Fro.kp0 kk) trivial trivial fun _ _ => trivial

set_option maxRecDepth 100000 in
theorem exact_c {w : World} {one two : Int} {a1 : Option Addr} {l1 c1 : Nat} {L : List OpV} {R : Ending → World → Prop} (h1 : -9223372036854775808 ≤ one ∧ one ≤ 9223372036854775807) (h2 : -9223372036854775808 ≤ two ∧ two ≤ 9223372036854775807)
    (hL : OpsOk w a1 l1 c1 L) (h : ∀ w', Kp no w w' → R (.returned (.bool true)) w') :
    GoC Try.prog F_law03_SectorsExact #[.int .i64 one, .int .i64 two, .slice a1 l1 c1] w R := by
  refine S_law03_SectorsExact ?_
  unfold W_law03_SectorsExact
  have hLn := hL.n
  subst hLn
  have hb1 := brought9 (x := one)
  have hb2 := brought9 (x := two)
  obtain ⟨N, hN⟩ : ∃ N : Nat, (N : Int) = 1 + one % 9 := ⟨(1 + one % 9).toNat, by omega⟩
  obtain ⟨M, hM⟩ : ∃ M : Nat, (M : Int) = 1 + two % 9 := ⟨(1 + two % 9).toNat, by omega⟩
  have hwN : IntKind.wrap .i64 (1 + one % 9) = (N : Int) := by rw [wrap_i64 (by omega) (by omega)]; exact hN.symm
  have hwM : IntKind.wrap .i64 (1 + two % 9) = (M : Int) := by rw [wrap_i64 (by omega) (by omega)]; exact hM.symm
  refine brought_c (n := 9) (by decide) (by decide) h1.1 h1.2 ⟨_, rfl, ?_⟩
  rw [hwN]
  refine made_c (ow := fun _ => 0) (by omega) (by omega) 50 60 (by omega) (by omega) fun p1 r1 w2 ow2 hD2 hE2 k2 ho2 => ⟨_, _, _, rfl, ?_⟩
  have hO2 : Old w w2 ow2 := ⟨k2, ho2⟩
  refine AlF.intro fun b1 w3 hb1e hb13 k3 s3 => st2 hb13 fun w5 hb15 k5 s5 => ?_
  have k25 : Kp no w2 w5 := kp_blk k3 (by omega) k5
  have f5 : Fro (fun _ => True) w2 ow2 w5 (ext ow2 w2.heap.size 1) := Fro.of_kp0 1 k25
  have t1 : ext ow2 w2.heap.size 1 b1 = 1 := ext_new (by omega)
  have hD5 := hD2.fr f5 trivial trivial trivial trivial
  have hE5 := hE2.fr f5 trivial trivial trivial trivial
  have hO5 := hO2.fr f5 trivial
  generalize ext ow2 w2.heap.size 1 = ow5 at *
  refine brought_c (n := 9) (by decide) (by decide) h2.1 h2.2 ⟨_, rfl, ?_⟩
  rw [hwM]
  refine made_c (ow := ow5) (by omega) (by omega) 70 80 (by omega) (by omega) fun p2 r2 w7 ow7 hD7 hE7 k7 ho7 => ⟨_, _, _, rfl, ?_⟩
  have f7 : Fro (fun _ => True) w5 ow5 w7 ow7 := Fro.new k7 ho7
  obtain ⟨hb17, t17⟩ := blk_fr hb15 t1 f7 trivial
  refine AlF.intro fun b2 w8 hb2e hb28 k8 s8 => st2 hb28 fun w10 hb210 k10 s10 => ?_
  have k710 : Kp no w7 w10 := kp_blk k8 (by omega) k10
  have f10 : Fro (fun _ => True) w7 ow7 w10 (ext ow7 w7.heap.size 1) := Fro.of_kp0 1 k710
  have t2 : ext ow7 w7.heap.size 1 b2 = 1 := ext_new (by omega)
  have f510 := f7.trans f10
  obtain ⟨hb110, t110⟩ := blk_fr hb17 t17 f10 trivial
  have E10 : EX w w10 (ext ow7 w7.heap.size 1) p1 r1 p2 r2 b1 b2 0 (Dv.new N) (Dv.new M) :=
    ⟨hD5.fr f510 trivial trivial trivial trivial, hE5.fr f510 trivial trivial trivial trivial, hD7.fr f10 trivial trivial trivial trivial, hE7.fr f10 trivial trivial trivial trivial, hO5.fr f510 trivial, by simp [Kl, Dv.new], by simp [Kl, Dv.new], by simp [Dv.new], by simp [Dv.new], hb110, hb210, t110, t2⟩
  generalize ext ow7 w7.heap.size 1 = ow10 at *
  refine cond_f rfl (cond_f rfl (awake_c fun w11 k11 => ⟨_, rfl, cond_f rfl ?_⟩))
  have E11 := E10.kp0 k11
  refine loopN (fun s w' => ∃ (k : Nat) (ow' : Nat → Nat) (v1 v2 : Dv), s.1 = (k : Int) ∧ k ≤ 300 ∧ EX w w' ow' p1 r1 p2 r2 b1 b2 k v1 v2) (fun s _ => L.length - s.1.toNat) ⟨0, ow10, _, _, rfl, by omega, E11⟩ ?_
  rintro ⟨k0, u'⟩ w12 ⟨k, ow12, v1, v2, hk0, hk3, E⟩ _
  dsimp only at hk0 ⊢
  subst hk0
  -- the last looks
  have fin : ∃ (p15 : Option Addr) (p16 : Option Addr), (w12.cell? ⟨b1, 0, none⟩ = some (.pointer p15) ∧ w12.cell? (Addr.add ⟨b1, 0, none⟩ 1) = some (.pointer p16) ∧ True) ∧ (CallF Try.prog F_law03_Both_looks #[(.agg #[(.pointer p15), (.pointer p16)])] w12 (fun r9 w23 => ∃ (q9 : Bool), r9 = (.bool q9) ∧ (cond q9 (∃ (p17 : Option Addr) (p18 : Option Addr), (w23.cell? ⟨b2, 0, none⟩ = some (.pointer p17) ∧ w23.cell? (Addr.add ⟨b2, 0, none⟩ 1) = some (.pointer p18) ∧ True) ∧ (CallF Try.prog F_law03_Both_looks #[(.agg #[(.pointer p17), (.pointer p18)])] w23 (fun r10 w24 => ∃ (q10 : Bool), r10 = (.bool q10) ∧ (R (.returned (.bool q10)) w24)) (PanF R))) (R (.returned (.bool false)) w23))) (PanF R)) := by
    refine ⟨_, _, ⟨c0 E.x1 rfl, cN E.x1 rfl, trivial⟩, looks_c E.d1 E.e1 (by have := E.q1; omega) fun w13 k13 => ⟨_, rfl, cond_t rfl ?_⟩⟩
    have E13 := E.kp0 k13
    exact ⟨_, _, ⟨c0 E13.x2 rfl, cN E13.x2 rfl, trivial⟩, looks_c E13.d2 E13.e2 (by have := E.q2; omega) fun w14 k14 => ⟨_, rfl, h w14 (E13.o.kp.trans0 k14)⟩⟩
  refine cond_d (fun hlt => cond_d (fun hlt2 => ?_) (fun _ => fin)) (fun _ => fin)
  clear fin
  have hkl : k < L.length := by omega
  have hkw : IntKind.wrap .i64 ((k : Int) + 1) = ((k + 1 : Nat) : Int) := by rw [wrap_i64 (by omega) (by omega)]; omega
  rw [hkw]
  have ho := hL.ok _ (List.getElem_mem hkl)
  have hln : (L[k]).keep.length * 8 ≤ 140737488355328 := by have := ho.l.ln; omega
  obtain ⟨ba, oa, hba, hca⟩ := opA hL.rd hkl
  have cell : ∀ {w' ow'}, EX w w' ow' p1 r1 p2 r2 b1 b2 k v1 v2 → ∀ q v, q < 8 → (L[k]).cs[q]? = some v → w'.cell? ⟨ba, oa + (k * 8 + q), none⟩ = some v := fun {w' ow'} E' q v hq hv => E'.o.kp.cell (hca q v hq hv) id
  refine ⟨_, _, ⟨c0 E.x1 rfl, cN E.x1 rfl, trivial⟩, AlF.intro fun b3 w13 hb3e hb313 k13 s13 => st2 hb313 fun w15 hb315 k15 s15 => ?_⟩
  have k1215 : Kp no w12 w15 := kp_blk k13 (by omega) k15
  have f15 : Fro (fun _ => True) w12 ow12 w15 (ext ow12 w12.heap.size 2) := Fro.of_kp0 2 k1215
  have t3 : ext ow12 w12.heap.size 2 b3 = 2 := ext_new (by omega)
  have E15 := E.fr f15 trivial trivial fun _ _ => trivial
  generalize ext ow12 w12.heap.size 2 = ow15 at *
  refine ⟨fun _ w' => EX w w' ow15 p1 r1 p2 r2 b1 b2 k v1 v2 ∧ Blk w' b3 #[.pointer (some ⟨if (L[k]).two then p2 else p1, 0, none⟩), .pointer (some ⟨if (L[k]).two then r2 else r1, 0, none⟩)] T_quotalaw03_Both, ?_, ?_⟩
  · refine ⟨by omega, hlt, _, hba, (L[k]).two, ?_, cond_b (fun ht => ?_) (fun ht => ?_)⟩
    · rw [Int.toNat_natCast, add_at, add_at, Nat.add_assoc]
      exact cell E15 1 _ (by omega) rfl
    · refine ⟨_, _, ⟨c0 E15.x2 rfl, cN E15.x2 rfl, trivial⟩, stb rfl hb315 t3 (by simp) fun w16 hb316 f16 s16 => stb (add1 b3 1) hb316 t3 (by simp) fun w17 hb317 f17 s17 => ?_⟩
      exact ⟨E15.fr (f16.trans f17) (by decide) (by decide) (fun x hx => by omega), by rw [ht]; exact hb317⟩
    · exact ⟨E15, by rw [ht]; exact hb315⟩
  rintro _ w18 ⟨E18, hb318⟩ _
  have kd : Kp no w18 w18.drew := Kp.drew w18 1
  have Ed := E18.kp0 kd
  have hb3d := kd.blk hb318 id
  refine ⟨_, _, ⟨c0 hb3d rfl, cN hb3d rfl, trivial⟩, opI (hL.rd.kp0 Ed.o.kp) hkl rfl rfl ?_⟩
  -- behind the call
  have nxt : ∀ {w19 ow19} (V1 V2 : Dv), EX w w19 ow19 p1 r1 p2 r2 b1 b2 (k + 1) V1 V2 →
      (JoinF (S := Bool × Unit) (fun K14 => (cond true (IdxF a1 (k : Int) L.length fun d3 => (∃ (n11 : Int), w19.cell? (d3.add (Int.toNat (k : Int) * 8)) = some (.int .i64 n11) ∧ (cond (n11 == (7 : Int)) (∃ (p11 : Option Addr) (p12 : Option Addr), (w19.cell? ⟨b1, 0, none⟩ = some (.pointer p11) ∧ w19.cell? (Addr.add ⟨b1, 0, none⟩ 1) = some (.pointer p12) ∧ True) ∧ (CallF Try.prog F_law03_Both_looks #[(.agg #[(.pointer p11), (.pointer p12)])] w19 (fun r7 w20 => ∃ (q7 : Bool), r7 = (.bool q7) ∧ (cond q7 (∃ (p13 : Option Addr) (p14 : Option Addr), (w20.cell? ⟨b2, 0, none⟩ = some (.pointer p13) ∧ w20.cell? (Addr.add ⟨b2, 0, none⟩ 1) = some (.pointer p14) ∧ True) ∧ (CallF Try.prog F_law03_Both_looks #[(.agg #[(.pointer p13), (.pointer p14)])] w20 (fun r8 w21 => ∃ (q8 : Bool), r8 = (.bool q8) ∧ (K14 (q8, ()) w21)) (PanF R))) (K14 (false, ()) w20))) (PanF R))) (K14 (true, ()) w19)))) (K14 (true, ()) w19)))
        (fun s14 w22 => ∀ _J : Env, (cond (!s14.1) (R (.returned (.bool false)) w22) ((∃ (k' : Nat) (ow' : Nat → Nat) (v1 v2 : Dv), ((k + 1 : Nat) : Int) = (k' : Int) ∧ k' ≤ 300 ∧ EX w w22 ow' p1 r1 p2 r2 b1 b2 k' v1 v2) ∧ L.length - Int.toNat ((k + 1 : Nat) : Int) < L.length - Int.toNat (k : Int))))) := fun {w19 ow19} V1 V2 E19 => by
    refine ⟨fun s w' => s = (true, ()) ∧ EX w w' ow19 p1 r1 p2 r2 b1 b2 (k + 1) V1 V2, cond_t rfl ⟨by omega, hlt, _, hba, (L[k]).kind, ?_, cond_eq (fun h7 => ?_) (fun h7 => ⟨rfl, E19⟩)⟩, ?_⟩
    · rw [Int.toNat_natCast, add_at]
      exact E19.o.kp.cell (hca 0 _ (by omega) rfl) id
    · refine ⟨_, _, ⟨c0 E19.x1 rfl, cN E19.x1 rfl, trivial⟩, looks_c E19.d1 E19.e1 (by have := E19.q1; omega) fun w20 k20 => ⟨_, rfl, cond_t rfl ?_⟩⟩
      have E20 := E19.kp0 k20
      exact ⟨_, _, ⟨c0 E20.x2 rfl, cN E20.x2 rfl, trivial⟩, looks_c E20.d2 E20.e2 (by have := E20.q2; omega) fun w21 k21 => ⟨_, rfl, rfl, E20.kp0 k21⟩⟩
    · rintro s w22 ⟨rfl, E22⟩ _
      exact cond_f rfl ⟨⟨k + 1, ow19, V1, V2, rfl, by omega, E22⟩, by simp only [Int.toNat_natCast]; omega⟩
  have hq1 := Ed.q1
  have hq2 := Ed.q2
  by_cases htw : (L[k]).two = true
  · rw [if_pos htw, if_pos htw]
    refine plays_c (o := L[k]) (t := 70) (u := 80) (by decide) (by decide) Ed.d2 Ed.e2 Ed.o ho (by omega) Ed.k2 fun w19 ow19 hD19 hE19 f19 => ⟨_, rfl, ?_⟩
    have g1 := blk_fr Ed.x1 Ed.t1 f19 (by decide)
    have g2 := blk_fr Ed.x2 Ed.t2 f19 (by decide)
    exact nxt v1 (v2.callX L[k]) ⟨Ed.d1.fr f19 (by decide) (by decide) (by decide) (by decide), Ed.e1.fr f19 (by decide) (by decide) (by decide) (by decide), hD19, hE19, Ed.o.fr f19 (by decide), Ed.k1, Ed.k2.callX hln, by omega, by have := Dv.callX_q v2 L[k]; omega, g1.1, g2.1, g1.2, g2.2⟩
  · rw [if_neg htw, if_neg htw]
    refine plays_c (o := L[k]) (t := 50) (u := 60) (by decide) (by decide) Ed.d1 Ed.e1 Ed.o ho (by omega) Ed.k1 fun w19 ow19 hD19 hE19 f19 => ⟨_, rfl, ?_⟩
    have g1 := blk_fr Ed.x1 Ed.t1 f19 (by decide)
    have g2 := blk_fr Ed.x2 Ed.t2 f19 (by decide)
    exact nxt (v1.callX L[k]) v2 ⟨hD19, hE19, Ed.d2.fr f19 (by decide) (by decide) (by decide) (by decide), Ed.e2.fr f19 (by decide) (by decide) (by decide) (by decide), Ed.o.fr f19 (by decide), Ed.k1.callX hln, Ed.k2, by have := Dv.callX_q v1 L[k]; omega, by omega, g1.1, g2.1, g1.2, g2.2⟩
theorem sectorsExact_walk {W : World} {v0 v1 v2 : Value} (h0 : ArgW Try.prog W T_int v0) (h1 : ArgW Try.prog W T_int v1) (h2 : ArgW Try.prog W T_s_quotalaw03_Op v2) :
    GoC Try.prog F_law03_SectorsExact #[v0, v1, v2] W fun e W' => e = .returned (.bool true) ∧ Kp no W W' := by
  obtain ⟨n, rfl, w0⟩ := h0.arg.int (k := .i64) (by kernel_rfl)
  obtain ⟨m, rfl, w1⟩ := h1.arg.int (k := .i64) (by kernel_rfl)
  obtain ⟨a1, l1, c1, L1, rfl, p1⟩ := ops_open h2
  exact exact_c (i64_wf w0) (i64_wf w1) p1 fun w' k => ⟨rfl, k⟩
end Go.Proofs.Ytkhdmbgcbogndaa
