/- The statement SectorsSynced: its walk. Conditions: none. -/
import Derived.Test.YtkhdmbgcbogndaaTr
set_option linter.unusedVariables false
set_option linter.unusedSimpArgs false
namespace Go.Proofs.Ytkhdmbgcbogndaa
open Go Go.RowKit

theorem brought9 {x : Int} : 0 ≤ x % 9 ∧ x % 9 < 9 := ⟨Int.emod_nonneg _ (by omega), Int.emod_lt_of_pos _ (by omega)⟩

set_option maxRecDepth 100000 in
theorem synced_c {w : World} {size : Int} {a1 a2 a3 : Option Addr} {l1 c1 l2 c2 l3 c3 : Nat} {L1 L2 : List PU} {keep : List Nat} {torn off : Int} {R : Ending → World → Prop} (hsz : -9223372036854775808 ≤ size ∧ size ≤ 9223372036854775807)
    (h1 : PutsOk w a1 l1 c1 L1) (h2 : PutsOk w a2 l2 c2 L2) (h3 : LossOk w a3 l3 keep torn off) (h : ∀ w', Kp no w w' → R (.returned (.bool true)) w') :
    GoC Try.prog F_law03_SectorsSynced #[.int .i64 size, .slice a1 l1 c1, .slice a2 l2 c2, .agg #[.slice a3 l3 c3, .int .i64 torn, .int .i64 off]] w R := by
  refine S_law03_SectorsSynced ?_
  unfold W_law03_SectorsSynced
  have h3n := h3.n
  subst h3n
  refine AlF.intro fun b1 w1 hb1e hb1 k1 s1 => ?_
  have hO1 : Old w w1 (ext (fun _ => 0) w.heap.size 1) := ⟨k1, fun k hk => ext_old hk⟩
  have ht1 : ext (fun _ => 0) w.heap.size 1 b1 = 1 := ext_new (by omega)
  generalize ext (fun _ => 0) w.heap.size 1 = ow1 at *
  have hb9 := brought9 (x := size)
  refine brought_c (n := 9) (by decide) (by decide) hsz.1 hsz.2 ⟨_, rfl, ?_⟩
  obtain ⟨N, hN⟩ : ∃ N : Nat, (N : Int) = 1 + size % 9 := ⟨(1 + size % 9).toNat, by omega⟩
  have hw9 : IntKind.wrap .i64 (1 + size % 9) = (N : Int) := by rw [wrap_i64 (by omega) (by omega)]; exact hN.symm
  rw [hw9]
  have hN1 : 1 ≤ N := by omega
  have hN9 : N ≤ 9 := by omega
  refine new_c (n := N) (ow := ow1) hN1 (by omega) 50 fun b w3 ow3 hD3 k3 ho3 hb3 => ⟨_, _, rfl, cond_f rfl (num_c ⟨_, rfl, cond_f rfl ?_⟩)⟩
  have f3 : Fro (fun _ => True) w1 ow1 w3 ow3 := Fro.new k3 ho3
  have hO3 := hO1.fr f3 trivial
  obtain ⟨hb13, ht13⟩ := blk_fr hb1 ht1 f3 trivial
  refine awake_c fun w5 k5 => ⟨_, rfl, cond_f rfl ?_⟩
  have hO5 := hO3.fr (Fro.kp0 k5) trivial
  have hD5 := hD3.kp0 k5
  have hb15 := k5.blk hb13 id
  have hvn := new_n N
  refine size_c hD5 ⟨_, rfl, ?_⟩
  rw [hvn]
  refine cutPuts_c h1.lc fun c4 => ⟨_, _, _, rfl, cutPuts_c h2.lc fun c5 => ⟨_, _, _, rfl, ?_⟩⟩
  have hm1 : (L1.take 120).length = min l1 120 := by rw [List.length_take, h1.n, Nat.min_comm]
  have hm2 : (L2.take 120).length = min l2 120 := by rw [List.length_take, h2.n, Nat.min_comm]
  have hR1 : RdT w5 ow3 (fun x => x = 0) a1 (fU (L1.take 120)) := hO5.rdT (h1.rd.take' 120)
  have hR2 : RdT w5 ow3 (fun x => x = 0) a2 (fU (L2.take 120)) := hO5.rdT (h2.rd.take' 120)
  have hok1 : ∀ x ∈ L1.take 120, x.Ok := fun x hx => h1.ok x (List.mem_of_mem_take hx)
  have hok2 : ∀ x ∈ L2.take 120, x.Ok := fun x hx => h2.ok x (List.mem_of_mem_take hx)
  have h120a : (L1.take 120).length ≤ 120 := by omega
  have h120b : (L2.take 120).length ≤ 120 := by omega
  rw [← hm1, ← hm2]
  generalize L1.take 120 = M1 at *
  generalize L2.take 120 = M2 at *
  have hK5 : RdT w5 ow3 (fun x => x = 0) a3 (keep.map u64v) := hO5.rdT h3.rd
  have hwn : IntKind.wrap .i64 ((N : Int) * 512) = ((N * 512 : Nat) : Int) := by rw [wrap_i64 (by omega) (by omega)]; omega
  rw [hwn]
  refine make_u8 (n := N * 512) (by omega) fun bp w9 cur hbp hcur k9 hbe => ⟨_, _, _, rfl, ?_⟩
  have f9 : Fro (fun _ => True) w5 ow3 w9 (ext ow3 w5.heap.size 2) := Fro.of_kp0 2 k9
  have hO9 := hO5.fr f9 trivial
  have hD9 := hD5.fr f9 trivial trivial trivial trivial
  have hR19 := hR1.fr f9 fun _ _ => trivial
  have hR29 := hR2.fr f9 fun _ _ => trivial
  have hK9 := hK5.fr f9 fun _ _ => trivial
  obtain ⟨hb19, ht19⟩ := blk_fr hb15 ht13 f9 trivial
  have hzl : (List.replicate (N * 512) (0 : UInt8)).length = N * 512 := List.length_replicate
  have hP9 : SlT w9 (ext ow3 w5.heap.size 2) T_uint8 1 (some ⟨bp, 0, none⟩) (N * 512) (N * 512) (bvs (List.replicate (N * 512) 0)) 2 := by
    refine ⟨⟨by rw [bvs_len, hzl]; omega, Nat.le_refl _, .inr ⟨bp, cur, rfl, hbp, ?_, ?_⟩⟩, fun j hj => ?_⟩
    · have := congrArg List.length hcur
      rw [bvs_len, hzl] at this
      simpa using this
    · rw [hcur, List.take_of_length_le (by rw [bvs_len, hzl]; omega)]
    · obtain ⟨_, he, rfl⟩ := hj
      cases he
      exact ext_new (by show w5.heap.size ≤ bp; omega)
  generalize ext ow3 w5.heap.size 2 = ow9 at *
  have hqok : ∀ (M : List PU), ∀ p ∈ M.map (PU.q N), 0 ≤ p.1 ∧ p.1 < (N : Int) ∧ p.2.length = 512 := fun M p hp => by
    obtain ⟨x, _, rfl⟩ := List.mem_map.1 hp
    exact ⟨Int.emod_nonneg _ (by omega), Int.emod_lt_of_pos _ (by omega), fillN_len _ _⟩
  have el : lenO 0 = 512 := by decide
  refine loopN (fun s w' => ∃ (k : Nat) (ow' : Nat → Nat), s.1 = (k : Int) ∧ k ≤ M1.length ∧ SlT w' ow' T_uint8 1 (some ⟨bp, 0, none⟩) (N * 512) (N * 512) (bvs (syncL ((M1.take k).map (PU.q N)) (List.replicate (N * 512) 0))) 2 ∧ Fro (fun u => u ≠ 2) w9 ow9 w' ow') (fun s _ => M1.length - s.1.toNat)
    ⟨0, ow9, rfl, by omega, by simpa [syncL] using hP9, ⟨Kp.refl _ _, fun _ _ _ => rfl⟩⟩ ?_
  rintro ⟨k0, u⟩ w10 ⟨k, ow10, hk0, hkl, hP, f10⟩ _
  dsimp only at hk0 ⊢
  subst hk0
  refine cond_d (fun hlt => ?_) (fun hge => ?_)
  · have hk : k < M1.length := by omega
    have hkw : IntKind.wrap .i64 ((k : Int) + 1) = ((k + 1 : Nat) : Int) := by rw [wrap_i64 (by omega) (by omega)]; omega
    rw [hkw]
    have hR10 := hR19.fr f10 fun u hu => by omega
    have kd : Kp no w10 w10.drew := Kp.drew w10 1
    obtain ⟨b5, o5, ha5, hc1, hc2⟩ := puI (S := fun w' => Rd w' a1 (fU M1)) hR10.rd (fun w' hw => hw) hk
    have hxo := hok1 _ (List.getElem_mem hk)
    have hil : (syncL ((M1.take k).map (PU.q N)) (List.replicate (N * 512) 0)).length = N * 512 := syncL_len N _ _ hzl (hqok _)
    have hnext : syncL ((M1.take (k + 1)).map (PU.q N)) (List.replicate (N * 512) 0) = ovr (syncL ((M1.take k).map (PU.q N)) (List.replicate (N * 512) 0)) (((M1[k]).i % (N : Int)).toNat * 512) (fillN (M1[k]).f 512) := by
      rw [take_snoc_get M1 k hk, List.map_append, syncL_app]
      rfl
    have hm0 := Int.emod_nonneg (M1[k]).i (by omega : (N : Int) ≠ 0)
    have hm9 := Int.emod_lt_of_pos (M1[k]).i (by omega : 0 < (N : Int))
    generalize syncL ((M1.take k).map (PU.q N)) (List.replicate (N * 512) 0) = img at *
    refine ⟨fun w' => Rd w' a1 (fU M1), hR10.rd.kp0 kd, by omega, hlt, _, ha5, (M1[k]).i, fun w' hw => by rw [Int.toNat_natCast]; exact hc1 w' hw, by omega, hlt, _, ha5, ((M1[k]).f.toNat : Int), fun w' hw => by rw [Int.toNat_natCast]; exact hc2 w' hw, ?_⟩
    refine brought_c (by omega) (by omega) hxo.1 hxo.2 ⟨_, rfl, hR10.rd.kp0 kd, ?_⟩
    have hoff : IntKind.wrap .i64 ((M1[k]).i % (N : Int) * 512) = ((((M1[k]).i % (N : Int)).toNat * 512 : Nat) : Int) := by rw [wrap_i64 (by omega) (by omega)]; omega
    rw [hoff]
    refine ⟨trivial, ⟨by omega, by simp only [hiOf]; omega⟩, ?_⟩
    refine filled_c fun a7 w12 hs12 k12 fr12 => ⟨_, _, _, rfl, ?_⟩
    rw [el] at hs12 ⊢
    have f12 : Fro (fun _ => True) w10.drew ow10 w12 (ext ow10 w10.drew.heap.size 1) := Fro.of_kp0 1 k12
    have fd : Fro (fun _ => True) w10 ow10 w10.drew ow10 := Fro.kp0 kd
    have hP12 := (hP.fr fd trivial).fr f12 trivial
    have hR12 := (hR10.fr fd fun _ _ => trivial).fr f12 fun _ _ => trivial
    generalize ext ow10 w10.drew.heap.size 1 = ow12 at *
    refine ⟨hR12.rd, ?_⟩
    rw [Int.toNat_natCast]
    have hfl : (fillN (M1[k]).f 512).length = 512 := fillN_len _ _
    have hcp := copy_own (sa := a7) (bs := fillN (M1[k]).f 512) (dl := N * 512 - ((M1[k]).i % (N : Int)).toNat * 512) (dc := N * 512 - ((M1[k]).i % (N : Int)).toNat * 512) (sc := 512) (o := ((M1[k]).i % (N : Int)).toNat * 512) hP12 hs12.rd (fun h0 => by
        have := hs12
        rw [h0] at this
        have := this.zero.1
        omega) (by omega) (by omega) (K := fun r11 w13 => ∃ (n11 : Int), r11 = (.int .i64 n11) ∧ (Rd w13 a1 (fU M1) ∧ ((∃ (k' : Nat) (ow' : Nat → Nat), ((k + 1 : Nat) : Int) = (k' : Int) ∧ k' ≤ M1.length ∧ SlT w13 ow' T_uint8 1 (some ⟨bp, 0, none⟩) (N * 512) (N * 512) (bvs (syncL ((M1.take k').map (PU.q N)) (List.replicate (N * 512) 0))) 2 ∧ Fro (fun u => u ≠ 2) w9 ow9 w13 ow') ∧ M1.length - Int.toNat ((k + 1 : Nat) : Int) < M1.length - Int.toNat (k : Int))))
      fun w13 hs13 k13 f13 => ⟨_, rfl, (hR12.fr f13 fun u hu => by omega).rd, ⟨k + 1, ow12, rfl, by omega, by rw [hnext]; exact hs13, ((f10.trans (fd.mono fun _ _ => trivial)).trans (f12.mono fun _ _ => trivial)).trans f13⟩, by simp only [Int.toNat_natCast]; omega⟩
    rw [hfl] at hcp
    exact hcp
  have hke : k = M1.length := by omega
  subst hke
  rw [List.take_length] at hP
  generalize hW : syncL (M1.map (PU.q N)) (List.replicate (N * 512) 0) = want at *
  have hwl : want.length = N * 512 := by rw [← hW]; exact syncL_len N _ _ hzl (hqok _)
  have hD10 := hD9.fr f10 (by omega) (by omega) (by omega) (by omega)
  have hO10 := hO9.fr f10 (by omega)
  have hR110 := hR19.fr f10 fun u hu => by omega
  have hR210 := hR29.fr f10 fun u hu => by omega
  have hK10 := hK9.fr f10 fun u hu => by omega
  obtain ⟨hb110, ht110⟩ := blk_fr hb19 ht19 f10 (by omega)
  have hU : ∀ u, u = 0 → Td 50 u := fun u hu => by subst hu; decide
  have z0 : ([] : List Nat).length * 8 ≤ 140737488355328 := by simp
  refine wrote_c (v := Dv.new N) (most := 120) hD10 hR110 hU rfl (by decide) rfl rfl hok1 (by simp [Dv.new]) z0 fun w14 ow14 hD14 f14 => ⟨_, rfl, cond_f rfl ?_⟩
  rw [List.take_of_length_le h120a] at hD14
  have F1 := wroteL_f M1 (Dv.new N)
  have F1q := F1.q
  rw [hvn] at F1q
  generalize hV1 : wroteL (Dv.new N) M1 = V1 at *
  have hq1 : V1.q = M1.map (PU.q N) := by rw [F1q]; rfl
  have hq1l : V1.q.length = M1.length := by rw [hq1, List.length_map]
  refine cache_c (v := V1) hD14 (by omega) fun a8 c8 X8 w15 hC15 _ => ⟨_, _, _, rfl, cond_f (by rw [hq1l]; simp) ?_⟩
  have hD15 := hD14.kp0 hC15.k
  have f15 : Fro (Td 50) w10 ow10 w15 ow14 := f14.trans ((Fro.kp0 hC15.k).mono fun _ _ => trivial)
  have hs1 : V1.sync = (0, V1.bump.synced) := by unfold Dv.sync; rw [F1.down, if_neg (by simp [Dv.new]), if_neg (by rw [F1.step rfl]; decide)]
  refine sync_c (v := V1) hD15 (by omega) (by rw [F1.keep]; exact z0) fun w16 ow16 hD16 f16 => ⟨_, rfl, num_c ⟨_, rfl, cond_f (by rw [hs1]; rfl) ?_⟩⟩
  rw [hs1] at hD16
  have hV2img : V1.bump.synced.img = want := by show syncL V1.q V1.img = want; rw [hq1, F1.img]; exact hW
  have hV2q : V1.bump.synced.q = [] := rfl
  have hV2d : V1.bump.synced.down = false := F1.down
  have hV2s : V1.bump.synced.step = 0 := by show (if V1.step = 0 then (0 : Int) else V1.step - 1) = 0; rw [if_pos (F1.step rfl)]
  have hV2k : V1.bump.synced.keep = [] := F1.keep
  have hV2n : V1.bump.synced.n = N := Dv.n_of (by rw [hV2img]; exact hwl)
  generalize V1.bump.synced = V2 at *
  have f106 := f15.trans f16
  refine cache_c (v := V2) hD16 (by rw [hV2q]; simp) fun a9 c9 X9 w18 hC18 _ => ⟨_, _, _, rfl, cond_f (by rw [hV2q]; rfl) ?_⟩
  have hD18 := hD16.kp0 hC18.k
  refine image_c (v := V2) hD18 fun a10 c10 w19 hs19 k19 fr19 => ⟨_, _, _, rfl, ?_⟩
  rw [hV2img] at hs19 ⊢
  have f1019 : Fro (Td 50) w10 ow10 w19 ow16 := (f106.trans ((Fro.kp0 hC18.k).mono fun _ _ => trivial)).trans ((Fro.kp0 k19).mono fun _ _ => trivial)
  have hP19 := hP.fr f1019 (by decide)
  have nz : want.length ≠ 0 := by omega
  have nnS : ∀ {a : Option Addr} {l : Nat}, Rd w19 a (bvs want) → a = none → l = 0 := fun {a l} hr h0 => by
    obtain ⟨_, _, he, _⟩ := hr 0 (bv (want[0]'(by omega))) (bvs_get _)
    rw [h0] at he
    cases he
  refine same_c hs19.rd rfl (nnS hs19.rd) hP19.sl.rd hwl (fun h0 => by cases h0) ⟨_, rfl, cond_f (by simp) ?_⟩
  have hD19 := hD18.kp0 k19
  have hR219 := hR210.fr f1019 hU
  refine wrote_c (v := V2) (most := 120) hD19 hR219 hU rfl (by decide) hV2d hV2s hok2 (by rw [hV2q]; simp) (by rw [hV2k]; exact z0) fun w21 ow21 hD21 f21 => ⟨_, rfl, cond_f rfl ?_⟩
  rw [List.take_of_length_le h120b] at hD21
  have F2 := wroteL_f M2 V2
  have F2q := F2.q
  rw [hV2n] at F2q
  generalize hV3 : wroteL V2 M2 = V3 at *
  have hq3 : V3.q = M2.map (PU.q N) := by rw [F2q, hV2q]; rfl
  have hq3l : V3.q.length = M2.length := by rw [hq3, List.length_map]
  have hi3 : V3.img = want := by rw [F2.img]; exact hV2img
  refine image_c (v := V3) hD21 fun a11 c11 w22 hs22 k22 fr22 => ⟨_, _, _, rfl, ?_⟩
  rw [hi3] at hs22 ⊢
  have f1022 : Fro (Td 50) w10 ow10 w22 ow21 := (f1019.trans f21).trans ((Fro.kp0 k22).mono fun _ _ => trivial)
  have hP22 := hP.fr f1022 (by decide)
  refine same_c hs22.rd rfl (fun h0 => by
    obtain ⟨_, _, he, _⟩ := hs22.rd 0 (bv (want[0]'(by omega))) (bvs_get _)
    rw [h0] at he
    cases he) hP22.sl.rd hwl (fun h0 => by cases h0) ⟨_, rfl, cond_f (by simp) ?_⟩
  obtain ⟨hb122, ht122⟩ := blk_fr hb110 ht110 f1022 (by decide)
  have hK22 := hK10.fr f1022 hU
  have hD22 := hD21.kp0 k22
  have hcr : V3.crash keep torn off = (0, V3.fall keep torn off) := by unfold Dv.crash; rw [F2.down, hV2d, if_neg (by decide)]
  refine ⟨_, _, _, _, _, ⟨c0 hb122 rfl, cN hb122 rfl, cN hb122 rfl, trivial⟩, ?_⟩
  refine crash_c (v := V3) hD22 ⟨hK22.mono hU, h3.lt, by have := h3.ln; omega, h3.nn⟩ (by omega) fun w24 ow24 hD24 f24 => ⟨_, rfl, num_c ⟨_, rfl, cond_f (by rw [hcr]; rfl) ?_⟩⟩
  rw [hcr] at hD24
  have hgi : (V3.fall keep torn off).img = fallL keep torn off 0 (M2.map (PU.q N)) want := by show fallL keep torn off 0 V3.q V3.img = _; rw [hq3, hi3]
  have hgl : (fallL keep torn off 0 (M2.map (PU.q N)) want).length = N * 512 := fallL_len keep torn off N _ 0 want hwl (hqok _)
  have hcb : ∀ i, i < N * 512 → _ := fun i hi => crash_byte (keep := keep) (torn := torn) (off := off) (n := N) (i := i) (img := want) (M := M2) (by omega) hi hwl
  have hgq : (V3.fall keep torn off).q = [] := rfl
  refine image_c (v := V3.fall keep torn off) hD24 fun a13 c13 w26 hs26 k26 fr26 => ⟨_, _, _, rfl, ?_⟩
  rw [hgi] at hs26 ⊢
  generalize fallL keep torn off 0 (M2.map (PU.q N)) want = got at *
  refine cond_f (by rw [hgl]; simp) ?_
  have hD26 := hD24.kp0 k26
  refine cache_c (v := V3.fall keep torn off) hD26 (by rw [hgq]; simp) fun a14 c14 X14 w27 hC27 _ => ⟨_, _, _, rfl, cond_f (by rw [hgq]; rfl) ?_⟩
  have f1027 : Fro (Td 50) w10 ow10 w27 ow24 := ((f1022.trans f24).trans ((Fro.kp0 k26).mono fun _ _ => trivial)).trans ((Fro.kp0 hC27.k).mono fun _ _ => trivial)
  have hP27 := hP.fr f1027 (by decide)
  have hR227 := hR210.fr f1027 hU
  have hK27 := hK10.fr f1027 hU
  have hO27 := hO10.fr f1027 (hU 0 rfl)
  obtain ⟨hb127, ht127⟩ := blk_fr hb110 ht110 f1027 (by decide)
  have hG27 := hs26.rd.kp0 hC27.k
  rw [hgl]
  refine loopN (fun s w' => Kp no w27 w' ∧ ∃ k : Nat, s.1 = (k : Int)) (fun s _ => N * 512 - s.1.toNat) ⟨Kp.refl _ _, 0, rfl⟩ ?_
  rintro ⟨k0, u'⟩ w28 ⟨k28, i, hk0⟩ _
  dsimp only at hk0 ⊢
  subst hk0
  refine cond_d (fun hlt => ?_) (fun hge => h w28 (hO27.kp.trans0 k28))
  have hi : i < N * 512 := by omega
  have hiw : IntKind.wrap .i64 ((i : Int) + 1) = ((i + 1 : Nat) : Int) := by rw [wrap_i64 (by omega) (by omega)]; omega
  rw [hiw]
  obtain ⟨cb1, cb2⟩ := hcb i hi
  refine rd_byte (hG27.kp0 k28) (by omega) rfl hgl ?_
  refine rd_byte (hP27.sl.rd.kp0 k28) (by omega) rfl hwl ?_
  intro kz
  have kz' : Kp no w28 (w28.drewN kz) := Kp.drew w28 kz
  rw [u8_eq]
  have e512 : IntKind.wrap .i64 (Int.tdiv (i : Int) 512) = ((i / 512 : Nat) : Int) := by
    rw [show Int.tdiv (i : Int) 512 = ((i / 512 : Nat) : Int) from rfl]
    exact wrap_i64 (by omega) (by omega)
  have et : Int.tmod (i : Int) 512 = ((i % 512 : Nat) : Int) := rfl
  rw [e512, et]
  generalize hg : got.getD i 0 = g at *
  generalize hwn' : want.getD i 0 = wn at *
  have next : ∀ w', Kp no w27 w' → ((Kp no w27 w' ∧ ∃ k : Nat, ((i + 1 : Nat) : Int) = (k : Int)) ∧ N * 512 - Int.toNat ((i + 1 : Nat) : Int) < N * 512 - Int.toNat (i : Int)) := fun w' k' => ⟨⟨k', i + 1, rfl⟩, by simp only [Int.toNat_natCast]; omega⟩
  refine loopN (fun s w' => ∃ (kk : Nat), s.2.2.1 = (kk : Int) ∧ kk ≤ M2.length ∧ Kp no w27 w' ∧ ByI N i g wn M2 kk s.1 s.2.1) (fun s _ => M2.length - s.2.2.1.toNat)
    ⟨0, rfl, by omega, k28.trans0 kz', ⟨⟨fun hh => .inl (of_decide_eq_true hh), fun hh => decide_eq_true (hh.elim id fun ⟨j, _, hj, _⟩ => absurd hj (by omega))⟩, .inl ⟨rfl, fun j _ hj => absurd hj (by omega)⟩⟩⟩ ?_
  rintro ⟨may, last, k0, u''⟩ w29 ⟨kk, hk0, hkk, k29, hB⟩ _
  dsimp only at hk0 hB ⊢
  subst hk0
  refine cond_d (fun hlt2 => ?_) (fun hge2 => ?_)
  · have hkk' : kk < M2.length := by omega
    have hkw : IntKind.wrap .i64 ((kk : Int) + 1) = ((kk + 1 : Nat) : Int) := by rw [wrap_i64 (by omega) (by omega)]; omega
    rw [hkw]
    have hxo := hok2 _ (List.getElem_mem hkk')
    refine pu_i (hR227.rd.kp0 k29) hkk' rfl rfl (brought_c (by omega) (by omega) hxo.1 hxo.2 ⟨_, rfl, by decide, cond_eq (fun hs => ?_) (fun hns => ?_)⟩)
    · cases may with
      | true =>
        refine cond_t rfl fun k2 => ⟨⟨kk + 1, rfl, by omega, k29.trans0 (Kp.drew w29 k2), hB.hit hkk' hs ⟨fun _ => .inl rfl, fun _ => rfl⟩⟩, by simp only [Int.toNat_natCast]; omega⟩
      | false =>
        refine cond_f rfl (rd_byte (hG27.kp0 k29) (by omega) rfl hgl (pu_f (hR227.rd.kp0 k29) hkk' rfl rfl ⟨by decide, by decide, fun k2 => ?_⟩))
        rw [fill_i _ (by omega), u8_eq, hg]
        exact ⟨⟨kk + 1, rfl, by omega, k29.trans0 (Kp.drew w29 k2), hB.hit hkk' hs ⟨fun hh => .inr (of_decide_eq_true hh), fun hh => by rcases hh with hh | hh; cases hh; exact decide_eq_true hh⟩⟩, by simp only [Int.toNat_natCast]; omega⟩
    · exact ⟨⟨kk + 1, rfl, by omega, k29, hB.skip hkk' hns⟩, by simp only [Int.toNat_natCast]; omega⟩
  have hkke : kk = M2.length := by omega
  subst hkke
  have hmay : may = true := hB.m.2 (by rcases cb1 with hh | ⟨j, hj, h1', h2'⟩; exact .inl hh; exact .inr ⟨j, hj, hj, h1', h2'⟩)
  have kd29 : Kp no w29 w29.drew := Kp.drew w29 1
  refine ⟨fun w' => Kp no w27 w', k29.trans0 kd29, cond_d (fun hl0 => ?_) (fun hl1 => ?_)⟩
  · rcases hB.l with ⟨hl, _⟩ | ⟨j, hj, _, hl, hjs, hjl⟩
    · omega
    rw [hl]
    refine ⟨_, _, _, _, _, fun w' kz => ⟨c0 (kz.blk hb127 id) rfl, cN (kz.blk hb127 id) rfl, cN (kz.blk hb127 id) rfl, trivial⟩, ?_⟩
    refine Kept_c (k := j) (hK27.rd.kp0 (k29.trans0 kd29)) h3.lt (by have := h3.ln; omega) (by omega) fun w31 k31 => ⟨_, rfl, (k29.trans0 kd29).trans0 k31, cond_b (fun hkt => ?_) (fun hkf => ?_)⟩
    · refine rd_byteS (S := fun w' => Kp no w27 w') ((k29.trans0 kd29).trans0 k31) (fun w' kz => hG27.kp0 kz) (by omega) rfl hgl (pu_fS (S := fun w' => Kp no w27 w') ((k29.trans0 kd29).trans0 k31) (fun w' kz => hR227.rd.kp0 kz) hj rfl rfl ⟨by decide, by decide, ?_⟩)
      have hgb := cb2 j hj hjs (fun j' hj' h6 => hjl j' hj' h6 hj') hkt
      rw [fill_i _ (by omega), hg]
      refine cond_f ?_ (cond_f (by rw [hmay]; rfl) (next _ ((k29.trans0 kd29).trans0 k31)))
      rw [hgb]
      unfold bet
      simp
    · exact cond_f (by rw [hmay]; rfl) (next _ ((k29.trans0 kd29).trans0 k31))
  · exact cond_f (by rw [hmay]; rfl) (next _ (k29.trans0 kd29))
theorem sectorsSynced_walk {W : World} {v0 v1 v2 v3 : Value} (h0 : ArgW Try.prog W T_int v0) (h1 : ArgW Try.prog W T_s_quotalaw03_Put v1) (h2 : ArgW Try.prog W T_s_quotalaw03_Put v2) (h3 : ArgW Try.prog W T_api_Loss v3) :
    GoC Try.prog F_law03_SectorsSynced #[v0, v1, v2, v3] W fun e W' => e = .returned (.bool true) ∧ Kp no W W' := by
  obtain ⟨n, rfl, w0⟩ := h0.arg.int (k := .i64) (by kernel_rfl)
  obtain ⟨a1, l1, c1, L1, rfl, p1⟩ := puts_open h1
  obtain ⟨a2, l2, c2, L2, rfl, p2⟩ := puts_open h2
  obtain ⟨a3, l3, c3, keep, torn, off, rfl, p3⟩ := loss_open h3
  exact synced_c (i64_wf w0) p1 p2 p3 fun w' k => ⟨rfl, k⟩
end Go.Proofs.Ytkhdmbgcbogndaa
