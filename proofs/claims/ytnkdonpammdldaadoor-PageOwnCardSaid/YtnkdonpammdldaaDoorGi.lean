/- The contract of the package page's Encode, joined. Conditions: the tables stand. -/
import Derived.Test.YtnkdonpammdldaaDoorGh
set_option linter.unusedVariables false
set_option linter.unusedSimpArgs false
namespace Go.Proofs.YtnkdonpammdldaaDoor
open Go Go.RowKit

def kindN (gs : List GL) : Nat := if 0 < gs.length then 2 else 1
theorem encode_c {w : World} {p : PgV} {cs : List CL} {gs : List GL} {R : Ending → World → Prop} (hnib : Nib w) (hz : Szs w) (hp : p.In w cs gs)
    (h0 : refP p.num p.lsn cs gs ≠ 0 → ∀ w', Kp no w w' → R (.returned (.tuple #[.slice none 0 0, .int .i64 (refP p.num p.lsn cs gs : Int)])) w')
    (h1 : refP p.num p.lsn cs gs = 0 → ∀ a w', Sl w' T_uint8 1 a 1024 1024 (bvs (encB p.num p.lsn cs gs)) → Kp no w w' → Fresh w a → R (.returned (.tuple #[.slice a 1024 1024, .int .i64 0])) w') :
    GoC Tryd.prog F_page_Encode #[.agg p.cs] w R := by
  refine S_page_Encode ?_
  unfold W_page_Encode
  have hcl := hp.cl
  have hgl := hp.gl
  refine AlF.intro fun b1 w1 hb1e hb1 k1 _ => ?_
  refine ⟨p.num, p.lsn, p.ca, p.cl, p.cc, p.ga, p.gl, p.gc, ⟨hb1.cell 0, by rw [add_at]; exact hb1.cell 1, by rw [add_at]; exact hb1.cell 2, by rw [add_at]; exact hb1.cell 3, trivial⟩, ?_⟩
  refine refused_c (p := p) (hp.kp0 k1) fun w2 k2 => ⟨_, rfl, cond_ne (fun hne => h0 (by omega) w2 (k1.trans0 k2)) (fun he => ?_)⟩
  have he0 : refP p.num p.lsn cs gs = 0 := by omega
  have h1' := h1 he0
  refine make_u8 (n := 1024) (by omega) fun bb w3 cur hbb hcur k3 hbe => ⟨_, _, _, rfl, ?_⟩
  have k13 : Kp no w1 w3 := k2.trans0 k3
  have hb13 := k13.blk hb1 id
  have hsl3 := sl_new hbb hcur
  have s1 := k1.size
  have s2 := k2.size
  refine ⟨p.num, p.lsn, p.ca, p.cl, p.cc, p.ga, p.gl, p.gc, ⟨hb13.cell 0, by rw [add_at]; exact hb13.cell 1, by rw [add_at]; exact hb13.cell 2, by rw [add_at]; exact hb13.cell 3, trivial⟩, ?_⟩
  refine size_c (p := p) (hp.kp0 (k1.trans0 k13)) fun w4 k4 => ⟨_, rfl, ?_⟩
  have k04 := (k1.trans0 k13).trans0 k4
  have hfr : Fresh w (some ⟨bb, 0, none⟩) := by rintro k ⟨ad, had, rfl⟩; cases had; dsimp only; omega
  have hb1lt := hb1.lt
  have E4 : EncS w w4 b1 p (some ⟨bb, 0, none⟩) page0 := ⟨k04, k4.blk hb13 id, hsl3.kp0 k4, hfr, by rintro ⟨ad, had, hh⟩; cases had; dsimp only at hh; omega⟩
  generalize (some ⟨bb, 0, none⟩ : Option Addr) = a at *
  refine cond_eq (fun hz0 => ?_) (fun hnz => ?_)
  · refine h1' a w4 ?_ E4.kp E4.fr
    unfold encB
    rw [if_pos (by omega)]
    exact E4.sl
  refine ⟨fun s w' => w' = w4 ∧ s.1 = ((kindN gs : Nat) : Int), ?_, ?_⟩
  · refine ⟨p.ga, p.gl, p.gc, by rw [add_at]; exact E4.cp.cell 3, cond_d (fun hg => ⟨rfl, ?_⟩) (fun hg => ⟨rfl, ?_⟩)⟩
    · unfold kindN; rw [if_pos (by omega)]; rfl
    · unfold kindN; rw [if_neg (by omega)]; rfl
  rintro ⟨kd0, u10⟩ w5 ⟨hw5, hkd⟩ _
  dsimp only at hkd
  subst hkd
  rw [hw5]
  have kd : Kp no w4 w4.drew := Kp.drew w4 1
  have cc : ∀ q v, p.cs[q]? = some v → ∀ wz, Kp (Is a) w4 wz → wz.cell? ⟨b1, q, none⟩ = some v := fun q v hv wz kz => by rw [(kz.blk E4.cp E4.ap).cell]; exact hv
  obtain ⟨ah, ch, hch, hrh⟩ := hz.h
  have old : ∀ wz, Kp (Is a) w4 wz → Kp no w wz := fun wz kz => E4.kp.trans kz (fun _ _ h => h) fun j hj hh => by have := E4.fr j hh; omega
  refine ⟨fun wz => Kp (Is a) w4 wz, kd.of_no, ah, 6, ch, fun wz kz => (old wz kz).cell hch id, p.num, fun wz kz => cc 0 _ rfl wz kz, p.num, p.lsn, p.ca, p.cl, p.cc, p.ga, p.gl, p.gc, fun wz kz => ⟨cc 0 _ rfl wz kz, by rw [add_at]; exact cc 1 _ rfl wz kz, by rw [add_at]; exact cc 2 _ rfl wz kz, by rw [add_at]; exact cc 3 _ rfl wz kz, trivial⟩, p.lsn, fun wz kz => by rw [add_at]; exact cc 1 _ rfl wz kz, ?_⟩
  refine size_c (p := p) (hp.kp0 (E4.kp.trans0 kd)) fun w6 k6 => ⟨_, rfl, (kd.trans0 k6).of_no, ?_⟩
  refine AlF.intro fun b2 w7 hb2e hb2 k7 _ => ⟨((kd.trans0 k6).trans0 k7).of_no, ?_⟩
  have k47 := (kd.trans0 k6).trans0 k7
  have E7 := E4.kp0 k47
  have hcb := hp.cb
  have hgb := hp.gb
  have en : IntKind.wrap .u64 ((cs.length + gs.length : Nat) : Int) = ((cs.length + gs.length : Nat) : Int) := wrap_u64 (by omega) (by omega)
  have hlth := rd_lt hrh (by simp [ints, headS])
  have s46 := (kd.trans0 k6).size
  rw [en, u64_code, u64_code] at hb2
  have kk : kindN gs < 3 := by unfold kindN; split <;> omega
  refine enc_laid2 (ns := [113, kindN gs, u64n p.num, cs.length + gs.length, 0, u64n p.lsn]) E7 (hrh.kp0 E7.kp) rfl (fun k hk hh => by have := hlth k hh; have := E4.fr k hk; omega) hb2 (fun hh => by have := E4.sl.lt _ hh; omega) (by simp [u64s]) rfl (by simp [headS]) (fun n hn => ?_) (by decide) ⟨by omega, by omega⟩ (by simp) fun w8 E8 k8 => ⟨rfl, k47.of_no.trans0 k8, ?_⟩
  · have := u64n_lt p.num
    have := u64n_lt p.lsn
    simp only [List.mem_cons, List.not_mem_nil, or_false] at hn
    rcases hn with rfl | rfl | rfl | rfl | rfl | rfl <;> omega
  have hc31 : cs.length ≤ 31 ∧ gs.length ≤ 84 := by
    unfold refP at he0
    split at he0
    · cases he0
    · split at he0
      · cases he0
      · split at he0
        · cases he0
        · omega
  generalize hB1 : laidP page0 0 (headS.zip [113, kindN gs, u64n p.num, cs.length + gs.length, 0, u64n p.lsn]) = B1 at E8
  refine ⟨fun _ w' => EncS w w' b1 p a (ctrsP B1 0 cs), ?_, ?_⟩
  · refine ⟨p.ca, p.cl, p.cc, by rw [add_at]; exact E8.cp.cell 2, ?_⟩
    refine loopN (fun s w' => ∃ (k : Nat) (B : List UInt8), k ≤ cs.length ∧ s.1 = (k : Int) ∧ EncS w w' b1 p a B ∧ ctrsP B k (cs.drop k) = ctrsP B1 0 cs) (fun s _ => cs.length - s.1.toNat) ⟨0, B1, Nat.zero_le _, rfl, E8, rfl⟩ ?_
    rintro ⟨k0, u⟩ w9 ⟨k, B, hk, hk0, E9, hP⟩ _
    dsimp only at hk0 ⊢
    subst hk0
    refine cond_d (fun hlt => ?_) (fun hge => ?_)
    · have hkl : k < cs.length := by omega
      obtain ⟨b, o, ha, hc⟩ := (hp.kp0 E9.kp).c k hkl
      rw [List.drop_eq_getElem_cons hkl, ctrsP] at hP
      have cell : ∀ q v, (cs[k]).cs[q]? = some v → w9.cell? (Addr.add ((⟨b, o, none⟩ : Addr).add (Int.toNat (k : Int) * 5)) q) = some v := fun q v hv => by
        rw [Int.toNat_natCast, add_at, add_at]; exact hc q v hv
      have cell0 : w9.cell? ((⟨b, o, none⟩ : Addr).add (Int.toNat (k : Int) * 5)) = some (.int .i64 (cs[k]).id) := by
        rw [Int.toNat_natCast, add_at]; exact hc 0 _ rfl
      refine ⟨by omega, by omega, _, ha, (cs[k]).id, (cs[k]).grp, (cs[k]).lo, (cs[k]).hi, (cs[k]).val, ⟨cell0, cell 1 _ rfl, cell 2 _ rfl, cell 3 _ rfl, cell 4 _ rfl, trivial⟩, ?_⟩
      refine AlF.intro fun b3 w10 hb3e hb3 k10 _ => ?_
      refine StF.intro (o := 0) hb3 (by decide) fun w11 hb11 k11 _ => ?_
      rw [add_at, add_at, add_at, add_at]
      refine StF.intro (o := 0 + 1) hb11 (by simp) fun w12 hb12 k12 _ => StF.intro (o := 0 + 2) hb12 (by simp) fun w13 hb13 k13 _ => StF.intro (o := 0 + 3) hb13 (by simp) fun w14 hb14 k14 _ => StF.intro (o := 0 + 4) hb14 (by simp) fun w15 hb15 k15 _ => ?_
      have k915 : Kp no w9 w15 := (k10.of_no.trans0 ((((k11.trans0 k12).trans0 k13).trans0 k14).trans0 k15)).trans (Kp.refl no w15) (fun j hj hh => by omega) (fun _ _ h => h)
      have E15 := E9.kp0 k915
      obtain ⟨a13, c13, hc13, hr13⟩ := hz.c
      refine ⟨a13, 5, c13, E15.kp.cell hc13 id, (cs[k]).id, hb15.cell 0, (cs[k]).grp, hb15.cell 1, (cs[k]).lo, hb15.cell 2, (cs[k]).hi, by rw [add_at]; exact hb15.cell 3, (cs[k]).val, hb15.cell 4, ?_⟩
      have e1 : IntKind.wrap .i64 ((k : Int) * 32) = ((32 * k : Nat) : Int) := by rw [wrap_i64 (by omega) (by omega)]; omega
      have e2 : IntKind.wrap .i64 (16 + ((32 * k : Nat) : Int)) = ((16 + 32 * k : Nat) : Int) := by rw [wrap_i64 (by omega) (by omega)]; omega
      have e3 : IntKind.wrap .i64 ((k : Int) + 1) = ((k + 1 : Nat) : Int) := by rw [wrap_i64 (by omega) (by omega)]; omega
      rw [e1, e2, e3]
      refine enc_laid (ns := ctrN cs[k]) E15 hr13 rfl (by simp [ints, ctrS]) (by simp [u64s, ctrN, u64_code]) rfl (by simp [ctrN, ctrS]) (fun n hn => ?_) (by decide) ⟨by omega, by omega⟩ (by simp [ctrN]) fun w' hE' k' => ⟨rfl, ⟨k + 1, ctr1 B k cs[k], by omega, rfl, by unfold ctr1; exact hE', hP⟩, by simp only [Int.toNat_natCast]; omega⟩
      simp only [ctrN, List.mem_cons, List.not_mem_nil, or_false] at hn
      rcases hn with rfl | rfl | rfl | rfl | rfl <;> exact u64n_lt _
    · have hke : k = cs.length := by omega
      subst hke
      rw [List.drop_length, ctrsP] at hP
      rw [← hP]
      exact E9
  rintro u16 w18 E18 _
  generalize hB2 : ctrsP B1 0 cs = B2 at E18
  refine ⟨fun _ w' => EncS w w' b1 p a (grpsP B2 0 gs), ?_, ?_⟩
  · refine ⟨p.ga, p.gl, p.gc, by rw [add_at]; exact E18.cp.cell 3, ?_⟩
    refine loopN (fun s w' => ∃ (k : Nat) (B : List UInt8), k ≤ gs.length ∧ s.1 = (k : Int) ∧ EncS w w' b1 p a B ∧ grpsP B k (gs.drop k) = grpsP B2 0 gs) (fun s _ => gs.length - s.1.toNat) ⟨0, B2, Nat.zero_le _, rfl, E18, rfl⟩ ?_
    rintro ⟨k0, u⟩ w9 ⟨k, B, hk, hk0, E9, hP⟩ _
    dsimp only at hk0 ⊢
    subst hk0
    refine cond_d (fun hlt => ?_) (fun hge => ?_)
    · have hkl : k < gs.length := by omega
      obtain ⟨b, o, ha, hc⟩ := (hp.kp0 E9.kp).g k hkl
      rw [List.drop_eq_getElem_cons hkl, grpsP] at hP
      have cell1 : w9.cell? (Addr.add ((⟨b, o, none⟩ : Addr).add (Int.toNat (k : Int) * 2)) 1) = some (.int .i64 (gs[k]).sum) := by
        rw [Int.toNat_natCast, add_at, add_at]; exact hc 1 _ rfl
      have cell0 : w9.cell? ((⟨b, o, none⟩ : Addr).add (Int.toNat (k : Int) * 2)) = some (.int .i64 (gs[k]).id) := by
        rw [Int.toNat_natCast, add_at]; exact hc 0 _ rfl
      refine ⟨by omega, by omega, _, ha, (gs[k]).id, (gs[k]).sum, ⟨cell0, cell1, trivial⟩, ?_⟩
      refine AlF.intro fun b3 w10 hb3e hb3 k10 _ => ?_
      refine StF.intro (o := 0) hb3 (by decide) fun w11 hb11 k11 _ => ?_
      rw [add_at]
      refine StF.intro (o := 0 + 1) hb11 (by simp) fun w12 hb12 k12 _ => ?_
      have k915 : Kp no w9 w12 := (k10.of_no.trans0 (k11.trans0 k12)).trans (Kp.refl no w12) (fun j hj hh => by omega) (fun _ _ h => h)
      have E15 := E9.kp0 k915
      obtain ⟨a13, c13, hc13, hr13⟩ := hz.g
      refine ⟨a13, 2, c13, E15.kp.cell hc13 id, (gs[k]).id, hb12.cell 0, (gs[k]).sum, hb12.cell 1, ?_⟩
      have e1 : IntKind.wrap .i64 ((k : Int) * 12) = ((12 * k : Nat) : Int) := by rw [wrap_i64 (by omega) (by omega)]; omega
      have e2 : IntKind.wrap .i64 (16 + ((12 * k : Nat) : Int)) = ((16 + 12 * k : Nat) : Int) := by rw [wrap_i64 (by omega) (by omega)]; omega
      have e3 : IntKind.wrap .i64 ((k : Int) + 1) = ((k + 1 : Nat) : Int) := by rw [wrap_i64 (by omega) (by omega)]; omega
      rw [e1, e2, e3]
      refine enc_laid (ns := grpN gs[k]) E15 hr13 rfl (by simp [ints, grpS]) (by simp [u64s, grpN, u64_code]) rfl (by simp [grpN, grpS]) (fun n hn => ?_) (by decide) ⟨by omega, by omega⟩ (by simp [grpN]) fun w' hE' k' => ⟨rfl, ⟨k + 1, grp1 B k gs[k], by omega, rfl, by unfold grp1; exact hE', hP⟩, by simp only [Int.toNat_natCast]; omega⟩
      simp only [grpN, List.mem_cons, List.not_mem_nil, or_false] at hn
      rcases hn with rfl | rfl <;> exact u64n_lt _
    · have hke : k = gs.length := by omega
      subst hke
      rw [List.drop_length, grpsP] at hP
      rw [← hP]
      exact E9
  rintro u21 w25 E25 _
  have hB3 : grpsP B2 0 gs = bodyP p.num p.lsn cs gs := by rw [← hB2, ← hB1]; rfl
  rw [hB3] at E25
  have hlen : (bodyP p.num p.lsn cs gs).length = 1024 := by unfold bodyP; rw [grpsP_len, ctrsP_len, laidP_len]; exact page0_len
  refine AlF.intro fun b7 w26 hb7e hb7 k26 _ => ?_
  have E26 := E25.kp0 k26
  refine pgsum_c (hnib.kp0 E26.kp) E26.sl.rd hlen (Nat.le_refl _) (by omega) (by omega) fun w27 k27 => ⟨_, rfl, ?_⟩
  have E27 := E26.kp0 k27
  refine AlF.intro fun b8 w28 hb8e hb8 k28 _ => ?_
  have E28 := E27.kp0 k28
  have hps : psumN (bodyP p.num p.lsn cs gs) < 4294967296 := Nat.xor_lt_two_pow (n := 32) (fold_lt _ _ (by omega)) (by omega)
  rw [wrap_u64 (by omega) (by omega)] at hb8
  have halt := E25.sl.lt
  have s26 := k26.size
  have s27 := k27.size
  have hb7' : Blk w28 b7 #[.int .i64 4] T_int := (k27.trans0 k28).blk hb7 id
  refine enc_laid2 (ss := sumS) (ns := [psumN (bodyP p.num p.lsn cs gs)]) E28 (Rd.of_blk hb7' fun i v hv => by rw [Nat.zero_add, ← Array.getElem?_toList]; exact hv) rfl (fun k hk hh => ?_) hb8 (fun hh => by have := halt _ hh; omega) rfl rfl (by simp [sumS]) (fun n hn => ?_) (by decide) ⟨by omega, by omega⟩ (by simp) fun w' hE' k' => ⟨rfl, h1' a w' ?_ hE'.kp hE'.fr⟩
  · obtain ⟨ad, had, rfl⟩ := hh
    cases had
    have := halt _ hk
    dsimp only at this
    omega
  · simp only [List.mem_cons, List.not_mem_nil, or_false] at hn
    omega
  · unfold encB
    rw [if_neg (by omega)]
    exact hE'.sl
end Go.Proofs.YtnkdonpammdldaaDoor
