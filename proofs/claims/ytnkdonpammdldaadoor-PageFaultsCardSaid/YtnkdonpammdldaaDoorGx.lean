/- The contract of the document's Laid; the statement PageFaults, its walk. Conditions: the tables stand. -/
import Derived.Test.YtnkdonpammdldaaDoorGv
import Derived.Test.YtnkdonpammdldaaDoorLx
set_option linter.unusedVariables false
set_option linter.unusedSimpArgs false
namespace Go.Proofs.YtnkdonpammdldaaDoor
open Go Go.RowKit

theorem u8_wrap (n : Int) : ∃ x : UInt8, IntKind.wrap .u8 n = (x.toNat : Int) := by
  have h1 := Int.emod_nonneg n (show (256 : Int) ≠ 0 by omega)
  have h3 := Int.emod_lt_of_pos n (show (0 : Int) < 256 by omega)
  have h2 : IntKind.wrap .u8 n = n % 256 := by simp [IntKind.wrap, IntKind.signed, IntKind.bits]
  refine ⟨UInt8.ofNat (n % 256).toNat, ?_⟩
  rw [h2]
  simp only [UInt8.toNat_ofNat']
  omega

set_option maxRecDepth 100000 in
theorem laid7_c {w : World} {p : PgV} {cs : List CL} {gs : List GL} {kind odd : UInt8} {count at_ : Int} {R : Ending → World → Prop} (hp : p.In w cs gs)
    (h : ∀ a B w', Sl w' T_uint8 1 a 1024 1024 (bvs B) → B.length = 1024 → Kp no w w' → Fresh w a → R (.returned (.slice a 1024 1024)) w') :
    GoC Tryd.prog F_ref07_Laid #[.agg p.cs, .int .u8 (kind.toNat : Int), .int .i64 count, .int .u8 (odd.toNat : Int), .int .i64 at_] w R := by
  refine S_ref07_Laid ?_
  unfold W_ref07_Laid
  have hcl := hp.cl
  have hgl := hp.gl
  have hcb := hp.cb
  have hgb := hp.gb
  refine AlF.intro fun b1 w1 hb1e hb1 k1 _ => ?_
  have hb1' : Blk w1 b1 p.cs T_quotaref07_Page := hb1
  refine make_u8 (n := 1024) (by omega) fun bb w3 cur hbb hcur k3 hbe => ⟨_, _, _, rfl, ?_⟩
  have hb13 := k3.blk hb1' id
  have hsl3 := sl_new hbb hcur
  have s1 := k1.size
  have hb1lt := hb1.lt
  have hfr : Fresh w (some ⟨bb, 0, none⟩) := by rintro k ⟨ad, had, rfl⟩; cases had; dsimp only; omega
  have E3 : EncT T_quotaref07_Page p.cs w w3 b1 (some ⟨bb, 0, none⟩) page0 := ⟨k1.trans0 k3, hb13, hsl3, hfr, by rintro ⟨ad, had, hh⟩; cases had; dsimp only at hh; omega⟩
  generalize (some ⟨bb, 0, none⟩ : Option Addr) = a at *
  refine encT_set (x := 113) E3 (i := 0) (by omega) rfl rfl fun w4 E4 k4 => ?_
  refine encT_set (x := kind) E4 (i := 1) (by omega) rfl rfl fun w5 E5 k5 => ?_
  refine ⟨_, pc0 E5.cp, encT_put E5 (i := 2) rfl (s := 2) rfl (by omega) (by omega) (u64n_lt p.num) (u64_code _) fun w7 E7 k7 => ⟨rfl, ?_⟩⟩
  refine encT_put E7 (i := 4) rfl (s := 2) rfl (by omega) (by omega) (u64n_lt count) (u64_code _) fun w8 E8 k8 => ⟨rfl, ?_⟩
  refine ⟨_, pc1 E8.cp, encT_put E8 (i := 8) rfl (s := 4) rfl (by omega) (by omega) (u64n_lt p.lsn) (u64_code _) fun w9 E9 k9 => ⟨rfl, ?_⟩⟩
  generalize ovr _ 8 4 (u64n p.lsn) = B9 at E9
  refine ⟨fun _ w' => ∃ B, EncT T_quotaref07_Page p.cs w w' b1 a B, ?_, ?_⟩
  · refine loopN (fun s w' => ∃ (k : Nat) (B : List UInt8), k ≤ cs.length ∧ s.1 = (k : Int) ∧ EncT T_quotaref07_Page p.cs w w' b1 a B) (fun s _ => cs.length - s.1.toNat) ⟨0, B9, Nat.zero_le _, rfl, E9⟩ ?_
    rintro ⟨k0, u⟩ w10 ⟨k, B, hk, hk0, E10⟩ _
    dsimp only at hk0 ⊢
    subst hk0
    refine ⟨_, _, _, pc2 E10.cp, cond_d (fun hlt => ?_) (fun hge => ⟨B, E10⟩)⟩
    have hkl : k < cs.length := by omega
    have e1 : IntKind.wrap .i64 (32 * (k : Int)) = ((32 * k : Nat) : Int) := by rw [wrap_i64 (by omega) (by omega)]; omega
    have e2 : IntKind.wrap .i64 (16 + ((32 * k : Nat) : Int)) = ((16 + 32 * k : Nat) : Int) := by rw [wrap_i64 (by omega) (by omega)]; omega
    have e4 : IntKind.wrap .i64 (((16 + 32 * k : Nat) : Int) + 32) = ((16 + 32 * k + 32 : Nat) : Int) := by rw [wrap_i64 (by omega) (by omega)]; omega
    have e3 : IntKind.wrap .i64 ((k : Int) + 1) = ((k + 1 : Nat) : Int) := by rw [wrap_i64 (by omega) (by omega)]; omega
    rw [e1, e2, e3, e4]
    rcases Nat.lt_or_ge 1024 (16 + 32 * k + 32) with hroom | hroom
    · exact cond_f (by simp only [decide_eq_false_iff_not]; omega) ⟨B, E10⟩
    refine cond_t (by simp only [decide_eq_true_eq]; omega) ?_
    refine ⟨_, _, _, pc2 E10.cp, ctrI (hp.kp0 E10.kp).c hkl hcl rfl ?_⟩
    refine AlF.intro fun b2 w11 hb2e hb2 k11 s11 => st5 hb2 rfl fun w16 hb16 k16 s16 => ?_
    have E16 := E10.kp0 (kp_blk k11 (by omega) k16)
    have halt := E10.sl.lt
    refine encT_ctr (i := k) (c := cs[k]) E16 (by omega) hb16 (fun hh => by have := halt _ hh; omega) rfl (by rw [wrap_i64 (by omega) (by omega)]; omega) (by rw [wrap_i64 (by omega) (by omega)]; omega) (by rw [wrap_i64 (by omega) (by omega)]; omega) (by rw [wrap_i64 (by omega) (by omega)]; omega) fun w' E' k' => ?_
    exact ⟨⟨k + 1, _, by omega, rfl, E'⟩, by simp only [Int.toNat_natCast]; omega⟩
  rintro u17 w17 ⟨B17, E17⟩ _
  refine ⟨fun _ w' => ∃ B, EncT T_quotaref07_Page p.cs w w' b1 a B, ?_, ?_⟩
  · refine loopN (fun s w' => ∃ (k : Nat) (B : List UInt8), k ≤ gs.length ∧ s.1 = (k : Int) ∧ EncT T_quotaref07_Page p.cs w w' b1 a B) (fun s _ => gs.length - s.1.toNat) ⟨0, _, Nat.zero_le _, rfl, E17⟩ ?_
    rintro ⟨k0, u⟩ w22 ⟨k, B, hk, hk0, E22⟩ _
    dsimp only at hk0 ⊢
    subst hk0
    refine ⟨_, _, _, pc3 E22.cp, cond_d (fun hlt => ?_) (fun hge => ⟨B, E22⟩)⟩
    have hkl : k < gs.length := by omega
    have e1 : IntKind.wrap .i64 (12 * (k : Int)) = ((12 * k : Nat) : Int) := by rw [wrap_i64 (by omega) (by omega)]; omega
    have e2 : IntKind.wrap .i64 (16 + ((12 * k : Nat) : Int)) = ((16 + 12 * k : Nat) : Int) := by rw [wrap_i64 (by omega) (by omega)]; omega
    have e5 : IntKind.wrap .i64 (((16 + 12 * k : Nat) : Int) + 12) = ((16 + 12 * k + 12 : Nat) : Int) := by rw [wrap_i64 (by omega) (by omega)]; omega
    have e4 : IntKind.wrap .i64 (((16 + 12 * k : Nat) : Int) + 4) = ((16 + 12 * k + 4 : Nat) : Int) := by rw [wrap_i64 (by omega) (by omega)]; omega
    have e3 : IntKind.wrap .i64 ((k : Int) + 1) = ((k + 1 : Nat) : Int) := by rw [wrap_i64 (by omega) (by omega)]; omega
    rw [e1, e2, e3, e4, e5]
    rcases Nat.lt_or_ge 1024 (16 + 12 * k + 12) with hroom | hroom
    · exact cond_f (by simp only [decide_eq_false_iff_not]; omega) ⟨B, E22⟩
    refine cond_t (by simp only [decide_eq_true_eq]; omega) ⟨_, _, _, pc2 E22.cp, cond_eq (fun hc0 => ?_) (fun _ => ⟨B, E22⟩)⟩
    refine ⟨_, _, _, pc3 E22.cp, grpI0 (hp.kp0 E22.kp).g hkl hgl rfl ?_⟩
    refine encT_put E22 (i := 16 + 12 * k) rfl (s := 4) rfl (by omega) (by omega) (u64n_lt (gs[k]).id) (u64_code _) fun w23 E23 k23 => ⟨rfl, ?_⟩
    refine ⟨_, _, _, pc3 E23.cp, grpI1 (hp.kp0 E23.kp).g hkl hgl rfl ?_⟩
    refine encT_put E23 (i := 16 + 12 * k + 4) rfl (s := 8) rfl (by omega) (by omega) (u64n_lt (gs[k]).sum) (u64_code _) fun w24 E24 k24 => ⟨rfl, ?_⟩
    exact ⟨⟨k + 1, _, by omega, rfl, E24⟩, by simp only [Int.toNat_natCast]; omega⟩
  rintro u22 w23 ⟨B23, E23⟩ _
  refine ⟨fun _ w' => ∃ B, EncT T_quotaref07_Page p.cs w w' b1 a B, ?_, ?_⟩
  · refine cond_d (fun h0 => cond_d (fun h1 => ?_) (fun _ => ⟨B23, E23⟩)) (fun _ => ⟨B23, E23⟩)
    obtain ⟨i, rfl⟩ := Int.eq_ofNat_of_zero_le h0
    exact encT_set (x := odd) E23 (i := i) (by omega) rfl rfl fun w24 E24 k24 => ⟨_, E24⟩
  rintro u24 w24 ⟨B, E24⟩ _
  have hlen := E24.len
  have hps : psumN B < 4294967296 := Nat.xor_lt_two_pow (n := 32) (fold_lt _ _ (by omega)) (by omega)
  refine sum7_c E24.sl.rd hlen (by omega) (by omega) ⟨_, rfl, ?_⟩
  refine encT_put E24 (i := 12) rfl (s := 4) rfl (by omega) (by omega) (n := psumN B) (by omega) (wrap_u64 (by omega) (by omega)) fun w26 E26 k26 => ⟨rfl, ?_⟩
  exact h a _ w26 E26.sl E26.len E26.kp E26.fr

theorem pageFaults_c {w : World} {p : PgV} {cs : List CL} {gs : List GL} {kind count at_ odd num : Int} {R : Ending → World → Prop} (hnib : Nib w) (hz : Szs w) (hp : p.In w cs gs)
    (h : ∀ w', Kp no w w' → R (.returned (.bool true)) w') :
    GoC Tryd.prog F_law07_PageFaults #[.agg #[.int .i64 p.num, .int .i64 p.lsn, .slice p.ca p.cl p.cc, .slice p.ga p.gl p.gc, .int .i64 kind, .int .i64 count, .int .i64 at_, .int .i64 odd], .int .i64 num] w R := by
  refine S_law07_PageFaults ?_
  unfold W_law07_PageFaults
  refine AlF.intro fun b1 w1 hb1e hb1 k1 s1 => ?_
  refine first_c (hnib.kp0 k1) (hz.kp0 k1) fun w2 k2 => ⟨_, rfl, cond_f rfl ?_⟩
  have k02 := k1.trans0 k2
  have hb2 := k2.blk hb1 id
  have kd : Kp no w2 w2.drew := Kp.drew w2 1
  refine ⟨fun w' => Kp no w2 w', kd, p.num, p.lsn, p.ca, p.cl, p.cc, p.ga, p.gl, p.gc, fun w' kz => ?_, kind, fun w' kz => ?_, count, fun w' kz => ?_, odd, fun w' kz => ?_, at_, fun w' kz => ?_, ?_⟩
  · have hz := kz.blk hb2 id
    simp only [add_at]
    exact ⟨hz.cell 0, hz.cell 1, hz.cell 2, hz.cell 3, trivial⟩
  · rw [add_at]; exact (kz.blk hb2 id).cell 4
  · rw [add_at]; exact (kz.blk hb2 id).cell 5
  · rw [add_at]; exact (kz.blk hb2 id).cell 7
  · rw [add_at]; exact (kz.blk hb2 id).cell 6
  refine ref_c (p := p) fun w3 k3 => ⟨_, _, _, _, _, _, _, _, rfl, kd.trans0 k3, ?_⟩
  obtain ⟨x, hx⟩ := u8_wrap kind
  obtain ⟨y, hy⟩ := u8_wrap odd
  rw [hx, hy]
  refine laid7_c (p := p) (hp.kp0 ((k02.trans0 kd).trans0 k3)) fun a B w4 hs4 hB k4 f4 => ⟨_, _, _, rfl, (kd.trans0 k3).trans0 k4, ?_⟩
  have k04 := k02.trans0 ((kd.trans0 k3).trans0 k4)
  refine ⟨p.num, (((kd.trans0 k3).trans0 k4).blk hb2 id).cell 0, ?_⟩
  refine reads_c (hnib.kp0 k04) (hz.kp0 k04) hs4.rd hB (fun h0 => ?_) (by omega) fun w5 k5 => ⟨_, rfl, cond_t rfl ?_⟩
  · obtain ⟨b, cur, ha, _⟩ := hs4.addr (by omega)
    rw [h0] at ha
    cases ha
  refine reads_c (hnib.kp0 (k04.trans0 k5)) (hz.kp0 (k04.trans0 k5)) (hs4.kp0 k5).rd hB (fun h0 => ?_) (by omega) fun w6 k6 => ⟨_, rfl, ?_⟩
  · obtain ⟨b, cur, ha, _⟩ := hs4.addr (by omega)
    rw [h0] at ha
    cases ha
  exact h w6 ((k04.trans0 k5).trans0 k6)

theorem pageFaults_walk {W : World} (hnib : Nib W) (hz : Szs W) {v0 v1 : Value} (h0 : ArgW Tryd.prog W T_quotalaw07_Lay v0) (h1 : ArgW Tryd.prog W T_int v1) :
    GoC Tryd.prog F_law07_PageFaults #[v0, v1] W fun e W' => e = .returned (.bool true) ∧ Kp no W W' := by
  obtain ⟨num, rfl, _⟩ := h1.arg.int (k := .i64) (by kernel_rfl)
  obtain ⟨cells, rfl, hc⟩ := h0.arg.struct (s := 8) (by kernel_rfl)
  have hw : ClW Tryd.prog W T_quotalaw07_Lay cells.toList := h0.clw
  have hl := hc.slen (s := 8) (by kernel_rfl)
  have f0 := hw.field 0 (e := T_quotalaw07_P) (o := 0) (s := 4) (by kernel_rfl)
  have f1 := hc.field 1 (e := T_int) (o := 4) (s := 1) (by kernel_rfl)
  have f2 := hc.field 2 (e := T_int) (o := 5) (s := 1) (by kernel_rfl)
  have f3 := hc.field 3 (e := T_int) (o := 6) (s := 1) (by kernel_rfl)
  have f4 := hc.field 4 (e := T_int) (o := 7) (s := 1) (by kernel_rfl)
  obtain ⟨p, cs, gs, he, hp⟩ := p_open' f0
  obtain ⟨l⟩ := cells
  dsimp only at hl he f1 f2 f3 f4
  match l, hl with
  | [x0, x1, x2, x3, x4, x5, x6, x7], _ =>
    simp only [List.drop_zero, List.drop_succ_cons, List.take_succ_cons, List.take_zero] at he f1 f2 f3 f4
    obtain ⟨a, e1, _⟩ := f1.int (k := .i64) (by kernel_rfl)
    obtain ⟨b, e2, _⟩ := f2.int (k := .i64) (by kernel_rfl)
    obtain ⟨c, e3, _⟩ := f3.int (k := .i64) (by kernel_rfl)
    obtain ⟨d, e4, _⟩ := f4.int (k := .i64) (by kernel_rfl)
    cases e1; cases e2; cases e3; cases e4
    have hcs : p.cs.toList = [.int .i64 p.num, .int .i64 p.lsn, .slice p.ca p.cl p.cc, .slice p.ga p.gl p.gc] := rfl
    rw [hcs] at he
    cases he
    exact pageFaults_c (p := p) hnib hz hp.i fun w' k => ⟨rfl, k⟩
end Go.Proofs.YtnkdonpammdldaaDoor
