/- The statements PageOneForm, PageBack and PageBits: their walks. Conditions: the tables stand. -/
import Derived.Test.YtnkdonpammdldaaDoorGv
import Derived.Test.YtnkdonpammdldaaDoorGy
import Derived.Test.YtnkdonpammdldaaDoorLy
set_option linter.unusedVariables false
set_option linter.unusedSimpArgs false
namespace Go.Proofs.YtnkdonpammdldaaDoor
open Go Go.RowKit

theorem sl_some {w : World} {e : TypeId} {a : Option Addr} {l c : Nat} {xs : List Value} (h : Sl w e 1 a l c xs) (hl : 0 < l) : a = none → l = 0 := fun h0 => by
  obtain ⟨b, cur, ha, _⟩ := h.addr hl
  rw [h0] at ha
  cases ha

theorem pageOneForm_c {w : World} {a : Option Addr} {l c : Nat} {B : List UInt8} {num : Int} {R : Ending → World → Prop} (hnib : Nib w) (hz : Szs w) (hr : Rd w a (bvs B)) (hl : B.length = l) (hlc : l ≤ c) (h0 : a = none → l = 0)
    (h : ∀ w', Kp no w w' → R (.returned (.bool true)) w') : GoC Tryd.prog F_law07_PageOneForm #[.slice a l c, .int .i64 num] w R := by
  refine S_law07_PageOneForm ?_
  unfold W_law07_PageOneForm
  refine first_c hnib hz fun w1 k1 => ⟨_, rfl, cond_f rfl ?_⟩
  refine decode_c (hnib.kp0 k1) (hz.kp0 k1) (hr.kp0 k1) hl hlc (fun hne w2 k2 => ⟨_, _, _, _, _, _, _, _, _, rfl, ?_⟩) fun hd p w2 hn hs ho k2 f1 f2 hone => ⟨_, _, _, _, _, _, _, _, _, rfl, ?_⟩
  · refine AlF.intro fun b1 w3 hb1e hb1 k3 s3 => st4 hb1 rfl fun w7 hb7 k7 s7 => ?_
    have k27 : Kp no w2 w7 := kp_blk k3 (by omega) k7
    have hbp : Blk w7 b1 pg0.cs T_page_Page := hb7
    refine cond_t (by simpa using hne) ⟨_, pc0 hbp, cond_t rfl ⟨_, pc1 hbp, cond_t rfl ⟨_, _, _, pc2 hbp, cond_t rfl ⟨_, _, _, pc3 hbp, ?_⟩⟩⟩⟩
    exact h w7 ((k1.trans0 k2).trans0 k27)
  · refine AlF.intro fun b1 w3 hb1e hb1 k3 s3 => st4 hb1 rfl fun w7 hb7 k7 s7 => ?_
    have k27 : Kp no w2 w7 := kp_blk k3 (by omega) k7
    have hbp : Blk w7 b1 p.cs T_page_Page := hb7
    have k07 := (k1.trans0 k2).trans0 k27
    obtain ⟨g1, g2⟩ := one_form hd
    have hr0 : refP p.num p.lsn (decCs B) (decGs B) = 0 := by rw [hn, hs]; exact g1
    refine cond_f rfl ⟨_, _, _, _, _, _, _, _, ⟨pc0 hbp, pc1 hbp, pc2 hbp, pc3 hbp, trivial⟩, ?_⟩
    refine encode_c (p := p) (hnib.kp0 k07) (hz.kp0 k07) (ho.kp0 k27).to_in (fun hne => absurd hr0 hne) fun _ a8 w8 hs8 k8 f8 => ⟨_, _, _, _, rfl, cond_t rfl ?_⟩
    rw [encB_eq hr0, hn, hs, g2] at hs8
    have hl8 := hs8.len
    rw [bvs_len] at hl8
    refine convert_bytes (e := T_uint8) (by kernel_rfl) (by kernel_rfl) (by kernel_rfl) hs8.rd hl8 (sl_some hs8 (by omega)) fun z1 hz1 => ⟨z1, rfl, ?_⟩
    refine convert_bytes (e := T_uint8) (by kernel_rfl) (by kernel_rfl) (by kernel_rfl) (hr.kp0 (k07.trans0 k8)) hl h0 fun z2 hz2 => ⟨z2, rfl, cond_t (by rw [hz1, hz2]; simp) ⟨_, pc0 (k8.blk hbp id), ?_⟩⟩
    have e : (p.num == num) = true := by rw [hn]; simp
    rw [e]
    exact h w8 (k07.trans0 k8)

theorem pageOneForm_walk {W : World} (hnib : Nib W) (hz : Szs W) {v0 v1 : Value} (h0 : ArgW Tryd.prog W T_s_uint8 v0) (h1 : ArgW Tryd.prog W T_int v1) :
    GoC Tryd.prog F_law07_PageOneForm #[v0, v1] W fun e W' => e = .returned (.bool true) ∧ Kp no W W' := by
  obtain ⟨a1, l1, c1, rfl, k1⟩ := h0.arg.slice (e := T_uint8) (by kernel_rfl)
  obtain ⟨num, rfl, _⟩ := h1.arg.int (k := .i64) (by kernel_rfl)
  obtain ⟨hl1, _, hn1, B, hB, hr1⟩ := k1.bytes (e := T_uint8) (by kernel_rfl) (by kernel_rfl) (by kernel_rfl)
  exact pageOneForm_c hnib hz hr1 hB hl1 (fun h => (hn1 h).1) fun w' k => ⟨rfl, k⟩

theorem pageBack_c {w : World} {p0 : PgV} {cs0 : List CL} {gs0 : List GL} {other : Int} {R : Ending → World → Prop} (hnib : Nib w) (hz : Szs w) (hp : POk w p0 cs0 gs0)
    (h : ∀ w', Kp no w w' → R (.returned (.bool true)) w') : GoC Tryd.prog F_law07_PageBack #[.agg p0.cs, .int .i64 other] w R := by
  refine S_law07_PageBack ?_
  unfold W_law07_PageBack
  refine AlF.intro fun b1 w1 hb1e hb1 k1 s1 => ?_
  refine first_c (hnib.kp0 k1) (hz.kp0 k1) fun w2 k2 => ⟨_, rfl, cond_f rfl ?_⟩
  have k02 := k1.trans0 k2
  have hbp : Blk w2 b1 p0.cs T_quotalaw07_P := k2.blk (show Blk w1 b1 p0.cs T_quotalaw07_P from hb1) id
  refine ⟨_, _, _, _, _, _, _, _, ⟨pc0 hbp, pc1 hbp, pc2 hbp, pc3 hbp, trivial⟩, ?_⟩
  refine right_c (p := p0) (hp.i.kp0 k02) hp.c hp.g fun q cs gs w3 M => ⟨_, _, _, _, _, _, _, _, rfl, ?_⟩
  refine AlF.intro fun b2 w4 hb2e hb2 k4 s4 => st4 hb2 rfl fun w8 hb8 k8 s8 => ?_
  have hbq : Blk w8 b2 q.cs T_page_Page := hb8
  have k38 : Kp no w3 w8 := kp_blk k4 (by omega) k8
  have k08 := (k02.trans0 M.kp).trans0 k38
  have ho8 := M.own.kp0 k38
  obtain ⟨hBl, hBc, hBg, hBs, hBd, hBo⟩ := right_back M.right M.c M.g
  have hr0 := ref_of_right M.right
  refine ⟨_, _, _, _, _, _, _, _, ⟨pc0 hbq, pc1 hbq, pc2 hbq, pc3 hbq, trivial⟩, ?_⟩
  refine encode_c (p := q) (hnib.kp0 k08) (hz.kp0 k08) ho8.to_in (fun hne => absurd hr0 hne) fun _ a9 w9 hs9 k9 f9 => ⟨_, _, _, _, rfl, cond_f rfl (cond_f rfl ⟨_, pc0 (k9.blk hbq id), ?_⟩)⟩
  rw [encB_eq hr0] at hs9
  have hcl := ho8.cl
  have hgl := ho8.gl
  generalize encO q.num q.lsn cs gs = B at *
  have k09 := k08.trans0 k9
  refine decode_c (hnib.kp0 k09) (hz.kp0 k09) hs9.rd hBl (Nat.le_refl _) (fun hne => absurd hBd hne) fun _ x w10 hx1 hx2 hxo k10 _ _ _ => ⟨_, _, _, _, _, _, _, _, _, rfl, ?_⟩
  rw [hBc, hBg] at hxo
  have hxs : x.lsn = q.lsn := by rw [hx2, hBs]
  refine AlF.intro fun b3 w11 hb3e hb3 k11 s11 => st4 hb3 rfl fun w15 hb15 k15 s15 => ?_
  have hbx : Blk w15 b3 x.cs T_page_Page := hb15
  have k1015 : Kp no w10 w15 := kp_blk k11 (by omega) k15
  have k915 := k10.trans0 k1015
  have hbq15 := (k9.trans0 k915).blk hbq id
  have kd : Kp no w15 w15.drew := Kp.drew w15 1
  refine ⟨fun w' => Kp no w15 w', kd, cond_f rfl ?_⟩
  refine ⟨_, _, _, _, _, _, _, _, fun w' kz => ⟨pc0 (kz.blk hbx id), pc1 (kz.blk hbx id), pc2 (kz.blk hbx id), pc3 (kz.blk hbx id), trivial⟩, ?_⟩
  refine ⟨_, _, _, _, _, _, _, _, fun w' kz => ⟨pc0 (kz.blk hbq15 id), pc1 (kz.blk hbq15 id), pc2 (kz.blk hbq15 id), pc3 (kz.blk hbq15 id), trivial⟩, ?_⟩
  refine back_c (p := x) fun w16 k16 => ⟨_, _, _, _, _, _, _, _, rfl, kd.trans0 k16, ?_⟩
  refine back_c (p := q) fun w17 k17 => ⟨_, _, _, _, _, _, _, _, rfl, (kd.trans0 k16).trans0 k17, ?_⟩
  have k1517 := (kd.trans0 k16).trans0 k17
  refine same_c (p := x) (q := q) (hxo.kp0 (k1015.trans0 k1517)).to_in (ho8.kp0 ((k9.trans0 k915).trans0 k1517)).to_in fun w18 k18 => ⟨_, rfl, k1517.trans0 k18, cond_f ?_ ?_⟩
  · have e : sameP x cs gs q cs gs = true := decide_eq_true ⟨hx1, hxs, rfl, rfl⟩
    rw [e]
    rfl
  have k1518 := k1517.trans0 k18
  have hbx18 := k1518.blk hbx id
  refine ⟨_, _, _, _, _, _, _, _, ⟨pc0 hbx18, pc1 hbx18, pc2 hbx18, pc3 hbx18, trivial⟩, ?_⟩
  have k018 := (k09.trans0 k915).trans0 k1518
  have hrx : refP x.num x.lsn cs gs = 0 := by rw [hx1, hxs]; exact hr0
  have hform : encO x.num x.lsn cs gs = B := by
    obtain ⟨_, o2⟩ := one_form hBd
    rw [hBc, hBg, hBs] at o2
    rw [hx1, hxs]
    exact o2
  refine encode_c (p := x) (hnib.kp0 k018) (hz.kp0 k018) (hxo.kp0 (k1015.trans0 k1518)).to_in (fun hne => absurd hrx hne) fun _ a22 w19 hs19 k19 f19 => ⟨_, _, _, _, rfl, cond_f rfl ?_⟩
  rw [encB_eq hrx, hform] at hs19
  refine convert_bytes (e := T_uint8) (by kernel_rfl) (by kernel_rfl) (by kernel_rfl) hs19.rd hBl (sl_some hs19 (by omega)) fun z1 hz1 => ⟨z1, rfl, ?_⟩
  have k919 := (k915.trans0 k1518).trans0 k19
  have hs9' := hs9.kp0 k919
  refine convert_bytes (e := T_uint8) (by kernel_rfl) (by kernel_rfl) (by kernel_rfl) hs9'.rd hBl (sl_some hs9' (by omega)) fun z2 hz2 => ⟨z2, rfl, cond_f (by rw [hz1, hz2]; simp) ?_⟩
  have k019 := k018.trans0 k19
  have hbq19 := (k9.trans0 k919).blk hbq id
  refine cond_d (fun _ => h w19 k019) fun ho1 => cond_d (fun _ => h w19 k019) fun ho2 => ⟨_, pc0 hbq19, cond_eq (fun _ => h w19 k019) fun hne => ?_⟩
  have hdo := hBo other (by omega) hne
  refine decode_u (hnib.kp0 k019) (hz.kp0 k019) hs9'.rd hBl (Nat.le_refl _) fun y w22 D => ⟨_, _, _, _, _, _, _, _, _, rfl, ?_⟩
  refine AlF.intro fun b4 w23 hb4e hb4 k23 s23 => st4 hb4 rfl fun w27 hb27 k27 s27 => ?_
  have hby : Blk w27 b4 y.cs T_page_Page := hb27
  have k2227 : Kp no w22 w27 := kp_blk k23 (by omega) k27
  have k027 := (k019.trans0 D.kp).trans0 k2227
  have hbq27 := (D.kp.trans0 k2227).blk hbq19 id
  have hR := M.right
  have hcb := ho8.cb
  have hgb := ho8.gb
  have ew : IntKind.wrap .i64 ((q.cl : Int) + (q.gl : Int)) = ((cs.length + gs.length : Nat) : Int) := by rw [wrap_i64 (by omega) (by omega)]; omega
  refine ⟨_, _, _, pc2 hbq27, _, _, _, pc3 hbq27, ?_⟩
  rw [ew]
  have ycl := D.own.cl
  have ygl := D.own.gl
  have yn := D.hnum
  have yl := D.hlsn
  unfold csR at ycl
  unfold gsR at ygl
  unfold numR at yn
  unfold lsnR at yl
  refine cond_eq (fun hz0 => ?_) (fun hnz => ?_)
  · have h00 : cs.length + gs.length = 0 := by omega
    rw [if_pos h00] at hdo
    rw [if_pos hdo] at ycl ygl yn yl
    rw [hBc] at ycl
    rw [hBg] at ygl
    rw [hBs] at yl
    have hl0 : q.lsn = 0 := hR.lz.2 h00
    rw [hdo]
    have ecl : y.cl = 0 := by omega
    refine cond_t rfl ⟨_, pc0 hby, cond_t (by rw [yn]; simp) ⟨_, pc1 hby, cond_t (by rw [yl, hl0]; rfl) ⟨_, _, _, pc2 hby, cond_t (by rw [ecl]; rfl) ⟨_, _, _, pc3 hby, ?_⟩⟩⟩⟩
    have e : (((y.gl : Nat) : Int) == 0) = true := by
      have e0 : y.gl = 0 := by omega
      rw [e0]; rfl
    rw [e]
    exact h w27 k027
  · have h00 : cs.length + gs.length ≠ 0 := by omega
    rw [if_neg h00] at hdo
    rw [if_neg (by omega)] at ycl ygl yn yl
    rw [hdo]
    refine cond_t rfl ⟨_, pc0 hby, cond_t (by rw [yn]; rfl) ⟨_, _, _, pc2 hby, cond_t (by rw [← ycl]; rfl) ⟨_, _, _, pc3 hby, ?_⟩⟩⟩
    have e : (((y.gl : Nat) : Int) == 0) = true := by rw [← ygl]; rfl
    rw [e]
    exact h w27 k027

theorem pageBack_walk {W : World} (hnib : Nib W) (hz : Szs W) {v0 v1 : Value} (h0 : ArgW Tryd.prog W T_quotalaw07_P v0) (h1 : ArgW Tryd.prog W T_int v1) :
    GoC Tryd.prog F_law07_PageBack #[v0, v1] W fun e W' => e = .returned (.bool true) ∧ Kp no W W' := by
  obtain ⟨p, cs, gs, rfl, hp⟩ := p_open h0
  obtain ⟨num, rfl, _⟩ := h1.arg.int (k := .i64) (by kernel_rfl)
  exact pageBack_c hnib hz hp fun w' k => ⟨rfl, k⟩

theorem pageBits_c {w : World} {p0 : PgV} {cs0 : List CL} {gs0 : List GL} {bit num : Int} {R : Ending → World → Prop} (hnib : Nib w) (hz : Szs w) (hp : POk w p0 cs0 gs0)
    (h : ∀ w', Kp no w w' → R (.returned (.bool true)) w') : GoC Tryd.prog F_law07_PageBits #[.agg p0.cs, .int .i64 bit, .int .i64 num] w R := by
  refine S_law07_PageBits ?_
  unfold W_law07_PageBits
  refine AlF.intro fun b1 w1 hb1e hb1 k1 s1 => ?_
  refine first_c (hnib.kp0 k1) (hz.kp0 k1) fun w2 k2 => ⟨_, rfl, cond_f rfl ?_⟩
  have k02 := k1.trans0 k2
  have hbp : Blk w2 b1 p0.cs T_quotalaw07_P := k2.blk (show Blk w1 b1 p0.cs T_quotalaw07_P from hb1) id
  refine ⟨_, _, _, _, _, _, _, _, ⟨pc0 hbp, pc1 hbp, pc2 hbp, pc3 hbp, trivial⟩, ?_⟩
  refine right_c (p := p0) (hp.i.kp0 k02) hp.c hp.g fun q cs gs w3 M => ⟨_, _, _, _, _, _, _, _, rfl, ?_⟩
  refine AlF.intro fun b2 w4 hb2e hb2 k4 s4 => st4 hb2 rfl fun w8 hb8 k8 s8 => ?_
  have hbq : Blk w8 b2 q.cs T_page_Page := hb8
  have k38 : Kp no w3 w8 := kp_blk k4 (by omega) k8
  have k08 := (k02.trans0 M.kp).trans0 k38
  have ho8 := M.own.kp0 k38
  have hBl := (right_back M.right M.c M.g).1
  have hturn : ∀ {Y : List UInt8} {j k : Nat} {n : Int}, j < 1024 → k < 8 → Y = (encO q.num q.lsn cs gs).set j (UInt8.ofNat (((encO q.num q.lsn cs gs).getD j 0).toNat ^^^ 2 ^ k)) → decF Y n ≠ 0 := fun hj hk hs => bit_turned M.right M.c M.g hj hk hs
  have hr0 := ref_of_right M.right
  refine ⟨_, _, _, _, _, _, _, _, ⟨pc0 hbq, pc1 hbq, pc2 hbq, pc3 hbq, trivial⟩, ?_⟩
  refine encode_c (p := q) (hnib.kp0 k08) (hz.kp0 k08) ho8.to_in (fun hne => absurd hr0 hne) fun _ a9 w9 hs9 k9 f9 => ⟨_, _, _, _, rfl, cond_f rfl (cond_f rfl ?_)⟩
  rw [encB_eq hr0] at hs9
  generalize encO q.num q.lsn cs gs = B at *
  have k09 := k08.trans0 k9
  have hbq9 := k9.blk hbq id
  have e8 : IntKind.wrap .i64 (8 * ((1024 : Nat) : Int)) = 8192 := by decide
  rw [e8]
  have t1 := Int.tmod_lt_of_pos bit (show (0 : Int) < 8192 by omega)
  have t2 := Int.lt_tmod_of_pos bit (show (0 : Int) < 8192 by omega)
  generalize Int.tmod bit 8192 = t at *
  refine ⟨by omega, fun s w' => w' = w9 ∧ 0 ≤ s.1 ∧ s.1 < 8192, ?_, ?_⟩
  · refine cond_d (fun ht => ?_) (fun ht => ⟨rfl, by dsimp only; omega, by dsimp only; omega⟩)
    rw [wrap_i64 (by omega) (by omega)]
    exact ⟨rfl, by dsimp only; omega, by dsimp only; omega⟩
  rintro ⟨s, u⟩ w10 ⟨hw10, hs0, hs1⟩ _
  dsimp only at hs0 hs1 ⊢
  rw [hw10]
  obtain ⟨m, rfl⟩ := Int.eq_ofNat_of_zero_le hs0
  have hm : m < 8192 := by omega
  have ed : IntKind.wrap .i64 (Int.tdiv (m : Int) 8) = ((m / 8 : Nat) : Int) := by
    have : Int.tdiv (m : Int) 8 = ((m / 8 : Nat) : Int) := by
      rw [Int.tdiv_eq_ediv_of_nonneg (by omega)]; rfl
    rw [this, wrap_i64 (by omega) (by omega)]
  have em : Int.tmod (m : Int) 8 = ((m % 8 : Nat) : Int) := by
    rw [Int.tmod_eq_emod_of_nonneg (by omega)]; rfl
  rw [ed, em]
  have hm8 : m % 8 < 8 := Nat.mod_lt _ (by omega)
  have hj : m / 8 < 1024 := by omega
  have kd : Kp no w9 w9.drew := Kp.drew w9 1
  have hs9d := hs9.kp0 kd
  obtain ⟨b, cur, ha, hblk, _⟩ := hs9d.addr (by omega)
  refine ⟨fun w' => Kp no w9 w', kd, by decide, by decide, ?_⟩
  refine hs9.rd.idx (by omega) (by omega) (by rw [bvs_len]; omega) fun b' o' ha' hc' => ?_
  rw [ha] at ha'
  cases ha'
  refine ⟨(byteN B (m / 8) : Int), fun w' kz => ?_, by decide, by omega, ?_⟩
  · rw [Int.toNat_natCast, add_at]
    obtain ⟨b'', o'', e1, e2⟩ := (hs9.kp0 kz).rd (m / 8) (bv (B[m / 8])) (bvs_get (by omega))
    rw [ha] at e1
    cases e1
    rw [byteN_get (by omega)]
    exact e2
  refine ⟨by omega, by omega, _, ha, ?_⟩
  dsimp only
  rw [Int.toNat_natCast, add_at]
  have hx := byteN_lt B (m / 8)
  have h2k : 2 ^ (m % 8) ≤ 2 ^ 7 := Nat.pow_le_pow_right (by omega) (by omega)
  have hval : Value.int .u8 (xorV .u8 (byteN B (m / 8) : Int) (shlV .u8 1 ((m % 8 : Nat) : Int))) = bv (UInt8.ofNat (((B.getD (m / 8) 0)).toNat ^^^ 2 ^ (m % 8))) := by
    rw [show (1 : Int) = ((1 : Nat) : Int) from rfl, shlV_nat rfl (by simp only [IntKind.bits]; omega)]
    simp only [IntKind.bits, Nat.one_mul]
    rw [Nat.mod_eq_of_lt (by omega), xorV_nat rfl (by simp only [IntKind.bits]; omega) (by simp only [IntKind.bits]; omega)]
    exact bv_of (Nat.xor_lt_two_pow (n := 8) hx (by omega))
  rw [hval]
  refine hs9d.put (i := m / 8) (by omega) ha fun w11 hs11 k11 s11 => ?_
  have hs11' : Sl w11 T_uint8 1 a9 1024 1024 (bvs (B.set (m / 8) (UInt8.ofNat (((B.getD (m / 8) 0)).toNat ^^^ 2 ^ (m % 8))))) := by
    rw [bvs, List.map_set]; exact hs11
  have hY : ∀ n, decF (B.set (m / 8) (UInt8.ofNat (((B.getD (m / 8) 0)).toNat ^^^ 2 ^ (m % 8)))) n ≠ 0 := fun n => hturn hj hm8 rfl
  have hYl : (B.set (m / 8) (UInt8.ofNat (((B.getD (m / 8) 0)).toNat ^^^ 2 ^ (m % 8)))).length = 1024 := by rw [List.length_set, hBl]
  clear hval hs11
  generalize B.set (m / 8) (UInt8.ofNat (((B.getD (m / 8) 0)).toNat ^^^ 2 ^ (m % 8))) = Y at *
  have k911 : Kp (Is a9) w9 w11 := kd.of_no.trans0 k11
  have k011 : Kp no w w11 := k09.trans k911 (fun _ _ h => h) fun j hj hh => by have := f9 j hh; have := k08.size; omega
  have hbq11 : Blk w11 b2 q.cs T_page_Page := k911.blk hbq9 fun hh => by have := f9 _ hh; have := hbq.lt; omega
  refine ⟨_, pc0 hbq11, ?_⟩
  refine decode_u (hnib.kp0 k011) (hz.kp0 k011) hs11'.rd hYl (Nat.le_refl _) fun x w12 D => ⟨_, _, _, _, _, _, _, _, _, rfl, ?_⟩
  refine AlF.intro fun b3 w13 hb3e hb3 k13 s13 => st4 hb3 rfl fun w17 hb17 k17 s17 => ?_
  have k1217 : Kp no w12 w17 := kp_blk k13 (by omega) k17
  have k1117 := D.kp.trans0 k1217
  have k017 := k011.trans0 k1117
  refine decode_u (hnib.kp0 k017) (hz.kp0 k017) (hs11'.kp0 k1117).rd hYl (Nat.le_refl _) fun y w18 D' => ⟨_, _, _, _, _, _, _, _, _, rfl, ?_⟩
  refine AlF.intro fun b4 w19 hb4e hb4 k19 s19 => st4 hb4 rfl fun w23 hb23 k23 s23 => ?_
  have k1823 : Kp no w18 w23 := kp_blk k19 (by omega) k23
  have y1 := hY q.num
  have y2 := hY num
  refine cond_t (by simpa using y1) ?_
  have e : (((decF Y num : Nat) : Int) != 0) = true := by simpa using y2
  rw [e]
  exact h w23 ((k017.trans0 D'.kp).trans0 k1823)

theorem pageBits_walk {W : World} (hnib : Nib W) (hz : Szs W) {v0 v1 v2 : Value} (h0 : ArgW Tryd.prog W T_quotalaw07_P v0) (h1 : ArgW Tryd.prog W T_int v1) (h2 : ArgW Tryd.prog W T_int v2) :
    GoC Tryd.prog F_law07_PageBits #[v0, v1, v2] W fun e W' => e = .returned (.bool true) ∧ Kp no W W' := by
  obtain ⟨p, cs, gs, rfl, hp⟩ := p_open h0
  obtain ⟨bit, rfl, _⟩ := h1.arg.int (k := .i64) (by kernel_rfl)
  obtain ⟨num, rfl, _⟩ := h2.arg.int (k := .i64) (by kernel_rfl)
  exact pageBits_c hnib hz hp fun w' k => ⟨rfl, k⟩
end Go.Proofs.YtnkdonpammdldaaDoor
