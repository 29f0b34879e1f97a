/- The contract of the document's Encode. Conditions: lengths below 2^46. -/
import Derived.Test.YtnkdonpammdldaaDoorGr
set_option linter.unusedVariables false
set_option linter.unusedSimpArgs false
namespace Go.Proofs.YtnkdonpammdldaaDoor
open Go Go.RowKit

/-- Where a writer stands: bytes of its own, a copy of what came in, nothing old turned. -/
structure EncT (T : TypeId) (cs : Array Value) (w w1 : World) (b1 : Nat) (a : Option Addr) (B : List UInt8) : Prop where
  kp : Kp no w w1
  cp : Blk w1 b1 cs T
  sl : Sl w1 T_uint8 1 a 1024 1024 (bvs B)
  fr : Fresh w a
  ap : ¬ Is a b1
section
variable {T : TypeId} {cs : Array Value} {w w1 w2 : World} {b1 : Nat} {a : Option Addr} {B B' : List UInt8}
theorem EncT.kp0 (h : EncT T cs w w1 b1 a B) (k : Kp no w1 w2) : EncT T cs w w2 b1 a B :=
  ⟨h.kp.trans0 k, k.blk h.cp id, h.sl.kp0 k, h.fr, h.ap⟩
theorem EncT.turn (h : EncT T cs w w1 b1 a B) (k : Kp (Is a) w1 w2) (hs : Sl w2 T_uint8 1 a 1024 1024 (bvs B')) : EncT T cs w w2 b1 a B' :=
  ⟨h.kp.trans k (fun _ _ h => h) fun j hj hh => by have := h.fr j hh; omega, k.blk h.cp h.ap, hs, h.fr, h.ap⟩
theorem EncT.len (h : EncT T cs w w1 b1 a B) : B.length = 1024 := by have := h.sl.len; rwa [bvs_len] at this

theorem encT_put {at_ size nn : Int} {i s n : Nat} {R : Ending → World → Prop} (hE : EncT T cs w w1 b1 a B) (hi : at_ = (i : Int)) (hs : size = (s : Int)) (hs8 : s ≤ 8) (hl : i + s ≤ 1024) (hn : n < 18446744073709551616) (hnn : nn = (n : Int))
    (h : ∀ w', EncT T cs w w' b1 a (ovr B i s n) → Kp (Is a) w1 w' → R (.returned (.tuple #[])) w') :
    GoC Tryd.prog F_ref07_put #[.slice a 1024 1024, .int .i64 at_, .int .i64 size, .int .u64 nn] w1 R :=
  put7_c hE.sl (by omega) hi hs hs8 hl hn hnn fun w' hs' k' => h w' (hE.turn k' hs') k'

/-- One byte set. -/
theorem encT_set {i : Nat} {n : Int} {x : UInt8} {K : World → Prop} (hE : EncT T cs w w1 b1 a B) (hi : i < 1024) (hn : n = (i : Int)) {m : Int} (hm : m = (x.toNat : Int))
    (h : ∀ w', EncT T cs w w' b1 a (ovr B i 1 x.toNat) → Kp (Is a) w1 w' → K w') : IdxF a n 1024 fun d => StF w1 (d.add (Int.toNat n)) (.int .u8 m) K := by
  subst hn hm
  have hBl := hE.len
  obtain ⟨b, cur, ha, hblk, _⟩ := hE.sl.addr (by omega)
  refine ⟨by omega, by omega, _, ha, ?_⟩
  dsimp only
  rw [Int.toNat_natCast, add_at]
  refine hE.sl.put (i := i) hi ha fun w' hs' k' _ => h w' (hE.turn k' ?_) k'
  rw [ovr_one (by omega), bvs, List.map_set]
  exact hs'
end

/-- One counter's five numbers, put one behind the other. -/
theorem encT_ctr {T : TypeId} {cs : Array Value} {w w1 : World} {b1 : Nat} {a : Option Addr} {B : List UInt8} {i : Nat} {c : CL} {b2 : Nat} {P1 P2 P3 P4 P5 : Int} {C : List PanicEntry → World → Prop} {K : World → Prop} (hE : EncT T cs w w1 b1 a B) (hi : 16 + 32 * i + 32 ≤ 1024)
    (hb2 : Blk w1 b2 #[.int .i64 c.id, .int .i64 c.grp, .int .i64 c.lo, .int .i64 c.hi, .int .i64 c.val] T_api_Counter) (hna : ¬ Is a b2)
    (h1 : P1 = ((16 + 32 * i : Nat) : Int)) (h2 : P2 = ((16 + 32 * i + 4 : Nat) : Int)) (h3 : P3 = ((16 + 32 * i + 8 : Nat) : Int)) (h4 : P4 = ((16 + 32 * i + 16 : Nat) : Int)) (h5 : P5 = ((16 + 32 * i + 24 : Nat) : Int))
    (h : ∀ w', EncT T cs w w' b1 a (ctrO B i c) → Kp (Is a) w1 w' → K w') :
    ∃ n1 : Int, w1.cell? ⟨b2, 0, none⟩ = some (.int .i64 n1) ∧ CallF Tryd.prog F_ref07_put #[.slice a 1024 1024, .int .i64 P1, .int .i64 4, .int .u64 (IntKind.wrap .u64 n1)] w1 (fun r w2 => r = .tuple #[] ∧
    ∃ n2 : Int, w2.cell? (Addr.add ⟨b2, 0, none⟩ 1) = some (.int .i64 n2) ∧ CallF Tryd.prog F_ref07_put #[.slice a 1024 1024, .int .i64 P2, .int .i64 4, .int .u64 (IntKind.wrap .u64 n2)] w2 (fun r w3 => r = .tuple #[] ∧
    ∃ n3 : Int, w3.cell? (Addr.add ⟨b2, 0, none⟩ 2) = some (.int .i64 n3) ∧ CallF Tryd.prog F_ref07_put #[.slice a 1024 1024, .int .i64 P3, .int .i64 8, .int .u64 (IntKind.wrap .u64 n3)] w3 (fun r w4 => r = .tuple #[] ∧
    ∃ n4 : Int, w4.cell? (Addr.add (Addr.add ⟨b2, 0, none⟩ 2) 1) = some (.int .i64 n4) ∧ CallF Tryd.prog F_ref07_put #[.slice a 1024 1024, .int .i64 P4, .int .i64 8, .int .u64 (IntKind.wrap .u64 n4)] w4 (fun r w5 => r = .tuple #[] ∧
    ∃ n5 : Int, w5.cell? (Addr.add ⟨b2, 0, none⟩ 4) = some (.int .i64 n5) ∧ CallF Tryd.prog F_ref07_put #[.slice a 1024 1024, .int .i64 P5, .int .i64 8, .int .u64 (IntKind.wrap .u64 n5)] w5 (fun r w6 => r = .tuple #[] ∧ K w6) C) C) C) C) C := by
  subst h1 h2 h3 h4 h5
  refine ⟨_, hb2.cell 0, encT_put hE rfl (s := 4) rfl (by omega) (by omega) (u64n_lt c.id) (u64_code _) fun w2 E2 k2 => ⟨rfl, ?_⟩⟩
  have c2 := k2.blk hb2 hna
  refine ⟨_, by rw [add_at]; exact c2.cell 1, encT_put E2 rfl (s := 4) rfl (by omega) (by omega) (u64n_lt c.grp) (u64_code _) fun w3 E3 k3 => ⟨rfl, ?_⟩⟩
  have c3 := k3.blk c2 hna
  refine ⟨_, by rw [add_at]; exact c3.cell 2, encT_put E3 rfl (s := 8) rfl (by omega) (by omega) (u64n_lt c.lo) (u64_code _) fun w4 E4 k4 => ⟨rfl, ?_⟩⟩
  have c4 := k4.blk c3 hna
  refine ⟨_, by rw [add_at, add_at]; exact c4.cell 3, encT_put E4 rfl (s := 8) rfl (by omega) (by omega) (u64n_lt c.hi) (u64_code _) fun w5 E5 k5 => ⟨rfl, ?_⟩⟩
  have c5 := k5.blk c4 hna
  refine ⟨_, by rw [add_at]; exact c5.cell 4, encT_put E5 rfl (s := 8) rfl (by omega) (by omega) (u64n_lt c.val) (u64_code _) fun w6 E6 k6 => ⟨rfl, ?_⟩⟩
  exact h w6 E6 ((((k2.trans0 k3).trans0 k4).trans0 k5).trans0 k6)

theorem st5 {w : World} {b : Nat} {cur : Array Value} {T : TypeId} (hb : Blk w b cur T) (hs : cur.size = 5) {v0 v1 v2 v3 v4 : Value} {K : World → Prop}
    (h : ∀ w', Blk w' b #[v0, v1, v2, v3, v4] T → Kp (fun k => k = b) w w' → w'.heap.size = w.heap.size → K w') :
    StF w ⟨b, 0, none⟩ v0 fun w1 => StF w1 (Addr.add ⟨b, 0, none⟩ 1) v1 fun w2 => StF w2 (Addr.add ⟨b, 0, none⟩ 2) v2 fun w3 => StF w3 (Addr.add ⟨b, 0, none⟩ 3) v3 fun w4 => StF w4 (Addr.add ⟨b, 0, none⟩ 4) v4 K := by
  refine StF.intro hb (by omega) fun w1 hb1 k1 e1 => ?_
  rw [add_at, add_at, add_at, add_at]
  refine StF.intro hb1 (by simp; omega) fun w2 hb2 k2 e2 => StF.intro hb2 (by simp; omega) fun w3 hb3 k3 e3 => StF.intro hb3 (by simp; omega) fun w4 hb4 k4 e4 => StF.intro hb4 (by simp; omega) fun w5 hb5 k5 e5 => h w5 ?_ ((((k1.trans0 k2).trans0 k3).trans0 k4).trans0 k5) (by omega)
  have : ((((cur.setIfInBounds 0 v0).setIfInBounds (0 + 1) v1).setIfInBounds (0 + 2) v2).setIfInBounds (0 + 3) v3).setIfInBounds (0 + 4) v4 = #[v0, v1, v2, v3, v4] := by
    apply Array.ext_getElem?
    intro i
    simp only [Array.getElem?_setIfInBounds]
    match i with
    | 0 => simp [hs]
    | 1 => simp [hs]
    | 2 => simp [hs]
    | 3 => simp [hs]
    | 4 => simp [hs]
    | i + 5 => simp [hs]
  rw [this] at hb5
  exact hb5
theorem grpI1 {w : World} {a : Option Addr} {L : List GL} (h : GsIn w a L) {i : Nat} (hi : i < L.length) {l : Nat} (hl : L.length = l) {n : Int} (hn : n = (i : Int)) {K : Int → Prop} (hk : K (L[i]).sum) :
    IdxF a n l fun d => ∃ n1 : Int, w.cell? (Addr.add (d.add (Int.toNat n * 2)) 1) = some (.int .i64 n1) ∧ K n1 := by
  subst hn
  obtain ⟨b, o, ha, hc⟩ := h i hi
  refine ⟨by omega, by omega, _, ha, _, ?_, hk⟩
  rw [Int.toNat_natCast, add_at, add_at]
  exact hc 1 _ rfl

theorem encode7_c {w : World} {p : PgV} {cs : List CL} {gs : List GL} {R : Ending → World → Prop} (hp : p.In w cs gs)
    (h0 : refP p.num p.lsn cs gs ≠ 0 → ∀ w', Kp no w w' → R (.returned (.tuple #[.slice none 0 0, .int .i64 (refP p.num p.lsn cs gs : Int)])) w')
    (h1 : refP p.num p.lsn cs gs = 0 → ∀ a w', Sl w' T_uint8 1 a 1024 1024 (bvs (encO p.num p.lsn cs gs)) → Kp no w w' → Fresh w a → R (.returned (.tuple #[.slice a 1024 1024, .int .i64 0])) w') :
    GoC Tryd.prog F_ref07_Encode #[.agg p.cs] w R := by
  refine S_ref07_Encode ?_
  unfold W_ref07_Encode
  have hcl := hp.cl
  have hgl := hp.gl
  refine AlF.intro fun b1 w1 hb1e hb1 k1 _ => ?_
  have hb1' : Blk w1 b1 p.cs T_quotaref07_Page := hb1
  refine ⟨_, _, _, _, _, _, _, _, ⟨pc0 hb1', pc1 hb1', pc2 hb1', pc3 hb1', trivial⟩, ?_⟩
  refine fault_c (p := p) (hp.kp0 k1) fun w2 k2 => ⟨_, rfl, cond_ne (fun hne => h0 (by omega) w2 (k1.trans0 k2)) (fun he => ?_)⟩
  have he0 : refP p.num p.lsn cs gs = 0 := by omega
  have h1' := h1 he0
  have hR := right_of he0
  refine make_u8 (n := 1024) (by omega) fun bb w3 cur hbb hcur k3 hbe => ⟨_, _, _, rfl, ?_⟩
  have k13 : Kp no w1 w3 := k2.trans0 k3
  have hb13 := k13.blk hb1' id
  have hsl3 := sl_new hbb hcur
  have s1 := k1.size
  have s2 := k2.size
  have hb1lt := hb1.lt
  refine ⟨_, _, _, pc2 hb13, _, _, _, pc3 hb13, ?_⟩
  have hfr : Fresh w (some ⟨bb, 0, none⟩) := by rintro k ⟨ad, had, rfl⟩; cases had; dsimp only; omega
  have E3 : EncT T_quotaref07_Page p.cs w w3 b1 (some ⟨bb, 0, none⟩) page0 := ⟨k1.trans0 k13, hb13, hsl3, hfr, by rintro ⟨ad, had, hh⟩; cases had; dsimp only at hh; omega⟩
  generalize (some ⟨bb, 0, none⟩ : Option Addr) = a at *
  have hc31 := hR.c
  have hg84 := hR.g
  have ew : IntKind.wrap .i64 ((p.cl : Int) + (p.gl : Int)) = ((cs.length + gs.length : Nat) : Int) := by rw [wrap_i64 (by omega) (by omega)]; omega
  rw [ew]
  refine cond_eq (fun hz0 => ?_) (fun hnz => ?_)
  · refine h1' a w3 ?_ E3.kp E3.fr
    unfold encO
    rw [if_pos (by omega)]
    exact E3.sl
  refine encT_set (x := 113) E3 (i := 0) (by omega) rfl rfl fun w4 E4 k4 => ?_
  refine encT_set (x := 1) E4 (i := 1) (by omega) rfl rfl fun w5 E5 k5 => ?_
  have hp0 := page0_len
  refine ⟨fun _ w' => EncT T_quotaref07_Page p.cs w w' b1 a (ovr (ovr page0 0 1 113) 1 1 (kindN gs)), ?_, ?_⟩
  · refine ⟨_, _, _, pc3 E5.cp, cond_d (fun hg => ?_) (fun hg => ?_)⟩
    · refine encT_set (x := 2) E5 (i := 1) (by omega) rfl rfl fun w6 E6 k6 => ?_
      have e : kindN gs = (2 : UInt8).toNat := by unfold kindN; rw [if_pos (by omega)]; rfl
      rw [e]
      have e2 := ovr_idem (B := ovr page0 0 1 (113 : UInt8).toNat) (a := 1) (s := 1) (m := (1 : UInt8).toNat) (n := (2 : UInt8).toNat) (by rw [ovr_len (by omega)]; omega)
      rw [e2] at E6
      exact E6
    · have e : kindN gs = (1 : UInt8).toNat := by unfold kindN; rw [if_neg (by omega)]; rfl
      rw [e]
      exact E5
  rintro u11 w6 E6 _
  refine ⟨_, pc0 E6.cp, encT_put E6 (i := 2) rfl (s := 2) rfl (by omega) (by omega) (u64n_lt p.num) (u64_code _) fun w7 E7 k7 => ⟨rfl, ?_⟩⟩
  refine ⟨_, _, _, pc2 E7.cp, _, _, _, pc3 E7.cp, ?_⟩
  rw [ew]
  refine encT_put E7 (i := 4) rfl (s := 2) rfl (by omega) (by omega) (n := cs.length + gs.length) (by omega) (wrap_u64 (by omega) (by omega)) fun w8 E8 k8 => ⟨rfl, ?_⟩
  refine ⟨_, pc1 E8.cp, encT_put E8 (i := 8) rfl (s := 4) rfl (by omega) (by omega) (u64n_lt p.lsn) (u64_code _) fun w9 E9 k9 => ⟨rfl, ?_⟩⟩
  have E9' : EncT T_quotaref07_Page p.cs w w9 b1 a (headO (u64n p.num) (cs.length + gs.length) (u64n p.lsn) (kindN gs)) := E9
  clear E9
  generalize hH : headO (u64n p.num) (cs.length + gs.length) (u64n p.lsn) (kindN gs) = H at E9'
  refine loopN (fun s w' => ∃ (k : Nat) (B : List UInt8), k ≤ cs.length ∧ s.1 = (k : Int) ∧ EncT T_quotaref07_Page p.cs w w' b1 a B ∧ ctrsO B k (cs.drop k) = ctrsO H 0 cs) (fun s _ => cs.length - s.1.toNat) ⟨0, H, Nat.zero_le _, rfl, E9', rfl⟩ ?_
  rintro ⟨k0, u⟩ w10 ⟨k, B, hk, hk0, E10, hP⟩ _
  dsimp only at hk0 ⊢
  subst hk0
  refine ⟨_, _, _, pc2 E10.cp, cond_d (fun hlt => ?_) (fun hge => ?_)⟩
  · have hkl : k < cs.length := by omega
    rw [List.drop_eq_getElem_cons hkl, ctrsO] at hP
    refine ⟨_, _, _, pc2 E10.cp, ctrI (hp.kp0 E10.kp).c hkl hcl rfl ?_⟩
    refine AlF.intro fun b2 w11 hb2e hb2 k11 s11 => st5 hb2 rfl fun w16 hb16 k16 s16 => ?_
    have E16 := E10.kp0 (kp_blk k11 (by omega) k16)
    have e1 : IntKind.wrap .i64 (32 * (k : Int)) = ((32 * k : Nat) : Int) := by rw [wrap_i64 (by omega) (by omega)]; omega
    have e2 : IntKind.wrap .i64 (16 + ((32 * k : Nat) : Int)) = ((16 + 32 * k : Nat) : Int) := by rw [wrap_i64 (by omega) (by omega)]; omega
    have e3 : IntKind.wrap .i64 ((k : Int) + 1) = ((k + 1 : Nat) : Int) := by rw [wrap_i64 (by omega) (by omega)]; omega
    rw [e1, e2, e3]
    have halt := E10.sl.lt
    refine encT_ctr (i := k) (c := cs[k]) E16 (by omega) hb16 (fun hh => by have := halt _ hh; omega) rfl (by rw [wrap_i64 (by omega) (by omega)]; omega) (by rw [wrap_i64 (by omega) (by omega)]; omega) (by rw [wrap_i64 (by omega) (by omega)]; omega) (by rw [wrap_i64 (by omega) (by omega)]; omega) fun w' E' k' => ?_
    exact ⟨⟨k + 1, _, by omega, rfl, E', hP⟩, by simp only [Int.toNat_natCast]; omega⟩
  · have hke : k = cs.length := by omega
    subst hke
    rw [List.drop_length, ctrsO] at hP
    subst hP
    refine loopN (fun s w' => ∃ (k : Nat) (B : List UInt8), k ≤ gs.length ∧ s.1 = (k : Int) ∧ EncT T_quotaref07_Page p.cs w w' b1 a B ∧ grpsO B k (gs.drop k) = grpsO (ctrsO H 0 cs) 0 gs) (fun s _ => gs.length - s.1.toNat) ⟨0, _, Nat.zero_le _, rfl, E10, rfl⟩ ?_
    rintro ⟨k0, u⟩ w22 ⟨k, B, hk, hk0, E22, hP⟩ _
    dsimp only at hk0 ⊢
    subst hk0
    refine ⟨_, _, _, pc3 E22.cp, cond_d (fun hlt => ?_) (fun hge => ?_)⟩
    · have hkl : k < gs.length := by omega
      rw [List.drop_eq_getElem_cons hkl, grpsO] at hP
      have e1 : IntKind.wrap .i64 (12 * (k : Int)) = ((12 * k : Nat) : Int) := by rw [wrap_i64 (by omega) (by omega)]; omega
      have e2 : IntKind.wrap .i64 (16 + ((12 * k : Nat) : Int)) = ((16 + 12 * k : Nat) : Int) := by rw [wrap_i64 (by omega) (by omega)]; omega
      have e4 : IntKind.wrap .i64 (((16 + 12 * k : Nat) : Int) + 4) = ((16 + 12 * k + 4 : Nat) : Int) := by rw [wrap_i64 (by omega) (by omega)]; omega
      have e3 : IntKind.wrap .i64 ((k : Int) + 1) = ((k + 1 : Nat) : Int) := by rw [wrap_i64 (by omega) (by omega)]; omega
      rw [e1, e2, e3, e4]
      refine ⟨_, _, _, pc3 E22.cp, grpI0 (hp.kp0 E22.kp).g hkl hgl rfl ?_⟩
      refine encT_put E22 (i := 16 + 12 * k) rfl (s := 4) rfl (by omega) (by omega) (u64n_lt (gs[k]).id) (u64_code _) fun w23 E23 k23 => ⟨rfl, ?_⟩
      refine ⟨_, _, _, pc3 E23.cp, grpI1 (hp.kp0 E23.kp).g hkl hgl rfl ?_⟩
      refine encT_put E23 (i := 16 + 12 * k + 4) rfl (s := 8) rfl (by omega) (by omega) (u64n_lt (gs[k]).sum) (u64_code _) fun w24 E24 k24 => ⟨rfl, ?_⟩
      exact ⟨⟨k + 1, _, by omega, rfl, E24, hP⟩, by simp only [Int.toNat_natCast]; omega⟩
    · have hke : k = gs.length := by omega
      subst hke
      rw [List.drop_length, grpsO] at hP
      have hlen := E22.len
      have hps : psumN B < 4294967296 := Nat.xor_lt_two_pow (n := 32) (fold_lt _ _ (by omega)) (by omega)
      refine sum7_c E22.sl.rd hlen (by omega) (by omega) ⟨_, rfl, ?_⟩
      refine encT_put E22 (i := 12) rfl (s := 4) rfl (by omega) (by omega) (n := psumN B) (by omega) (wrap_u64 (by omega) (by omega)) fun w26 E26 k26 => ⟨rfl, ?_⟩
      refine h1' a w26 ?_ E26.kp E26.fr
      unfold encO
      rw [if_neg (by omega)]
      have hb : bodyO p.num p.lsn cs gs = B := by unfold bodyO; rw [hH, hP]
      rw [hb]
      exact E26.sl
end Go.Proofs.YtnkdonpammdldaaDoor
