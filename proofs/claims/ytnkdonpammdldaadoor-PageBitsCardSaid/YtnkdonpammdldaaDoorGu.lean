/- Contracts of the statements' own small functions: ref, back, lend, still; both Decodes in one form; reads. Conditions: the tables stand. -/
import Derived.Test.YtnkdonpammdldaaDoorGt
set_option linter.unusedVariables false
set_option linter.unusedSimpArgs false
namespace Go.Proofs.YtnkdonpammdldaaDoor
open Go Go.RowKit

theorem Szs.kp0 {w w' : World} (h : Szs w) (k : Kp no w w') : Szs w' := by
  obtain ⟨a1, c1, h1, r1⟩ := h.h
  obtain ⟨a2, c2, h2, r2⟩ := h.c
  obtain ⟨a3, c3, h3, r3⟩ := h.g
  exact ⟨⟨a1, c1, k.cell h1 id, r1.kp0 k⟩, ⟨a2, c2, k.cell h2 id, r2.kp0 k⟩, ⟨a3, c3, k.cell h3 id, r3.kp0 k⟩⟩

theorem ref_c {w : World} {p : PgV} {R : Ending → World → Prop} (h : ∀ w', Kp no w w' → R (.returned (.agg p.cs)) w') : GoC Tryd.prog F_law07_ref #[.agg p.cs] w R := by
  refine S_law07_ref ?_
  unfold W_law07_ref
  refine AlF.intro fun b1 w1 hb1e hb1 k1 s1 => AlF.intro fun b2 w2 hb2e hb2 k2 s2 => ?_
  have hb : Blk w2 b1 p.cs T_quotalaw07_P := k2.blk (show Blk w1 b1 p.cs T_quotalaw07_P from hb1) id
  refine ⟨_, pc0 hb, _, pc1 hb, _, _, _, pc2 hb, _, _, _, pc3 hb, ?_⟩
  exact ret4 (K := fun q w' => R (.returned (.agg q)) w') hb2 rfl fun w' _ k' _ => h w' (kp_blk (k1.trans0 k2) (by omega) k')
theorem back_c {w : World} {p : PgV} {R : Ending → World → Prop} (h : ∀ w', Kp no w w' → R (.returned (.agg p.cs)) w') : GoC Tryd.prog F_law07_back #[.agg p.cs] w R := by
  refine S_law07_back ?_
  unfold W_law07_back
  refine AlF.intro fun b1 w1 hb1e hb1 k1 s1 => AlF.intro fun b2 w2 hb2e hb2 k2 s2 => ?_
  have hb : Blk w2 b1 p.cs T_page_Page := k2.blk (show Blk w1 b1 p.cs T_page_Page from hb1) id
  refine ⟨_, pc0 hb, _, pc1 hb, _, _, _, pc2 hb, _, _, _, pc3 hb, ?_⟩
  exact ret4 (K := fun q w' => R (.returned (.agg q)) w') hb2 rfl fun w' _ k' _ => h w' (kp_blk (k1.trans0 k2) (by omega) k')

def marks7 : List UInt8 := [201, 202, 203]
theorem lend_c {w : World} {a : Option Addr} {l c : Nat} {bs : List UInt8} {R : Ending → World → Prop} (hr : Rd w a (bvs bs)) (hl : bs.length = l) (h0 : a = none → l = 0) (hb : l + 3 ≤ 140737488355328)
    (h : ∀ a' c' w', Rd w' a' (bvs (bs ++ marks7)) → a' ≠ none → l + 3 ≤ c' → Kp no w w' → Fresh w a' → R (.returned (.slice a' l c')) w') :
    GoC Tryd.prog F_law07_lend #[.slice a l c] w R := by
  refine S_law07_lend ?_
  unfold W_law07_lend
  refine append_new er_u8 hr (by rw [bvs_len]; omega) h0 bvs_one (by omega) (by omega) fun a1 c1 w1 hs1 k1 hf1 _ => ⟨a1, l, c1, rfl, ?_⟩
  refine AlF.intro fun b w2 hbe hblk k2 _ => ?_
  refine append_own er_u8 (hs1.kp0 k2) (rd_cells (xs := bvs marks7) hblk rfl) rfl (fun h => by cases h) bvs_one (by omega) (by omega) fun a3 c3 w3 hs3 k3 hi3 _ _ => ⟨a3, l + 3, c3, rfl, ?_⟩
  have hls := hs3.2.1
  refine ⟨⟨by omega, by omega⟩, trivial, ?_⟩
  rw [subA_zero, Int.toNat_natCast]
  rw [← bvs_app] at hs3
  refine h a3 c3 w3 hs3.rd (fun h0 => ?_) hls ((k1.trans0 k2).trans k3 (fun k _ h => h) fun k hk hk2 => by have := hf1 k hk2; omega) fun j hj => ?_
  · have := (hs3.addr (by omega)); obtain ⟨b', cur, ha, _⟩ := this; rw [h0] at ha; cases ha
  · rcases hi3 j hj with hh | hh
    · exact hf1 j hh
    · have := k1.size; have := k2.size; omega

theorem still_c {w : World} {a1 a2 : Option Addr} {l c1 c2 : Nat} {bs : List UInt8} {R : Ending → World → Prop} (h1 : Rd w a1 (bvs (bs ++ marks7))) (hn1 : a1 ≠ none) (hc : l + 3 ≤ c1) (h2 : Rd w a2 (bvs bs)) (hl : bs.length = l) (h0 : a2 = none → l = 0) (hb : l + 3 ≤ 140737488355328)
    (h : R (.returned (.bool true)) w) : GoC Tryd.prog F_law07_still #[.slice a1 l c1, .slice a2 l c2] w R := by
  refine S_law07_still ?_
  unfold W_law07_still
  have e3 : IntKind.wrap .i64 ((l : Int) + 3) = ((l + 3 : Nat) : Int) := by rw [wrap_i64 (by omega) (by omega)]; omega
  have e1 : IntKind.wrap .i64 ((l : Int) + 1) = ((l + 1 : Nat) : Int) := by rw [wrap_i64 (by omega) (by omega)]; omega
  have e2 : IntKind.wrap .i64 ((l : Int) + 2) = ((l + 2 : Nat) : Int) := by rw [wrap_i64 (by omega) (by omega)]; omega
  rw [e3, e1, e2]
  refine ⟨⟨by omega, by omega⟩, trivial, ?_⟩
  have h1' : Rd w a1 (bvs bs) := by
    have := h1.take l
    have e : (bvs (bs ++ marks7)).take l = bvs bs := by rw [bvs_app, List.take_append, bvs_len, hl, Nat.sub_self, List.take_zero, List.append_nil, List.take_of_length_le (by rw [bvs_len]; omega)]
    rwa [e] at this
  refine convert_bytes (e := T_uint8) (by kernel_rfl) (by kernel_rfl) (by kernel_rfl) h1' hl (fun hh => absurd hh hn1) fun z hz => ⟨z, rfl, ?_⟩
  refine convert_bytes (e := T_uint8) (by kernel_rfl) (by kernel_rfl) (by kernel_rfl) h2 hl h0 fun z' hz' => ⟨z', rfl, ?_⟩
  rw [hz, hz']
  refine cond_t (by simp) ?_
  rw [subA_zero, Int.toNat_natCast]
  have hlen : (bs ++ marks7).length = l + 3 := by simp [marks7, hl]
  have m0 : byteN (bs ++ marks7) l = 201 := by rw [byteN_get (by omega), List.getElem_append_right (by omega)]; simp [marks7, hl]
  have m1 : byteN (bs ++ marks7) (l + 1) = 202 := by rw [byteN_get (by omega), List.getElem_append_right (by omega)]; simp [marks7, hl]
  have m2 : byteN (bs ++ marks7) (l + 2) = 203 := by rw [byteN_get (by omega), List.getElem_append_right (by omega)]; simp [marks7, hl]
  refine idxB h1 hlen (i := l) (by omega) rfl (K := fun n => cond (n == 201) _ _) (cond_t (by rw [m0]; rfl) ?_)
  refine idxB h1 hlen (i := l + 1) (by omega) rfl (K := fun n => cond (n == 202) _ _) (cond_t (by rw [m1]; rfl) ?_)
  refine idxB h1 hlen (i := l + 2) (by omega) rfl (K := fun n => R (.returned (.bool (n == 203))) w) ?_
  rw [m2]
  exact h

/-- What a Decode answers, whether it takes the bytes or not. -/
def csR (B : List UInt8) (num : Int) : List CL := if decF B num = 0 then decCs B else []
def gsR (B : List UInt8) (num : Int) : List GL := if decF B num = 0 then decGs B else []
def numR (B : List UInt8) (num : Int) : Int := if decF B num = 0 then num else 0
def lsnR (B : List UInt8) (num : Int) : Int := if decF B num = 0 then dLsn B else 0
structure DecR (B : List UInt8) (num : Int) (w : World) (p : PgV) (w' : World) : Prop where
  hnum : p.num = numR B num
  hlsn : p.lsn = lsnR B num
  own : p.Own w' (csR B num) (gsR B num)
  kp : Kp no w w'
  fc : Fresh w p.ca
  fg : Fresh w p.ga
  one : p.ca = none ∨ p.ga = none
theorem dec_bad {B : List UInt8} {num : Int} {w w' : World} (h : decF B num ≠ 0) (k : Kp no w w') : DecR B num w pg0 w' :=
  ⟨by unfold numR; rw [if_neg h]; rfl, by unfold lsnR; rw [if_neg h]; rfl, by unfold csR gsR; rw [if_neg h, if_neg h]; exact own_zero w' 0, k, fresh_none _, fresh_none _, .inl rfl⟩
theorem dec_ok {B : List UInt8} {num : Int} {w w' : World} {p : PgV} (h : decF B num = 0) (h1 : p.num = num) (h2 : p.lsn = (dLsn B : Int)) (h3 : p.Own w' (decCs B) (decGs B)) (k : Kp no w w') (f1 : Fresh w p.ca) (f2 : Fresh w p.ga) (h4 : p.ca = none ∨ p.ga = none) : DecR B num w p w' :=
  ⟨by unfold numR; rw [if_pos h]; exact h1, by unfold lsnR; rw [if_pos h]; exact h2, by unfold csR gsR; rw [if_pos h, if_pos h]; exact h3, k, f1, f2, h4⟩
theorem decode_u {w : World} {a : Option Addr} {l c : Nat} {B : List UInt8} {num : Int} {R : Ending → World → Prop} (hnib : Nib w) (hz : Szs w) (hr : Rd w a (bvs B)) (hl : B.length = l) (hlc : l ≤ c)
    (h : ∀ (p : PgV) w', DecR B num w p w' → R (.returned (.tuple #[.agg p.cs, .int .i64 (decF B num : Int)])) w') : GoC Tryd.prog F_page_Decode #[.slice a l c, .int .i64 num] w R := by
  refine decode_c hnib hz hr hl hlc (fun hne w' k => h pg0 w' (dec_bad hne k)) fun h0 p w' h1 h2 h3 k f1 f2 h4 => ?_
  have := h p w' (dec_ok h0 h1 h2 h3 k f1 f2 h4)
  rw [h0] at this
  exact this
theorem decode7_u {w : World} {a : Option Addr} {l c : Nat} {B : List UInt8} {num : Int} {R : Ending → World → Prop} (hr : Rd w a (bvs B)) (hl : B.length = l)
    (h : ∀ (p : PgV) w', DecR B num w p w' → R (.returned (.tuple #[.agg p.cs, .int .i64 (decF B num : Int)])) w') : GoC Tryd.prog F_ref07_Decode #[.slice a l c, .int .i64 num] w R := by
  refine decode7_c hr hl (fun hne w' k => h pg0 w' (dec_bad hne k)) fun h0 p w' h1 h2 h3 k f1 f2 h4 => ?_
  have := h p w' (dec_ok h0 h1 h2 h3 k f1 f2 h4)
  rw [h0] at this
  exact this

theorem reads_c {w : World} {a : Option Addr} {l c : Nat} {B : List UInt8} {num : Int} {R : Ending → World → Prop} (hnib : Nib w) (hz : Szs w) (hr : Rd w a (bvs B)) (hl : B.length = l) (h0 : a = none → l = 0) (hb : l + 3 ≤ 140737488355328)
    (h : ∀ w', Kp no w w' → R (.returned (.bool true)) w') : GoC Tryd.prog F_law07_reads #[.slice a l c, .int .i64 num] w R := by
  refine S_law07_reads ?_
  unfold W_law07_reads
  refine lend_c hr hl h0 hb fun a' c' w1 hr1 hn1 hc1 k1 f1 => ⟨_, _, _, rfl, ?_⟩
  have hrB : Rd w1 a' (bvs B) := by
    have := hr1.take l
    have e : (bvs (B ++ marks7)).take l = bvs B := by rw [bvs_app, List.take_append, bvs_len, hl, Nat.sub_self, List.take_zero, List.append_nil, List.take_of_length_le (by rw [bvs_len]; omega)]
    rwa [e] at this
  refine decode_u (hnib.kp0 k1) (hz.kp0 k1) hrB hl (by omega) fun p w2 D => ⟨_, _, _, _, _, _, _, _, _, rfl, ?_⟩
  refine AlF.intro fun b1 w3 hb1e hb1 k3 s3 => st4 hb1 rfl fun w7 hb7 k7 s7 => ?_
  have k27 : Kp no w2 w7 := kp_blk k3 (by omega) k7
  have k07 := (k1.trans0 D.kp).trans0 k27
  refine decode7_u (hr.kp0 k07) hl fun q w8 D' => ⟨_, _, _, _, _, _, _, _, _, rfl, ?_⟩
  refine AlF.intro fun b2 w9 hb2e hb2 k9 s9 => st4 hb2 rfl fun w13 hb13 k13 s13 => ?_
  have k813 : Kp no w8 w13 := kp_blk k9 (by omega) k13
  have k713 := D'.kp.trans0 k813
  have hbp : Blk w13 b1 p.cs T_page_Page := k713.blk hb7 id
  have hbq : Blk w13 b2 q.cs T_quotaref07_Page := hb13
  have kd : Kp no w13 w13.drew := Kp.drew w13 1
  refine ⟨fun w' => Kp no w13 w', kd, cond_t (by simp) ?_⟩
  refine ⟨_, _, _, _, _, _, _, _, fun w' kz => ⟨pc0 (kz.blk hbp id), pc1 (kz.blk hbp id), pc2 (kz.blk hbp id), pc3 (kz.blk hbp id), trivial⟩, ?_⟩
  refine ⟨_, _, _, _, _, _, _, _, fun w' kz => ⟨pc0 (kz.blk hbq id), pc1 (kz.blk hbq id), pc2 (kz.blk hbq id), pc3 (kz.blk hbq id), trivial⟩, ?_⟩
  refine back_c (p := p) fun w14 k14 => ⟨_, _, _, _, _, _, _, _, rfl, kd.trans0 k14, ?_⟩
  have k1314 := kd.trans0 k14
  have hpI := (D.own.kp0 ((k27.trans0 k713).trans0 k1314)).to_in
  have hqI := (D'.own.kp0 (k813.trans0 k1314)).to_in
  refine same_c (p := p) (q := q) hpI hqI fun w15 k15 => ⟨_, rfl, k1314.trans0 k15, cond_t ?_ ?_⟩
  · unfold sameP
    rw [D.hnum, D.hlsn, D'.hnum, D'.hlsn]
    exact decide_eq_true ⟨rfl, rfl, rfl, rfl⟩
  · have k015 := (k07.trans0 k713).trans0 (k1314.trans0 k15)
    have k115 := ((D.kp.trans0 k27).trans0 k713).trans0 (k1314.trans0 k15)
    refine still_c (hr1.kp0 k115) hn1 hc1 (hr.kp0 k015) hl h0 hb ⟨_, rfl, k1314.trans0 k15, ?_⟩
    exact h w15 k015
end Go.Proofs.YtnkdonpammdldaaDoor
