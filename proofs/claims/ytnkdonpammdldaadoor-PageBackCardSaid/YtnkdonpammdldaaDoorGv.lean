/- The contract of the statements' own 'first'. Conditions: the tables stand. -/
import Derived.Test.YtnkdonpammdldaaDoorGu
set_option linter.unusedVariables false
set_option linter.unusedSimpArgs false
namespace Go.Proofs.YtnkdonpammdldaaDoor
open Go Go.RowKit

theorem first_c {w : World} {R : Ending → World → Prop} (hnib : Nib w) (hz : Szs w) (h : ∀ w', Kp no w w' → R (.returned (.bool true)) w') : GoC Tryd.prog F_law07_first #[] w R := by
  refine S_law07_first ?_
  unfold W_law07_first
  refine AlF.intro fun b1 w1 hb1e hb1 k1 s1 => ?_
  have hp : PgV.In ⟨2, 258, none, 0, 0, some ⟨b1, 0, none⟩, 1, 1⟩ w1 [] [⟨7, -1⟩] := ⟨fun i hi => by simp at hi, rfl, Nat.zero_lt_succ _, .of_rd (rd_cells hb1 rfl), rfl, by dsimp only; omega⟩
  refine encode_c (p := ⟨2, 258, none, 0, 0, some ⟨b1, 0, none⟩, 1, 1⟩) (hnib.kp0 k1) (hz.kp0 k1) hp (fun hne => absurd ex_ref hne) fun _ a w2 hs2 k2 f2 => ⟨_, _, _, _, rfl, ?_⟩
  have hx : encB 2 258 [] [⟨7, -1⟩] = exB := by unfold exB; rfl
  have hs2' : Sl w2 T_uint8 1 a 1024 1024 (bvs exB) := by rw [← hx]; exact hs2
  clear hs2
  obtain ⟨x1, x2, x3, x4, x5⟩ := ex_all
  have hxl : exB.length = 1024 := by have := hs2'.len; rwa [bvs_len] at this
  have hna : a ≠ none := fun h0 => by obtain ⟨b, cur, ha, _⟩ := hs2'.addr (by omega); rw [h0] at ha; cases ha
  refine cond_f rfl (cond_f rfl ⟨⟨by omega, by omega⟩, trivial, ?_⟩)
  rw [subA_zero]
  refine convert_bytes (bs := exB.take 12) (e := T_uint8) (by kernel_rfl) (by kernel_rfl) (by kernel_rfl) ?_ (by rw [List.length_take, hxl]; rfl) (fun hh => absurd hh hna) fun z hz1 => ⟨z, rfl, ?_⟩
  · rw [bvs, List.map_take]
    exact hs2'.rd.take 12
  refine cond_f ?_ ⟨⟨by omega, by omega⟩, ⟨by omega, by simp [hiOf]⟩, ?_⟩
  · rw [hz1, toList_eq]
    simpa using x1
  have e16 : Int.toNat 16 = 16 := rfl
  have e28 : Int.toNat 28 = 28 := rfl
  rw [e16, e28]
  refine convert_bytes (bs := (exB.drop 16).take 12) (e := T_uint8) (by kernel_rfl) (by kernel_rfl) (by kernel_rfl) ?_ (by rw [List.length_take, List.length_drop, hxl]; rfl) (fun hh => ?_) fun z2 hz2 => ⟨z2, rfl, ?_⟩
  · rw [bvs, List.map_take]
    exact (rd_drop hs2'.rd (by omega)).take 12
  · unfold subA at hh
    rw [if_neg (by omega)] at hh
    cases a with
    | none => exact absurd rfl hna
    | some ad => cases hh
  refine cond_f ?_ ?_
  · rw [hz2, toList_eq]
    simpa using x2
  have k12 := k1.trans0 k2
  refine decode_c (hnib.kp0 k12) (hz.kp0 k12) hs2'.rd hxl (Nat.le_refl _) (fun hne => absurd x3 hne) fun _ p w5 hn hl ho k5 f5 f6 hc => ⟨_, _, _, _, _, _, _, _, _, rfl, ?_⟩
  refine AlF.intro fun b2 w6 hb2e hb2 k6 s6 => st4 hb2 rfl fun w10 hb10 k10 s10 => ?_
  have hbp : Blk w10 b2 p.cs T_page_Page := hb10
  have k510 : Kp no w5 w10 := kp_blk k6 (by omega) k10
  have ho10 := ho.kp0 k510
  refine ⟨_, _, _, _, _, _, _, _, ⟨pc0 hbp, pc1 hbp, pc2 hbp, pc3 hbp, trivial⟩, ?_⟩
  have hgl1 : p.gl = 1 := by rw [← ho.gl, x5]
  have hcl0 := ho.cl
  refine copy_c (p := p) ho10.to_in ?_ (by omega) fun q w11 hq1 hq2 hqo k11 g1 g2 g3 => ⟨_, _, _, _, _, _, _, _, rfl, ?_⟩
  · have hc0 : p.cl ≤ 84 := by
      rw [← hcl0]
      unfold decCs
      rw [csK_len]
      have : dN exB ≤ 84 ∨ 84 < dN exB := by omega
      rcases this with h | h
      · split <;> omega
      · have := ho.gl
        rw [hgl1] at this
        unfold decGs at this
        rw [gsK_len] at this
        split at this
        · omega
        · cases this
    omega
  refine AlF.intro fun b3 w12 hb3e hb3 k12' s12 => st4 hb3 rfl fun w16 hb16 k16 s16 => ?_
  have k1116 : Kp no w11 w16 := kp_blk k12' (by omega) k16
  have hbp16 := (k11.trans0 k1116).blk hbp id
  have hbq : Blk w16 b3 q.cs T_page_Page := hb16
  have kall : Kp no w w16 := ((k12.trans0 k5).trans0 k510).trans0 (k11.trans0 k1116)
  have hql1 : q.gl = 1 := by rw [← hqo.gl, x5]
  have hq16 := (hqo.kp0 k1116).to_in
  have hp16 := (ho10.kp0 (k11.trans0 k1116)).to_in
  refine cond_t rfl ⟨_, pc1 hbp16, cond_t (by rw [hl, x4]; rfl) ⟨_, _, _, pc3 hbp16, cond_t (by rw [hgl1]; rfl) ⟨_, _, _, pc3 hbq, cond_t (by rw [hql1]; rfl) ⟨_, _, _, pc3 hbq, ?_⟩⟩⟩⟩
  refine grpI hq16.g (i := 0) (by rw [x5]; omega) hq16.gl rfl ⟨_, _, _, pc3 hbp16, grpI hp16.g (i := 0) (by rw [x5]; omega) hp16.gl rfl (cond_t (by simp) ⟨_, pc0 hbq, fun k => ?_⟩)⟩
  have : (q.num == 2) = true := by rw [hq1, hn]; rfl
  rw [this]
  exact h _ (kall.trans0 (Kp.drew w16 k))
end Go.Proofs.YtnkdonpammdldaaDoor
