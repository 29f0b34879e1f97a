/- The contract of the package page's contents and refused. Conditions: lengths below 2^46. -/
import Derived.Test.YtnkdonpammdldaaDoorGa
set_option linter.unusedVariables false
set_option linter.unusedSimpArgs false
namespace Go.Proofs.YtnkdonpammdldaaDoor
open Go Go.RowKit

theorem contents_c {w : World} {p : PgV} {cs : List CL} {gs : List GL} {R : Ending → World → Prop} (hp : p.In w cs gs) (h : ∀ w', Kp no w w' → R (.returned (.int .i64 (contP cs gs : Int))) w') : GoC Tryd.prog F_page_Page_contents #[.agg p.cs] w R := by
  refine S_page_Page_contents ?_
  unfold W_page_Page_contents
  have hcl := hp.cl
  have hgl := hp.gl
  have hcb := hp.cb
  have hgb := hp.gb
  refine AlF.intro fun b1 w1 hb1e hb1 k1 _ => ⟨p.ca, p.cl, p.cc, by rw [add_at]; exact hb1.cell 2, ?_⟩
  refine loopN (fun s w2 => Kp no w1 w2 ∧ ∃ k : Nat, k ≤ cs.length ∧ s.1 = (k : Int) ∧ contP cs gs = firstF ((cs.drop k).map faultC ++ gs.map faultG)) (fun s _ => cs.length - s.1.toNat) ⟨Kp.refl _ _, 0, Nat.zero_le _, rfl, rfl⟩ ?_
  rintro ⟨k0, u⟩ w2 ⟨k2, k, hk, hk0, hcont⟩ _
  dsimp only at hk0 ⊢
  subst hk0
  have s1 := k1.size
  refine cond_d (fun hlt => ?_) (fun hge => ?_)
  · have hkl : k < cs.length := by omega
    obtain ⟨b, o, ha, hc⟩ := (hp.kp0 (k1.trans0 k2)).c k hkl
    have hdrop : cs.drop k = cs[k] :: cs.drop (k + 1) := List.drop_eq_getElem_cons hkl
    rw [hdrop, List.map_cons, List.cons_append, firstF] at hcont
    have cell : ∀ q v, (cs[k]).cs[q]? = some v → w2.cell? (Addr.add ((⟨b, o, none⟩ : Addr).add (Int.toNat (k : Int) * 5)) q) = some v := fun q v hv => by
      rw [Int.toNat_natCast, add_at, add_at]; exact hc q v hv
    have cell0 : w2.cell? ((⟨b, o, none⟩ : Addr).add (Int.toNat (k : Int) * 5)) = some (.int .i64 (cs[k]).id) := by
      rw [Int.toNat_natCast, add_at]; exact hc 0 _ rfl
    refine ⟨by omega, by omega, _, ha, (cs[k]).id, (cs[k]).grp, (cs[k]).lo, (cs[k]).hi, (cs[k]).val, ⟨cell0, cell 1 _ rfl, cell 2 _ rfl, cell 3 _ rfl, cell 4 _ rfl, trivial⟩, ?_⟩
    refine AlF.intro fun b2 w3 hb2e hb2 k3 _ => ?_
    refine StF.intro (o := 0) hb2 (by decide) fun w4 hb4 k4 _ => ?_
    rw [add_at, add_at, add_at, add_at]
    refine StF.intro (o := 0 + 1) hb4 (by simp) fun w5 hb5 k5 _ => StF.intro (o := 0 + 2) hb5 (by simp) fun w6 hb6 k6 _ => StF.intro (o := 0 + 3) hb6 (by simp) fun w7 hb7 k7 _ => StF.intro (o := 0 + 4) hb7 (by simp) fun w8 hb8 k8 _ => ?_
    have k28 : Kp no w2 w8 := (k3.of_no.trans0 ((((k4.trans0 k5).trans0 k6).trans0 k7).trans0 k8)).trans (Kp.refl no w8) (fun j hj hh => by omega) (fun _ _ h => h)
    have k18 := k2.trans0 k28
    have k08 := k1.trans0 k18
    refine ⟨(cs[k]).id, hb8.cell 0, in_c ⟨_, rfl, ?_⟩⟩
    by_cases h1 : fits1 (cs[k]).id
    · refine cond_f (by simp; exact h1) ⟨(cs[k]).grp, hb8.cell 1, in_c ⟨_, rfl, ?_⟩⟩
      by_cases h2 : fits1 (cs[k]).grp
      · refine cond_f (by simp; exact h2) ⟨(cs[k]).lo, hb8.cell 2, (cs[k]).hi, by rw [add_at]; exact hb8.cell 3, ?_⟩
        refine cond_d (fun hgt => ?_) (fun hle => ?_)
        · have hf : faultC cs[k] = 11 := by unfold faultC; rw [if_pos ⟨h1, h2⟩, if_pos hgt]
          rw [hf, if_neg (by omega)] at hcont
          have := h w8 k08
          rw [hcont] at this
          exact this
        · have hf : faultC cs[k] = 0 := by unfold faultC; rw [if_pos ⟨h1, h2⟩, if_neg hle]
          rw [hf, if_pos rfl] at hcont
          have hwk : IntKind.wrap .i64 ((k : Int) + 1) = ((k + 1 : Nat) : Int) := by rw [wrap_i64 (by omega) (by omega)]; omega
          rw [hwk]
          exact ⟨⟨k18, k + 1, by omega, rfl, hcont⟩, by simp only [Int.toNat_natCast]; omega⟩
      · have hf : faultC cs[k] = 23 := by unfold faultC; rw [if_neg (fun hh => h2 hh.2)]
        rw [hf, if_neg (by omega)] at hcont
        have := h w8 k08
        rw [hcont] at this
        exact cond_t (by simp only [Bool.not_eq_true', decide_eq_false_iff_not]; exact h2) this
    · have hf : faultC cs[k] = 23 := by unfold faultC; rw [if_neg (fun hh => h1 hh.1)]
      rw [hf, if_neg (by omega)] at hcont
      have := h w8 k08
      rw [hcont] at this
      exact cond_t (by simp only [Bool.not_eq_true', decide_eq_false_iff_not]; exact h1) this
  · have hke : k = cs.length := by omega
    subst hke
    rw [List.drop_length, List.map_nil, List.nil_append] at hcont
    refine ⟨p.ga, p.gl, p.gc, by rw [add_at]; exact (k2.blk hb1 id).cell 3, ?_⟩
    refine loopN (fun s w3 => Kp no w1 w3 ∧ ∃ k : Nat, k ≤ gs.length ∧ s.1 = (k : Int) ∧ contP cs gs = firstF ((gs.drop k).map faultG)) (fun s _ => gs.length - s.1.toNat) ⟨k2, 0, Nat.zero_le _, rfl, hcont⟩ ?_
    rintro ⟨k0, u⟩ w3 ⟨k3, k, hk, hk0, hcont⟩ _
    dsimp only at hk0 ⊢
    subst hk0
    refine cond_d (fun hlt => ?_) (fun hge => ?_)
    · have hkl : k < gs.length := by omega
      obtain ⟨b, o, ha, hc⟩ := (hp.kp0 (k1.trans0 k3)).g k hkl
      have hdrop : gs.drop k = gs[k] :: gs.drop (k + 1) := List.drop_eq_getElem_cons hkl
      rw [hdrop, List.map_cons, firstF] at hcont
      have cell1 : w3.cell? (Addr.add ((⟨b, o, none⟩ : Addr).add (Int.toNat (k : Int) * 2)) 1) = some (.int .i64 (gs[k]).sum) := by
        rw [Int.toNat_natCast, add_at, add_at]; exact hc 1 _ rfl
      have cell0 : w3.cell? ((⟨b, o, none⟩ : Addr).add (Int.toNat (k : Int) * 2)) = some (.int .i64 (gs[k]).id) := by
        rw [Int.toNat_natCast, add_at]; exact hc 0 _ rfl
      refine ⟨by omega, by omega, _, ha, (gs[k]).id, (gs[k]).sum, ⟨cell0, cell1, trivial⟩, ?_⟩
      refine AlF.intro fun b2 w4 hb2e hb2 k4 _ => ?_
      refine StF.intro (o := 0) hb2 (by decide) fun w5 hb5 k5 _ => ?_
      rw [add_at]
      refine StF.intro (o := 0 + 1) hb5 (by simp) fun w6 hb6 k6 _ => ?_
      have k36 : Kp no w3 w6 := (k4.of_no.trans0 (k5.trans0 k6)).trans (Kp.refl no w6) (fun j hj hh => by omega) (fun _ _ h => h)
      have k16 := k3.trans0 k36
      refine ⟨(gs[k]).id, hb6.cell 0, in_c ⟨_, rfl, ?_⟩⟩
      by_cases h1 : fits1 (gs[k]).id
      · have hf : faultG gs[k] = 0 := by unfold faultG; rw [if_pos h1]
        rw [hf, if_pos rfl] at hcont
        have hwk : IntKind.wrap .i64 ((k : Int) + 1) = ((k + 1 : Nat) : Int) := by rw [wrap_i64 (by omega) (by omega)]; omega
        rw [hwk]
        exact cond_f (by simp; exact h1) ⟨⟨k16, k + 1, by omega, rfl, hcont⟩, by simp only [Int.toNat_natCast]; omega⟩
      · have hf : faultG gs[k] = 23 := by unfold faultG; rw [if_neg h1]
        rw [hf, if_neg (by omega)] at hcont
        have := h w6 (k1.trans0 k16)
        rw [hcont] at this
        exact cond_t (by simp only [Bool.not_eq_true', decide_eq_false_iff_not]; exact h1) this
    · have hke : k = gs.length := by omega
      subst hke
      rw [List.drop_length, List.map_nil, firstF] at hcont
      have := h w3 (k1.trans0 k3)
      rw [hcont] at this
      exact this
end Go.Proofs.YtnkdonpammdldaaDoor
