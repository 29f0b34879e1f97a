/- The contract of the package page's refused. Conditions: lengths below 2^46. -/
import Derived.Test.YtnkdonpammdldaaDoorGb
set_option linter.unusedVariables false
set_option linter.unusedSimpArgs false
namespace Go.Proofs.YtnkdonpammdldaaDoor
open Go Go.RowKit

def refP (num lsn : Int) (cs : List CL) (gs : List GL) : Nat :=
  if ¬ (0 ≤ num ∧ num ≤ 63) then 4
  else if 0 < cs.length ∧ 0 < gs.length then 70
  else if 31 < cs.length ∨ 84 < gs.length then 6
  else if ¬ (0 ≤ lsn ∧ lsn ≤ 2147483647) ∨ ¬ (lsn = 0 ↔ cs.length + gs.length = 0) then 23
  else contP cs gs

theorem refused_c {w : World} {p : PgV} {cs : List CL} {gs : List GL} {R : Ending → World → Prop} (hp : p.In w cs gs) (h : ∀ w', Kp no w w' → R (.returned (.int .i64 (refP p.num p.lsn cs gs : Int))) w') : GoC Tryd.prog F_page_Page_refused #[.agg p.cs] w R := by
  refine S_page_Page_refused ?_
  unfold W_page_Page_refused
  have hcl := hp.cl
  have hgl := hp.gl
  have hcb := hp.cb
  have hgb := hp.gb
  refine AlF.intro fun b1 w1 hb1e hb1 k1 _ => ⟨p.num, hb1.cell 0, in_c ⟨_, rfl, ?_⟩⟩
  have out : ∀ (e : Nat) (w' : World), Kp no w1 w' → refP p.num p.lsn cs gs = e → R (.returned (.int .i64 (e : Int))) w' := fun e w' kk he => by subst he; exact h w' (k1.trans0 kk)
  refine cond_not (cond_d (fun hn => ?_) (fun hn => out 4 w1 (Kp.refl _ _) (by unfold refP; rw [if_pos hn])))
  have c2 : ∀ w', Kp no w1 w' → w'.cell? (Addr.add ⟨b1, 0, none⟩ 2) = some (.slice p.ca p.cl p.cc) := fun w' kk => by rw [add_at]; exact (kk.blk hb1 id).cell 2
  have c3 : ∀ w', Kp no w1 w' → w'.cell? (Addr.add ⟨b1, 0, none⟩ 3) = some (.slice p.ga p.gl p.gc) := fun w' kk => by rw [add_at]; exact (kk.blk hb1 id).cell 3
  have c1 : ∀ w', Kp no w1 w' → w'.cell? (Addr.add ⟨b1, 0, none⟩ 1) = some (.int .i64 p.lsn) := fun w' kk => by rw [add_at]; exact (kk.blk hb1 id).cell 1
  have c0 : ∀ w', Kp no w1 w' → w'.cell? ⟨b1, 0, none⟩ = some (.int .i64 p.num) := fun w' kk => (kk.blk hb1 id).cell 0
  have k11 : Kp no w1 w1 := Kp.refl _ _
  refine ⟨fun s w' => w' = w1 ∧ s.1 = decide (0 < cs.length ∧ 0 < gs.length), ?_, ?_⟩
  · refine ⟨p.ca, p.cl, p.cc, c2 _ k11, cond_d (fun h1 => ⟨p.ga, p.gl, p.gc, c3 _ k11, rfl, ?_⟩) (fun h1 => ⟨rfl, ?_⟩)⟩
    · exact decide_eq_decide.2 (by omega)
    · exact (decide_eq_false (by omega)).symm
  rintro ⟨q8, u8⟩ w2 ⟨hw2, hq8⟩ _
  dsimp only at hq8
  rw [hw2, hq8]
  refine cond_d (fun h2 => out 70 w1 k11 (by unfold refP; rw [if_neg (by omega), if_pos h2])) (fun h2 => ?_)
  refine ⟨fun s w' => w' = w1 ∧ s.1 = decide (31 < cs.length ∨ 84 < gs.length), ?_, ?_⟩
  · refine ⟨p.ca, p.cl, p.cc, c2 _ k11, cond_d (fun h1 => ⟨rfl, ?_⟩) (fun h1 => ⟨p.ga, p.gl, p.gc, c3 _ k11, rfl, ?_⟩)⟩
    · exact (decide_eq_true (by omega)).symm
    · exact decide_eq_decide.2 (by omega)
  rintro ⟨q19, u19⟩ w3 ⟨hw3, hq19⟩ _
  dsimp only at hq19
  rw [hw3, hq19]
  refine cond_d (fun h3 => out 6 w1 k11 (by unfold refP; rw [if_neg (by omega), if_neg h2, if_pos h3])) (fun h3 => ?_)
  refine ⟨fun s w' => Kp no w1 w' ∧ s.1 = decide (¬ (0 ≤ p.lsn ∧ p.lsn ≤ 2147483647) ∨ ¬ (p.lsn = 0 ↔ cs.length + gs.length = 0)), ?_, ?_⟩
  · refine ⟨fun w' => Kp no w1 w', Kp.drew w1 1, p.lsn, fun w' kk => c1 w' kk, in_c ⟨_, rfl, Kp.drew w1 1, ?_⟩⟩
    refine cond_not (cond_d (fun h4 => ?_) (fun h4 => ⟨Kp.drew w1 1, (decide_eq_true (.inl h4)).symm⟩))
    refine ⟨p.lsn, fun w' kk => c1 w' kk, p.num, p.lsn, p.ca, p.cl, p.cc, p.ga, p.gl, p.gc, fun w' kk => ⟨c0 w' kk, c1 w' kk, c2 w' kk, c3 w' kk, trivial⟩, ?_⟩
    have kd : Kp no w1 w1.drew := Kp.drew w1 1
    refine size_c (p := p) (hp.kp0 (k1.trans0 kd)) fun w4 k4 => ⟨_, rfl, kd.trans0 k4, kd.trans0 k4, ?_⟩
    dsimp only
    by_cases e1 : p.lsn = 0 <;> by_cases e2 : cs.length + gs.length = 0
    · have e3 : (((cs.length + gs.length : Nat) : Int) == 0) = true := by simp only [beq_iff_eq]; omega
      rw [e3, e1]
      exact (decide_eq_false (by omega)).symm
    · have e3 : (((cs.length + gs.length : Nat) : Int) == 0) = false := by simp only [beq_eq_false_iff_ne, ne_eq]; omega
      rw [e3, e1]
      exact (decide_eq_true (by omega)).symm
    · have e3 : (((cs.length + gs.length : Nat) : Int) == 0) = true := by simp only [beq_iff_eq]; omega
      have e4 : (p.lsn == 0) = false := by simp only [beq_eq_false_iff_ne, ne_eq]; omega
      rw [e3, e4]
      exact (decide_eq_true (by omega)).symm
    · have e3 : (((cs.length + gs.length : Nat) : Int) == 0) = false := by simp only [beq_eq_false_iff_ne, ne_eq]; omega
      have e4 : (p.lsn == 0) = false := by simp only [beq_eq_false_iff_ne, ne_eq]; omega
      rw [e3, e4]
      exact (decide_eq_false (by omega)).symm
  rintro ⟨q30, u30⟩ w5 ⟨k5, hq30⟩ _
  dsimp only at hq30
  rw [hq30]
  refine cond_d (fun h4 => out 23 w5 k5 (by unfold refP; rw [if_neg (by omega), if_neg h2, if_neg h3, if_pos h4])) (fun h4 => ?_)
  refine ⟨p.num, p.lsn, p.ca, p.cl, p.cc, p.ga, p.gl, p.gc, ⟨c0 _ k5, c1 _ k5, c2 _ k5, c3 _ k5, trivial⟩, ?_⟩
  exact contents_c (p := p) (hp.kp0 (k1.trans0 k5)) fun w6 k6 => ⟨_, rfl, out (contP cs gs) w6 (k5.trans0 k6) (by unfold refP; rw [if_neg (by omega), if_neg h2, if_neg h3, if_neg h4])⟩
end Go.Proofs.YtnkdonpammdldaaDoor
