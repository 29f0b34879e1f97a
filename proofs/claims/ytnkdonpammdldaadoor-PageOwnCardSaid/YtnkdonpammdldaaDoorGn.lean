/- Contracts of the document's package: faultOf, content, Fault, Same. Conditions: lengths below 2^46. -/
import Derived.Test.YtnkdonpammdldaaDoorGm
set_option linter.unusedVariables false
set_option linter.unusedSimpArgs false
namespace Go.Proofs.YtnkdonpammdldaaDoor
open Go Go.RowKit

instance : DecidableEq CL := fun a b => decidable_of_iff (a.id = b.id ∧ a.grp = b.grp ∧ a.lo = b.lo ∧ a.hi = b.hi ∧ a.val = b.val) (by cases a; cases b; simp)
instance : DecidableEq GL := fun a b => decidable_of_iff (a.id = b.id ∧ a.sum = b.sum) (by cases a; cases b; simp)

section
variable {w : World} {b : Nat} {T : TypeId} {p : PgV}
theorem pc0 (h : Blk w b p.cs T) : w.cell? ⟨b, 0, none⟩ = some (.int .i64 p.num) := h.cell 0
theorem pc1 (h : Blk w b p.cs T) : w.cell? (Addr.add ⟨b, 0, none⟩ 1) = some (.int .i64 p.lsn) := by rw [add_at]; exact h.cell 1
theorem pc2 (h : Blk w b p.cs T) : w.cell? (Addr.add ⟨b, 0, none⟩ 2) = some (.slice p.ca p.cl p.cc) := by rw [add_at]; exact h.cell 2
theorem pc3 (h : Blk w b p.cs T) : w.cell? (Addr.add ⟨b, 0, none⟩ 3) = some (.slice p.ga p.gl p.gc) := by rw [add_at]; exact h.cell 3
end

theorem ctrI {w : World} {a : Option Addr} {L : List CL} (h : CsIn w a L) {i : Nat} (hi : i < L.length) {l : Nat} (hl : L.length = l) {n : Int} (hn : n = (i : Int)) {K : Int → Int → Int → Int → Int → Prop} (hk : K (L[i]).id (L[i]).grp (L[i]).lo (L[i]).hi (L[i]).val) :
    IdxF a n l fun d => ∃ n1 n2 n3 n4 n5 : Int, (w.cell? (d.add (Int.toNat n * 5)) = some (.int .i64 n1) ∧ w.cell? (Addr.add (d.add (Int.toNat n * 5)) 1) = some (.int .i64 n2) ∧ w.cell? (Addr.add (d.add (Int.toNat n * 5)) 2) = some (.int .i64 n3) ∧ w.cell? (Addr.add (d.add (Int.toNat n * 5)) 3) = some (.int .i64 n4) ∧ w.cell? (Addr.add (d.add (Int.toNat n * 5)) 4) = some (.int .i64 n5) ∧ True) ∧ K n1 n2 n3 n4 n5 := by
  subst hn
  obtain ⟨b, o, ha, hc⟩ := h i hi
  refine ⟨by omega, by omega, _, ha, _, _, _, _, _, ?_, hk⟩
  rw [Int.toNat_natCast]
  simp only [add_at]
  exact ⟨hc 0 _ rfl, hc 1 _ rfl, hc 2 _ rfl, hc 3 _ rfl, hc 4 _ rfl, trivial⟩
theorem grpI {w : World} {a : Option Addr} {L : List GL} (h : GsIn w a L) {i : Nat} (hi : i < L.length) {l : Nat} (hl : L.length = l) {n : Int} (hn : n = (i : Int)) {K : Int → Int → Prop} (hk : K (L[i]).id (L[i]).sum) :
    IdxF a n l fun d => ∃ n1 n2 : Int, (w.cell? (d.add (Int.toNat n * 2)) = some (.int .i64 n1) ∧ w.cell? (Addr.add (d.add (Int.toNat n * 2)) 1) = some (.int .i64 n2) ∧ True) ∧ K n1 n2 := by
  subst hn
  obtain ⟨b, o, ha, hc⟩ := h i hi
  refine ⟨by omega, by omega, _, ha, _, _, ?_, hk⟩
  rw [Int.toNat_natCast]
  simp only [add_at]
  exact ⟨hc 0 _ rfl, hc 1 _ rfl, trivial⟩
/-- One cell of a group. -/
theorem grpI0 {w : World} {a : Option Addr} {L : List GL} (h : GsIn w a L) {i : Nat} (hi : i < L.length) {l : Nat} (hl : L.length = l) {n : Int} (hn : n = (i : Int)) {K : Int → Prop} (hk : K (L[i]).id) :
    IdxF a n l fun d => ∃ n1 : Int, w.cell? (d.add (Int.toNat n * 2)) = some (.int .i64 n1) ∧ K n1 := by
  subst hn
  obtain ⟨b, o, ha, hc⟩ := h i hi
  refine ⟨by omega, by omega, _, ha, _, ?_, hk⟩
  rw [Int.toNat_natCast, add_at]
  exact hc 0 _ rfl

theorem faultOf_c {w : World} {c : CL} {R : Ending → World → Prop} (h : ∀ w', Kp no w w' → R (.returned (.int .i64 (faultC c : Int))) w') : GoC Tryd.prog F_ref07_faultOf #[.agg #[.int .i64 c.id, .int .i64 c.grp, .int .i64 c.lo, .int .i64 c.hi, .int .i64 c.val]] w R := by
  refine S_ref07_faultOf ?_
  unfold W_ref07_faultOf
  refine AlF.intro fun b1 w1 _ hb k1 _ => ?_
  have bad : ¬ (fits1 c.id ∧ fits1 c.grp) → R (.returned (.int .i64 23)) w1 := fun hn => by
    have := h w1 k1
    unfold faultC at this
    rw [if_neg hn] at this
    exact this
  refine ⟨c.id, hb.cell 0, cond_d (fun g => bad (by unfold fits1; omega)) fun g1 => ⟨c.id, hb.cell 0, cond_d (fun g => bad (by unfold fits1; omega)) fun g2 => ?_⟩⟩
  refine ⟨c.grp, by rw [add_at]; exact hb.cell 1, cond_d (fun g => bad (by unfold fits1; omega)) fun g3 => ⟨c.grp, by rw [add_at]; exact hb.cell 1, cond_d (fun g => bad (by unfold fits1; omega)) fun g4 => ?_⟩⟩
  have ok : fits1 c.id ∧ fits1 c.grp := by unfold fits1; omega
  have hh := h w1 k1
  unfold faultC at hh
  rw [if_pos ok] at hh
  refine ⟨c.lo, by rw [add_at]; exact hb.cell 2, c.hi, by rw [add_at, add_at]; exact hb.cell 3, cond_d (fun g => ?_) fun g => ?_⟩
  · rw [if_pos g] at hh; exact hh
  · rw [if_neg g] at hh; exact hh

theorem content_c {w : World} {p : PgV} {cs : List CL} {gs : List GL} {R : Ending → World → Prop} (hp : p.In w cs gs) (h : ∀ w', Kp no w w' → R (.returned (.int .i64 (contP cs gs : Int))) w') : GoC Tryd.prog F_ref07_content #[.agg p.cs] w R := by
  refine S_ref07_content ?_
  unfold W_ref07_content
  have hcl := hp.cl
  have hgl := hp.gl
  have hcb := hp.cb
  have hgb := hp.gb
  refine AlF.intro fun b1 w1 hb1e hb1 k1 _ => ?_
  have hb1' : Blk w1 b1 p.cs T_quotaref07_Page := hb1
  refine loopN (fun s w2 => Kp no w1 w2 ∧ ∃ k : Nat, k ≤ cs.length ∧ s.1 = (k : Int) ∧ contP cs gs = firstF ((cs.drop k).map faultC ++ gs.map faultG)) (fun s _ => cs.length - s.1.toNat) ⟨Kp.refl _ _, 0, Nat.zero_le _, rfl, rfl⟩ ?_
  rintro ⟨k0, u⟩ w2 ⟨k2, k, hk, hk0, hcont⟩ _
  dsimp only at hk0 ⊢
  subst hk0
  have hb2 := k2.blk hb1' id
  refine ⟨_, _, _, pc2 hb2, cond_d (fun hlt => ?_) (fun hge => ?_)⟩
  · have hkl : k < cs.length := by omega
    rw [List.drop_eq_getElem_cons hkl, List.map_cons, List.cons_append, firstF] at hcont
    refine ⟨_, _, _, pc2 hb2, ctrI (hp.kp0 (k1.trans0 k2)).c hkl hcl rfl ?_⟩
    refine faultOf_c (c := cs[k]) fun w3 k3 => ⟨_, rfl, cond_ne (fun hne => ?_) (fun he => ?_)⟩
    · rw [if_neg (by omega)] at hcont
      have := h w3 ((k1.trans0 k2).trans0 k3)
      rw [hcont] at this
      exact this
    · rw [if_pos (by omega)] at hcont
      have hwk : IntKind.wrap .i64 ((k : Int) + 1) = ((k + 1 : Nat) : Int) := by rw [wrap_i64 (by omega) (by omega)]; omega
      rw [hwk]
      exact ⟨⟨k2.trans0 k3, k + 1, by omega, rfl, hcont⟩, by simp only [Int.toNat_natCast]; omega⟩
  · have hke : k = cs.length := by omega
    subst hke
    rw [List.drop_length, List.map_nil, List.nil_append] at hcont
    refine loopN (fun s w3 => Kp no w1 w3 ∧ ∃ k : Nat, k ≤ gs.length ∧ s.1 = (k : Int) ∧ contP cs gs = firstF ((gs.drop k).map faultG)) (fun s _ => gs.length - s.1.toNat) ⟨k2, 0, Nat.zero_le _, rfl, hcont⟩ ?_
    rintro ⟨k0, u⟩ w3 ⟨k3, k, hk, hk0, hcont⟩ _
    dsimp only at hk0 ⊢
    subst hk0
    have hb3 := k3.blk hb1' id
    refine ⟨_, _, _, pc3 hb3, cond_d (fun hlt => ?_) (fun hge => ?_)⟩
    · have hkl : k < gs.length := by omega
      rw [List.drop_eq_getElem_cons hkl, List.map_cons, firstF] at hcont
      have hg := (hp.kp0 (k1.trans0 k3)).g
      have bad : ¬ fits1 (gs[k]).id → R (.returned (.int .i64 23)) w3 := fun hn => by
        have hf : faultG gs[k] = 23 := by unfold faultG; rw [if_neg hn]
        rw [hf, if_neg (by omega)] at hcont
        have := h w3 (k1.trans0 k3)
        rw [hcont] at this
        exact this
      refine ⟨_, _, _, pc3 hb3, grpI0 hg hkl hgl rfl (cond_d (fun g => bad (by unfold fits1; omega)) fun g1 => ?_)⟩
      refine ⟨_, _, _, pc3 hb3, grpI0 hg hkl hgl rfl (cond_d (fun g => bad (by unfold fits1; omega)) fun g2 => ?_)⟩
      have hf : faultG gs[k] = 0 := by unfold faultG; rw [if_pos (by unfold fits1; omega)]
      rw [hf, if_pos rfl] at hcont
      have hwk : IntKind.wrap .i64 ((k : Int) + 1) = ((k + 1 : Nat) : Int) := by rw [wrap_i64 (by omega) (by omega)]; omega
      rw [hwk]
      exact ⟨⟨k3, k + 1, by omega, rfl, hcont⟩, by simp only [Int.toNat_natCast]; omega⟩
    · have hke : k = gs.length := by omega
      subst hke
      rw [List.drop_length, List.map_nil, firstF] at hcont
      have := h w3 (k1.trans0 k3)
      rw [hcont] at this
      exact this

theorem fault_c {w : World} {p : PgV} {cs : List CL} {gs : List GL} {R : Ending → World → Prop} (hp : p.In w cs gs) (h : ∀ w', Kp no w w' → R (.returned (.int .i64 (refP p.num p.lsn cs gs : Int))) w') : GoC Tryd.prog F_ref07_Fault #[.agg p.cs] w R := by
  refine S_ref07_Fault ?_
  unfold W_ref07_Fault
  have hcl := hp.cl
  have hgl := hp.gl
  have hcb := hp.cb
  have hgb := hp.gb
  refine AlF.intro fun b1 w1 hb1e hb1 k1 _ => ?_
  have hb : Blk w1 b1 p.cs T_quotaref07_Page := hb1
  have out : ∀ (e : Nat) (w' : World), Kp no w1 w' → refP p.num p.lsn cs gs = e → R (.returned (.int .i64 (e : Int))) w' := fun e w' kk he => by subst he; exact h w' (k1.trans0 kk)
  have hr : Kp no w1 w1 := Kp.refl _ _
  refine ⟨_, _, _, pc2 hb, _, _, _, pc3 hb, _, pc0 hb, cond_d (fun g => out 4 w1 hr (by unfold refP; rw [if_pos (by omega)])) fun g1 => ?_⟩
  refine ⟨_, pc0 hb, cond_d (fun g => out 4 w1 hr (by unfold refP; rw [if_pos (by omega)])) fun g2 => ?_⟩
  have ew : IntKind.wrap .i64 ((p.cl : Int) + (p.gl : Int)) = ((p.cl + p.gl : Nat) : Int) := by rw [wrap_i64 (by omega) (by omega)]; omega
  have eqv : ∀ {A C : Prop}, (¬ (p.lsn = 0 ↔ cs.length + gs.length = 0) → A) → ((p.lsn = 0 ↔ cs.length + gs.length = 0) → C) → cond (!((p.lsn == 0) == (((p.cl + p.gl : Nat) : Int) == 0))) A C := by
    intro A C ha hc
    by_cases e1 : p.lsn = 0 <;> by_cases e2 : cs.length + gs.length = 0
    · have e3 : (((p.cl + p.gl : Nat) : Int) == 0) = true := by simp only [beq_iff_eq]; omega
      rw [e3, e1]; exact hc (by omega)
    · have e3 : (((p.cl + p.gl : Nat) : Int) == 0) = false := by simp only [beq_eq_false_iff_ne, ne_eq]; omega
      rw [e3, e1]; exact ha (by omega)
    · have e3 : (((p.cl + p.gl : Nat) : Int) == 0) = true := by simp only [beq_iff_eq]; omega
      have e4 : (p.lsn == 0) = false := by simp only [beq_eq_false_iff_ne, ne_eq]; omega
      rw [e3, e4]; exact ha (by omega)
    · have e3 : (((p.cl + p.gl : Nat) : Int) == 0) = false := by simp only [beq_eq_false_iff_ne, ne_eq]; omega
      have e4 : (p.lsn == 0) = false := by simp only [beq_eq_false_iff_ne, ne_eq]; omega
      rw [e3, e4]; exact hc (by omega)
  rw [ew]
  refine ⟨_, _, _, pc2 hb, cond_d (fun g3 => ⟨_, _, _, pc3 hb, cond_d (fun g4 => out 70 w1 hr (by unfold refP; rw [if_neg (by omega), if_pos (by omega)])) fun g4 => ?_⟩) fun g3 => ?_⟩
  all_goals
    refine ⟨_, _, _, pc2 hb, cond_d (fun g5 => out 6 w1 hr (by unfold refP; rw [if_neg (by omega), if_neg (by omega), if_pos (by omega)])) fun g5 => ?_⟩
    refine ⟨_, _, _, pc3 hb, cond_d (fun g6 => out 6 w1 hr (by unfold refP; rw [if_neg (by omega), if_neg (by omega), if_pos (by omega)])) fun g6 => ?_⟩
    refine ⟨_, pc1 hb, cond_d (fun g7 => out 23 w1 hr (by unfold refP; rw [if_neg (by omega), if_neg (by omega), if_neg (by omega), if_pos (by omega)])) fun g7 => ?_⟩
    refine ⟨_, pc1 hb, cond_d (fun g8 => out 23 w1 hr (by unfold refP; rw [if_neg (by omega), if_neg (by omega), if_neg (by omega), if_pos (by omega)])) fun g8 => ?_⟩
    refine ⟨_, pc1 hb, eqv (fun g9 => out 23 w1 hr (by unfold refP; rw [if_neg (by omega), if_neg (by omega), if_neg (by omega), if_pos (by omega)])) fun g9 => ?_⟩
    refine ⟨_, _, _, _, _, _, _, _, ⟨pc0 hb, pc1 hb, pc2 hb, pc3 hb, trivial⟩, ?_⟩
    exact content_c (p := p) (hp.kp0 k1) fun w2 k2 => ⟨_, rfl, out _ w2 k2 (by unfold refP; rw [if_neg (by omega), if_neg (by omega), if_neg (by omega), if_neg (by omega)])⟩

theorem sameC_c {w : World} {a1 a2 : Option Addr} {l1 c1 l2 c2 : Nat} {L M : List CL} {R : Ending → World → Prop} (h1 : CsIn w a1 L) (hl1 : L.length = l1) (h2 : CsIn w a2 M) (hl2 : M.length = l2) (hb : l1 < 70368744177664)
    (h : ∀ w', Kp no w w' → R (.returned (.bool (decide (L = M)))) w') : GoC Tryd.prog F_ref07_SameCounters #[.slice a1 l1 c1, .slice a2 l2 c2] w R := by
  refine S_ref07_SameCounters ?_
  unfold W_ref07_SameCounters
  refine cond_ne (fun hne => ?_) (fun he => ?_)
  · have := h w (Kp.refl _ _)
    rw [decide_eq_false (fun hh => by subst hh; omega)] at this
    exact this
  have hll : L.length = M.length := by omega
  refine loopN (fun s w2 => Kp no w w2 ∧ ∃ k : Nat, k ≤ L.length ∧ s.1 = (k : Int) ∧ L.take k = M.take k) (fun s _ => L.length - s.1.toNat) ⟨Kp.refl _ _, 0, Nat.zero_le _, rfl, rfl⟩ ?_
  rintro ⟨k0, u⟩ w2 ⟨k2, k, hk, hk0, htk⟩ _
  dsimp only at hk0 ⊢
  subst hk0
  refine cond_d (fun hlt => ?_) (fun hge => ?_)
  · have hkl : k < L.length := by omega
    have hkm : k < M.length := by omega
    refine ctrI (h1.kp0 k2) hkl hl1 rfl (ctrI (h2.kp0 k2) hkm hl2 rfl fun j => ?_)
    have kj : Kp no w2 (w2.drewN j) := Kp.drew w2 j
    by_cases hE : L[k] = M[k]
    · refine cond_f (by rw [hE]; simp) ?_
      have hwk : IntKind.wrap .i64 ((k : Int) + 1) = ((k + 1 : Nat) : Int) := by rw [wrap_i64 (by omega) (by omega)]; omega
      rw [hwk]
      exact ⟨⟨k2.trans0 kj, k + 1, by omega, rfl, by rw [take_snoc_get _ k hkl, take_snoc_get _ k hkm, htk, hE]⟩, by simp only [Int.toNat_natCast]; omega⟩
    · refine cond_t ?_ ?_
      · generalize L[k] = x at *
        generalize M[k] = y at *
        cases x; cases y
        simp only [CL.mk.injEq] at hE
        simp only [Bool.and_true, Bool.not_eq_true', Bool.and_eq_false_iff, beq_eq_false_iff_ne, ne_eq]
        omega
      · have := h _ (k2.trans0 kj)
        rw [decide_eq_false (fun hh => by subst hh; exact hE rfl)] at this
        exact this
  · have hke : k = L.length := by omega
    subst hke
    rw [List.take_length, hll, List.take_length] at htk
    have := h w2 k2
    rw [decide_eq_true htk] at this
    exact this

theorem sameG_c {w : World} {a1 a2 : Option Addr} {l1 c1 l2 c2 : Nat} {L M : List GL} {R : Ending → World → Prop} (h1 : GsIn w a1 L) (hl1 : L.length = l1) (h2 : GsIn w a2 M) (hl2 : M.length = l2) (hb : l1 < 70368744177664)
    (h : ∀ w', Kp no w w' → R (.returned (.bool (decide (L = M)))) w') : GoC Tryd.prog F_ref07_SameGroups #[.slice a1 l1 c1, .slice a2 l2 c2] w R := by
  refine S_ref07_SameGroups ?_
  unfold W_ref07_SameGroups
  refine cond_ne (fun hne => ?_) (fun he => ?_)
  · have := h w (Kp.refl _ _)
    rw [decide_eq_false (fun hh => by subst hh; omega)] at this
    exact this
  have hll : L.length = M.length := by omega
  refine loopN (fun s w2 => Kp no w w2 ∧ ∃ k : Nat, k ≤ L.length ∧ s.1 = (k : Int) ∧ L.take k = M.take k) (fun s _ => L.length - s.1.toNat) ⟨Kp.refl _ _, 0, Nat.zero_le _, rfl, rfl⟩ ?_
  rintro ⟨k0, u⟩ w2 ⟨k2, k, hk, hk0, htk⟩ _
  dsimp only at hk0 ⊢
  subst hk0
  refine cond_d (fun hlt => ?_) (fun hge => ?_)
  · have hkl : k < L.length := by omega
    have hkm : k < M.length := by omega
    refine grpI (h1.kp0 k2) hkl hl1 rfl (grpI (h2.kp0 k2) hkm hl2 rfl fun j => ?_)
    have kj : Kp no w2 (w2.drewN j) := Kp.drew w2 j
    by_cases hE : L[k] = M[k]
    · refine cond_f (by rw [hE]; simp) ?_
      have hwk : IntKind.wrap .i64 ((k : Int) + 1) = ((k + 1 : Nat) : Int) := by rw [wrap_i64 (by omega) (by omega)]; omega
      rw [hwk]
      exact ⟨⟨k2.trans0 kj, k + 1, by omega, rfl, by rw [take_snoc_get _ k hkl, take_snoc_get _ k hkm, htk, hE]⟩, by simp only [Int.toNat_natCast]; omega⟩
    · refine cond_t ?_ ?_
      · generalize L[k] = x at *
        generalize M[k] = y at *
        cases x; cases y
        simp only [GL.mk.injEq] at hE
        simp only [Bool.and_true, Bool.not_eq_true', Bool.and_eq_false_iff, beq_eq_false_iff_ne, ne_eq]
        omega
      · have := h _ (k2.trans0 kj)
        rw [decide_eq_false (fun hh => by subst hh; exact hE rfl)] at this
        exact this
  · have hke : k = L.length := by omega
    subst hke
    rw [List.take_length, hll, List.take_length] at htk
    have := h w2 k2
    rw [decide_eq_true htk] at this
    exact this

def sameP (p : PgV) (cs : List CL) (gs : List GL) (q : PgV) (cs' : List CL) (gs' : List GL) : Bool := decide (p.num = q.num ∧ p.lsn = q.lsn ∧ cs = cs' ∧ gs = gs')
theorem same_c {w : World} {p q : PgV} {cs cs' : List CL} {gs gs' : List GL} {R : Ending → World → Prop} (hp : p.In w cs gs) (hq : q.In w cs' gs') (h : ∀ w', Kp no w w' → R (.returned (.bool (sameP p cs gs q cs' gs'))) w') : GoC Tryd.prog F_ref07_Same #[.agg p.cs, .agg q.cs] w R := by
  refine S_ref07_Same ?_
  unfold W_ref07_Same
  refine AlF.intro fun b1 w1 hb1e hb1 k1 _ => AlF.intro fun b2 w2 hb2e hb2 k2 _ => ?_
  have hbp : Blk w2 b1 p.cs T_quotaref07_Page := k2.blk (show Blk w1 b1 p.cs T_quotaref07_Page from hb1) id
  have hbq : Blk w2 b2 q.cs T_quotaref07_Page := hb2
  have k12 := k1.trans0 k2
  have bad : ∀ w', Kp no w w' → ¬ (p.num = q.num ∧ p.lsn = q.lsn ∧ cs = cs' ∧ gs = gs') → R (.returned (.bool false)) w' := fun w' k' hn => by
    have := h w' k'
    unfold sameP at this
    rw [decide_eq_false hn] at this
    exact this
  refine ⟨_, pc0 hbp, _, pc0 hbq, cond_eq (fun g1 => ?_) (fun g1 => bad w2 k12 (fun hh => g1 hh.1))⟩
  refine ⟨_, pc1 hbp, _, pc1 hbq, cond_eq (fun g2 => ?_) (fun g2 => bad w2 k12 (fun hh => g2 hh.2.1))⟩
  refine ⟨_, _, _, pc2 hbp, _, _, _, pc2 hbq, sameC_c (hp.kp0 k12).c hp.cl (hq.kp0 k12).c hq.cl hp.cb fun w3 k3 => ⟨_, rfl, cond_d (fun g3 => ?_) (fun g3 => bad w3 (k12.trans0 k3) (fun hh => g3 hh.2.2.1))⟩⟩
  refine ⟨_, _, _, pc3 (k3.blk hbp id), _, _, _, pc3 (k3.blk hbq id), sameG_c (hp.kp0 (k12.trans0 k3)).g hp.gl (hq.kp0 (k12.trans0 k3)).g hq.gl hp.gb fun w4 k4 => ⟨_, rfl, ?_⟩⟩
  have := h w4 ((k12.trans0 k3).trans0 k4)
  unfold sameP at this
  have e : decide (p.num = q.num ∧ p.lsn = q.lsn ∧ cs = cs' ∧ gs = gs') = decide (gs = gs') := decide_eq_decide.2 ⟨fun hh => hh.2.2.2, fun hh => ⟨g1, g2, g3, hh⟩⟩
  rw [e] at this
  exact this
end Go.Proofs.YtnkdonpammdldaaDoor
