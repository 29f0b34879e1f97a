/- Several texts in one: Rl, Rm, Rn. Conditions: lengths below 2^47. -/
import Derived.Test.YtjhncijdkmbopaaQb
/-! Contracts of the document's package for layer 5: within, Live, Dirty, points, none, slots, apart. Conditions: none. -/
set_option linter.unusedVariables false
set_option linter.unusedSimpArgs false
namespace Go.Proofs.Ytjhncijdkmbopaa
open Go Go.RowKit

theorem within_c {w : World} {n lo hi : Int} {R : Ending → World → Prop} (h : R (.returned (.bool (inB n lo hi))) w) : GoC Try.prog F_ref05_within #[.int .i64 n, .int .i64 lo, .int .i64 hi] w R := by
  refine S_ref05_within ?_
  unfold W_ref05_within
  unfold inB at h
  refine cond_d (fun h1 => ?_) (fun h1 => ?_)
  · have : decide (n ≤ hi) = decide (lo ≤ n ∧ n ≤ hi) := decide_eq_decide.2 (by omega)
    rw [this]
    exact h
  · have : decide (lo ≤ n ∧ n ≤ hi) = false := decide_eq_false (by omega)
    rw [this] at h
    exact h

theorem inB_t {n lo hi : Int} : inB n lo hi = true ↔ lo ≤ n ∧ n ≤ hi := by unfold inB; simp
theorem inB_f {n lo hi : Int} : inB n lo hi = false ↔ ¬ (lo ≤ n ∧ n ≤ hi) := by unfold inB; simp
theorem belB_0 (n : Int) : belB n 0 = true := by unfold belB; simp

/-- The last transaction ahead of place k. -/
def lastL (L : List LV) (k : Nat) : Int := if k = 0 then 0 else (L.getD (k - 1) ⟨0, 0, false, false⟩).tx
def lastD (D : List DV) (k : Nat) : Int := if k = 0 then -1 else (D.getD (k - 1) ⟨0, 0⟩).page
theorem lastL_succ (L : List LV) {k : Nat} (h : k < L.length) : lastL L (k + 1) = (L[k]).tx := by unfold lastL; rw [if_neg (by omega), Nat.add_sub_cancel]; simp [h]
theorem lastD_succ (D : List DV) {k : Nat} (h : k < D.length) : lastD D (k + 1) = (D[k]).page := by unfold lastD; rw [if_neg (by omega), Nat.add_sub_cancel]; simp [h]
theorem lastL_prev (L : List LV) {k : Nat} (h0 : 0 < k) (h : k - 1 < L.length) : lastL L k = (L[k - 1]).tx := by unfold lastL; rw [if_neg (by omega)]; simp [h]
theorem lastD_prev (D : List DV) {k : Nat} (h0 : 0 < k) (h : k - 1 < D.length) : lastD D k = (D[k - 1]).page := by unfold lastD; rw [if_neg (by omega)]; simp [h]

theorem Live_c {w : World} {a : Option Addr} {l c : Nat} {L : List LV} {next : Int} {R : Ending → World → Prop} (hr : Rd w a (flatV LV.cs L)) (hl : L.length = l) (hn : next ≤ 2147483648)
    (h : ∀ w', Kp no w w' → R (.returned (.bool (decide (L.length ≤ 32) && liB next 0 0 L))) w') : GoC Try.prog F_ref05_Live #[.slice a l c, .int .i64 next] w R := by
  subst hl
  refine S_ref05_Live ?_
  unfold W_ref05_Live
  refine cond_d (fun hg => ?_) (fun hg => ?_)
  · have := h w (Kp.refl _ _)
    rw [decide_eq_false (by omega)] at this
    exact this
  rw [decide_eq_true (by omega : L.length ≤ 32)] at h
  simp only [Bool.true_and] at h
  have out : ∀ b w', Kp no w w' → liB next 0 0 L = b → R (.returned (.bool b)) w' := fun b w' k hb => by subst hb; exact h w' k
  refine loopN (fun s w1 => Kp no w w1 ∧ ∃ k : Nat, k ≤ L.length ∧ s.1 = (k : Int) ∧ 0 ≤ lastL L k ∧ liB next 0 0 L = liB next 0 (lastL L k) (L.drop k)) (fun s _ => L.length - s.1.toNat) ⟨Kp.refl _ _, 0, Nat.zero_le _, rfl, Int.le_refl _, rfl⟩ ?_
  rintro ⟨k0, u⟩ w1 ⟨k1, k, hk, hk0, hp, hli⟩ _
  dsimp only at hk0 ⊢
  subst hk0
  refine cond_d (fun hlt => ?_) (fun hge => ?_)
  · have hkl : k < L.length := by omega
    rw [List.drop_eq_getElem_cons hkl, liB, belB_0] at hli
    refine rd_el LV.csl (by omega) (hr.kp0 k1) hkl rfl fun b o ha hc => ?_
    have cell : ∀ q v, (L[k]).cs[q]? = some v → w1.cell? (Addr.add ((⟨b, o, none⟩ : Addr).add (Int.toNat (k : Int) * 4)) q) = some v := fun q v hv => by
      rw [Int.toNat_natCast, add_at, add_at]; exact hc q v hv
    have cell0 : w1.cell? ((⟨b, o, none⟩ : Addr).add (Int.toNat (k : Int) * 4)) = some (.int .i64 (L[k]).tx) := by
      rw [Int.toNat_natCast, add_at]; exact hc 0 _ rfl
    refine ⟨_, _, _, _, ⟨cell0, cell 1 _ rfl, cell 2 _ rfl, cell 3 _ rfl, trivial⟩, ?_⟩
    refine lv_cp L[k] fun b2 w2 h2 => ?_
    have k2 := k1.trans0 h2.kp
    have kd : Kp no w w2.drew := k2.trans0 (Kp.drew w2 1)
    have rdL := hr.kp0 k2
    have hx := L[k]
    have wk : IntKind.wrap .i64 ((k : Int) + 1) = ((k + 1 : Nat) : Int) := by rw [wrap_i64 (by omega) (by omega)]; omega
    refine ⟨fun w' => Kp no w2 w', Kp.drew w2 1, _, fun w' kk => (h2.kp' kk).at rfl rfl, within_c ⟨_, rfl, Kp.drew w2 1, cond_not (cond_b (fun q3 => ?_) (fun q3 => out _ _ kd ?_))⟩⟩
    rotate_left
    · rw [hli]
      have := inB_f.1 q3
      by_cases h1 : lastL L k < (L[k]).tx
      · have : ¬ (L[k]).tx < next := by omega
        simp [this]
      · simp [h1]
    have q3 := inB_t.1 q3
    refine ⟨_, fun w' kk => (h2.kp' kk).at rfl rfl, cond_d (fun q4 => out _ _ kd (by rw [hli]; have : ¬ (L[k]).tx < next := by omega
                                                                                     simp [this])) (fun q4 => ?_)⟩
    have q4 : (L[k]).tx < next := by omega
    -- behind the look at the one ahead
    have rest : lastL L k < (L[k]).tx → (∃ (n9 : Int), (∀ w, Kp no w2 w → w.cell? (Addr.add ⟨b2, 0, none⟩ 1) = some (.int .i64 n9)) ∧ (CallF Try.prog F_ref05_within #[(.int .i64 n9), (.int .i64 (1 : Int)), (.int .i64 (2147483647 : Int))] w2.drew (fun r3 w9 => ∃ (q7 : Bool), r3 = (.bool q7) ∧ (Kp no w2 w9 ∧ (cond (!q7) (R (.returned (.bool false)) w9) (∃ (q8 : Bool), (∀ w, Kp no w2 w → w.cell? (Addr.add ⟨b2, 0, none⟩ 2) = some (.bool q8)) ∧ (cond q8 (∃ (q9 : Bool), (∀ w, Kp no w2 w → w.cell? (Addr.add ⟨b2, 0, none⟩ 3) = some (.bool q9)) ∧ (cond q9 (R (.returned (.bool false)) w9) ((fun (s : Int × Unit) w1 => (Kp no w w1 ∧ ∃ k : Nat, k ≤ L.length ∧ s.1 = (k : Int) ∧ 0 ≤ lastL L k ∧ liB next 0 0 L = liB next 0 (lastL L k) (L.drop k)) ∧ L.length - s.1.toNat < L.length - Int.toNat (k : Int)) ((IntKind.wrap .i64 ((k : Int) + (1 : Int))), ()) w9))) ((fun (s : Int × Unit) w1 => (Kp no w w1 ∧ ∃ k : Nat, k ≤ L.length ∧ s.1 = (k : Int) ∧ 0 ≤ lastL L k ∧ liB next 0 0 L = liB next 0 (lastL L k) (L.drop k)) ∧ L.length - s.1.toNat < L.length - Int.toNat (k : Int)) ((IntKind.wrap .i64 ((k : Int) + (1 : Int))), ()) w9)))))) (PanF R))) := by
      intro q5
      refine ⟨_, fun w' kk => (h2.kp' kk).at rfl rfl, within_c ⟨_, rfl, Kp.drew w2 1, cond_not (cond_b (fun q7 => ?_) (fun q7 => out _ _ kd (by rw [hli]; simp [q7])))⟩⟩
      have nx : ((L[k]).c && (L[k]).u) = false → (Kp no w w2.drew ∧ ∃ k' : Nat, k' ≤ L.length ∧ IntKind.wrap .i64 ((k : Int) + 1) = (k' : Int) ∧ 0 ≤ lastL L k' ∧ liB next 0 0 L = liB next 0 (lastL L k') (L.drop k')) ∧ L.length - (IntKind.wrap .i64 ((k : Int) + 1)).toNat < L.length - Int.toNat (k : Int) := fun hcu => by
        refine ⟨⟨kd, k + 1, by omega, wk, by rw [lastL_succ L hkl]; omega, ?_⟩, by rw [wk]; simp only [Int.toNat_natCast]; omega⟩
        rw [hli, lastL_succ L hkl, q7, hcu]
        simp [q4, q5]
      refine ⟨_, fun w' kk => (h2.kp' kk).at rfl rfl, cond_b (fun a8 => ⟨_, fun w' kk => (h2.kp' kk).at rfl rfl, cond_b (fun a9 => out _ _ kd (by rw [hli, a8, a9]; simp)) (fun a9 => nx (by rw [a8, a9]; rfl))⟩) (fun a8 => nx (by rw [a8]; rfl))⟩
    refine cond_d (fun hk0 => ?_) (fun hk0 => rest ?_)
    · have hk1 : k - 1 < L.length := by omega
      have wm : IntKind.wrap .i64 ((k : Int) - 1) = ((k - 1 : Nat) : Int) := by rw [wrap_i64 (by omega) (by omega)]; omega
      have hpv := lastL_prev L (by omega) hk1
      refine ⟨_, fun w' kk => (h2.kp' kk).at rfl rfl, ?_⟩
      rw [wm]
      refine rd_el LV.csl (by omega) rdL hk1 rfl fun b o ha hc => ⟨(L[k - 1]).tx, fun w' kk => ?_, cond_d (fun q5 => out _ _ kd ?_) (fun q5 => rest (by omega))⟩
      · rw [Int.toNat_natCast, add_at]
        exact kk.cell (hc 0 _ rfl) id
      · have : ¬ lastL L k < (L[k]).tx := by omega
        rw [hli]; simp [this]
    · have : k = 0 := by omega
      subst this
      have : lastL L 0 = 0 := rfl
      omega
  · have hke : k = L.length := by omega
    subst hke
    rw [List.drop_length, liB] at hli
    exact out _ _ k1 hli

theorem Dirty_c {w : World} {a : Option Addr} {l c : Nat} {D : List DV} {R : Ending → World → Prop} (hr : Rd w a (flatV DV.cs D)) (hl : D.length = l)
    (h : ∀ w', Kp no w w' → R (.returned (.bool (decide (D.length ≤ 16) && diB 0 (-1) D))) w') : GoC Try.prog F_ref05_Dirty #[.slice a l c] w R := by
  subst hl
  refine S_ref05_Dirty ?_
  unfold W_ref05_Dirty
  refine cond_d (fun hg => ?_) (fun hg => ?_)
  · have := h w (Kp.refl _ _)
    rw [decide_eq_false (by omega)] at this
    exact this
  rw [decide_eq_true (by omega : D.length ≤ 16)] at h
  simp only [Bool.true_and] at h
  have out : ∀ b w', Kp no w w' → diB 0 (-1) D = b → R (.returned (.bool b)) w' := fun b w' k hb => by subst hb; exact h w' k
  refine loopN (fun s w1 => Kp no w w1 ∧ ∃ k : Nat, k ≤ D.length ∧ s.1 = (k : Int) ∧ -1 ≤ lastD D k ∧ diB 0 (-1) D = diB 0 (lastD D k) (D.drop k)) (fun s _ => D.length - s.1.toNat) ⟨Kp.refl _ _, 0, Nat.zero_le _, rfl, Int.le_refl _, rfl⟩ ?_
  rintro ⟨k0, u⟩ w1 ⟨k1, k, hk, hk0, hp, hli⟩ _
  dsimp only at hk0 ⊢
  subst hk0
  refine cond_d (fun hlt => ?_) (fun hge => ?_)
  · have hkl : k < D.length := by omega
    rw [List.drop_eq_getElem_cons hkl, diB, belB_0] at hli
    have kd : Kp no w w1.drew := k1.trans0 (Kp.drew w1 1)
    have rdD := hr.kp0 k1
    have wk : IntKind.wrap .i64 ((k : Int) + 1) = ((k + 1 : Nat) : Int) := by rw [wrap_i64 (by omega) (by omega)]; omega
    refine ⟨fun w' => Kp no w1 w', Kp.drew w1 1, rd_el DV.csl (by omega) rdD hkl rfl fun b o ha hc => ⟨(D[k]).page, fun w' kk => by rw [Int.toNat_natCast, add_at]; exact kk.cell (hc 0 _ rfl) id, within_c ⟨_, rfl, Kp.drew w1 1, cond_not (cond_b (fun q3 => ?_) (fun q3 => out _ _ kd ?_))⟩⟩⟩
    rotate_left
    · rw [hli]
      have := inB_f.1 q3
      by_cases h1 : lastD D k < (D[k]).page
      · have : ¬ (D[k]).page < 64 := by omega
        simp [this]
      · simp [h1]
    have q3 := inB_t.1 q3
    have q4 : (D[k]).page < 64 := by omega
    have rest : lastD D k < (D[k]).page → IdxF a (k : Int) D.length fun d5 => (∃ (n5 : Int), (∀ w, Kp no w1 w → w.cell? (Addr.add (d5.add (Int.toNat (k : Int) * 2)) 1) = some (.int .i64 n5)) ∧ (CallF Try.prog F_ref05_within #[(.int .i64 n5), (.int .i64 (1 : Int)), (.int .i64 (2147483647 : Int))] w1.drew (fun r3 w4 => ∃ (q3 : Bool), r3 = (.bool q3) ∧ (Kp no w1 w4 ∧ (cond (!q3) (R (.returned (.bool false)) w4) ((fun (s : Int × Unit) w1 => (Kp no w w1 ∧ ∃ k : Nat, k ≤ D.length ∧ s.1 = (k : Int) ∧ -1 ≤ lastD D k ∧ diB 0 (-1) D = diB 0 (lastD D k) (D.drop k)) ∧ D.length - s.1.toNat < D.length - Int.toNat (k : Int)) ((IntKind.wrap .i64 ((k : Int) + (1 : Int))), ()) w4)))) (PanF R))) := by
      intro q5
      refine rd_el DV.csl (by omega) rdD hkl rfl fun b o ha hc => ⟨(D[k]).since, fun w' kk => by rw [Int.toNat_natCast, add_at, add_at]; exact kk.cell (hc 1 _ rfl) id, within_c ⟨_, rfl, Kp.drew w1 1, cond_not (cond_b (fun q7 => ?_) (fun q7 => out _ _ kd (by rw [hli]; simp [q7])))⟩⟩
      refine ⟨⟨kd, k + 1, by omega, wk, by rw [lastD_succ D hkl]; omega, ?_⟩, by dsimp only; rw [wk]; simp only [Int.toNat_natCast]; omega⟩
      rw [hli, lastD_succ D hkl, q7]
      simp [q4, q5]
    refine cond_d (fun hk0 => ?_) (fun hk0 => rest ?_)
    · have hk1 : k - 1 < D.length := by omega
      have wm : IntKind.wrap .i64 ((k : Int) - 1) = ((k - 1 : Nat) : Int) := by rw [wrap_i64 (by omega) (by omega)]; omega
      have hpv := lastD_prev D (by omega) hk1
      refine rd_el DV.csl (by omega) rdD hkl rfl fun b o ha hc => ⟨(D[k]).page, fun w' kk => by rw [Int.toNat_natCast, add_at]; exact kk.cell (hc 0 _ rfl) id, ?_⟩
      rw [wm]
      refine rd_el DV.csl (by omega) rdD hk1 rfl fun b o ha hc => ⟨(D[k - 1]).page, fun w' kk => ?_, cond_d (fun q5 => out _ _ kd ?_) (fun q5 => rest (by omega))⟩
      · rw [Int.toNat_natCast, add_at]
        exact kk.cell (hc 0 _ rfl) id
      · have : ¬ lastD D k < (D[k]).page := by omega
        rw [hli]; simp [this]
    · have : k = 0 := by omega
      subst this
      have : lastD D 0 = -1 := rfl
      omega
  · have hke : k = D.length := by omega
    subst hke
    rw [List.drop_length, diB] at hli
    exact out _ _ k1 hli
end Go.Proofs.Ytjhncijdkmbopaa
/-! Contracts of the document's package for layer 5: points, none, slots, apart, fields, Check. Conditions: none. -/
set_option linter.unusedVariables false
set_option linter.unusedSimpArgs false
namespace Go.Proofs.Ytjhncijdkmbopaa
open Go Go.RowKit

theorem liB_all (next lsn : Int) : ∀ (L : List LV) (last : Int), liB next lsn last L = (liB next 0 last L && L.all fun x => belB x.last lsn)
  | [], _ => rfl
  | x :: r, last => by
    rw [liB, liB, liB_all next lsn r, belB_0, List.all_cons]
    cases decide (last < x.tx) <;> cases decide (x.tx < next) <;> cases inB x.last 1 2147483647 <;> cases belB x.last lsn <;> cases x.c && x.u <;> simp
theorem diB_all (lsn : Int) : ∀ (D : List DV) (page : Int), diB lsn page D = (diB 0 page D && D.all fun x => belB x.since lsn)
  | [], _ => rfl
  | x :: r, page => by
    rw [diB, diB, diB_all lsn r, belB_0, List.all_cons]
    cases decide (page < x.page) <;> cases decide (x.page < 64) <;> cases inB x.since 1 2147483647 <;> cases belB x.since lsn <;> simp

theorem points_c {w : World} {m : Mm} {next lsn : Int} {L : List LV} {D : List DV} {R : Ending → World → Prop} (hi : LiIn w m L D) (h : ∀ w', Kp no w w' → R (.returned (.bool (cpB next lsn L D))) w') :
    GoC Try.prog F_ref05_points #[.agg #[.slice m.la m.ll m.lc, .slice m.da m.dl m.dc, .int .i64 next], .int .i64 lsn] w R := by
  refine S_ref05_points ?_
  unfold W_ref05_points
  have hll := hi.ll
  have hdl := hi.dl
  have hlb := hi.lb
  have hdb := hi.db
  refine Loc.al (Kp.refl _ w) fun b1 w1 h1 k1 g1 => ?_
  have out : ∀ b w', Kp no w w' → cpB next lsn L D = b → R (.returned (.bool b)) w' := fun b w' k hb => by subst hb; exact h w' k
  refine ⟨_, h1.at rfl rfl, cond_d (fun a1 => out _ _ h1.kp ?_) (fun a1 => ⟨_, h1.at rfl rfl, cond_d (fun a2 => out _ _ h1.kp ?_) (fun a2 => ?_)⟩)⟩
  · unfold cpB
    rw [inB_f.2 (by omega)]
    simp
  · unfold cpB
    rw [inB_f.2 (by omega)]
    simp
  have hin : inB next 1 2147483648 = true := inB_t.2 (by omega)
  refine ⟨_, _, _, h1.at rfl rfl, _, h1.at rfl rfl, Live_c (L := L) (hi.kp0 h1.kp).l hll (by omega) fun w2 k2 => ⟨_, rfl, cond_not (cond_b (fun a3 => ?_) (fun a3 => out _ _ (h1.kp.trans0 k2) ?_))⟩⟩
  rotate_left
  · unfold cpB
    rw [liB_all]
    cases hd : decide (L.length ≤ 32) <;> cases hq : liB next 0 0 L <;> simp
    rw [hd, hq] at a3
    cases a3
  rw [Bool.and_eq_true] at a3
  have h2 := h1.kp' k2
  refine ⟨_, _, _, h2.at rfl rfl, Dirty_c (D := D) (hi.kp0 h2.kp).d hdl fun w3 k3 => ⟨_, rfl, cond_not (cond_b (fun a4 => ?_) (fun a4 => out _ _ (h2.kp.trans0 k3) ?_))⟩⟩
  rotate_left
  · unfold cpB
    rw [diB_all]
    cases hd : decide (D.length ≤ 16) <;> cases hq : diB 0 (-1) D <;> simp
    rw [hd, hq] at a4
    cases a4
  rw [Bool.and_eq_true] at a4
  have h3 := h2.kp' k3
  have hcp : cpB next lsn L D = ((L.all fun x => belB x.last lsn) && D.all fun x => belB x.since lsn) := by
    unfold cpB
    rw [liB_all, diB_all, hin, a3.1, a3.2, a4.1, a4.2]
    simp
  have k13 := k2.trans0 k3
  refine loopN (fun s w4 => w4 = w3 ∧ ∃ k : Nat, k ≤ L.length ∧ s.1 = (k : Int) ∧ (L.take k).all (fun x => belB x.last lsn) = true) (fun s _ => L.length - s.1.toNat) ⟨rfl, 0, Nat.zero_le _, rfl, rfl⟩ ?_
  rintro ⟨k0, u⟩ w4 ⟨hw4, k, hk, hk0, hal⟩ _
  dsimp only at hk0 ⊢
  subst hk0
  rw [hw4]
  refine ⟨_, _, _, h3.at rfl rfl, cond_d (fun hlt => ?_) (fun hge => ?_)⟩
  · have hkl : k < L.length := by omega
    have wk : IntKind.wrap .i64 ((k : Int) + 1) = ((k + 1 : Nat) : Int) := by rw [wrap_i64 (by omega) (by omega)]; omega
    have nx : belB (L[k]).last lsn = true → (w3 = w3 ∧ ∃ k' : Nat, k' ≤ L.length ∧ IntKind.wrap .i64 ((k : Int) + 1) = (k' : Int) ∧ (L.take k').all (fun x => belB x.last lsn) = true) ∧ L.length - (IntKind.wrap .i64 ((k : Int) + 1)).toNat < L.length - ((k : Int)).toNat := fun hb => by
      refine ⟨⟨rfl, k + 1, by omega, wk, ?_⟩, by rw [wk]; simp only [Int.toNat_natCast]; omega⟩
      rw [take_snoc_get L k hkl, List.all_append, hal]
      simp [hb]
    refine cond_ne (fun hn => ?_) (fun hn => nx (by unfold belB; simp [hn]))
    refine ⟨_, _, _, h3.at rfl rfl, rd_el LV.csl (by omega) (hi.kp0 h3.kp).l hkl hll fun b o ha hc => ⟨(L[k]).last, by rw [Int.toNat_natCast, add_at, add_at]; exact hc 1 _ rfl, cond_d (fun hg => out _ _ h3.kp ?_) (fun hg => nx ?_)⟩⟩
    · rw [hcp]
      have : belB (L[k]).last lsn = false := by unfold belB; exact decide_eq_false (by omega)
      have : (L.all fun x => belB x.last lsn) = false := by
        rw [List.all_eq_false]
        exact ⟨L[k], List.getElem_mem hkl, by simp [this]⟩
      rw [this]
      rfl
    · unfold belB
      exact decide_eq_true (by omega)
  have hke : k = L.length := by omega
  subst hke
  rw [List.take_length] at hal
  rw [hal, Bool.true_and] at hcp
  refine loopN (fun s w4 => w4 = w3 ∧ ∃ k : Nat, k ≤ D.length ∧ s.1 = (k : Int) ∧ (D.take k).all (fun x => belB x.since lsn) = true) (fun s _ => D.length - s.1.toNat) ⟨rfl, 0, Nat.zero_le _, rfl, rfl⟩ ?_
  rintro ⟨k0, u⟩ w5 ⟨hw5, k, hk, hk0, hal⟩ _
  dsimp only at hk0 ⊢
  subst hk0
  rw [hw5]
  refine ⟨_, _, _, h3.at rfl rfl, cond_d (fun hlt => ?_) (fun hge => ?_)⟩
  · have hkl : k < D.length := by omega
    have wk : IntKind.wrap .i64 ((k : Int) + 1) = ((k + 1 : Nat) : Int) := by rw [wrap_i64 (by omega) (by omega)]; omega
    have nx : belB (D[k]).since lsn = true → (w3 = w3 ∧ ∃ k' : Nat, k' ≤ D.length ∧ IntKind.wrap .i64 ((k : Int) + 1) = (k' : Int) ∧ (D.take k').all (fun x => belB x.since lsn) = true) ∧ D.length - (IntKind.wrap .i64 ((k : Int) + 1)).toNat < D.length - ((k : Int)).toNat := fun hb => by
      refine ⟨⟨rfl, k + 1, by omega, wk, ?_⟩, by rw [wk]; simp only [Int.toNat_natCast]; omega⟩
      rw [take_snoc_get D k hkl, List.all_append, hal]
      simp [hb]
    refine cond_ne (fun hn => ?_) (fun hn => nx (by unfold belB; simp [hn]))
    refine ⟨_, _, _, h3.at rfl rfl, rd_el DV.csl (by omega) (hi.kp0 h3.kp).d hkl hdl fun b o ha hc => ⟨(D[k]).since, by rw [Int.toNat_natCast, add_at, add_at]; exact hc 1 _ rfl, cond_d (fun hg => out _ _ h3.kp ?_) (fun hg => nx ?_)⟩⟩
    · rw [hcp]
      have : belB (D[k]).since lsn = false := by unfold belB; exact decide_eq_false (by omega)
      rw [List.all_eq_false]
      exact ⟨D[k], List.getElem_mem hkl, by simp [this]⟩
    · unfold belB
      exact decide_eq_true (by omega)
  have hke : k = D.length := by omega
  subst hke
  rw [List.take_length] at hal
  exact out _ _ h3.kp (by rw [hcp, hal])

theorem none_c {w : World} {m : Mm} {next : Int} {R : Ending → World → Prop} (h : ∀ w', Kp no w w' → R (.returned (.bool (decide (next = 0 ∧ m.ll = 0 ∧ m.dl = 0)))) w') :
    GoC Try.prog F_ref05_none #[.agg #[.slice m.la m.ll m.lc, .slice m.da m.dl m.dc, .int .i64 next]] w R := by
  refine S_ref05_none ?_
  unfold W_ref05_none
  refine Loc.al (Kp.refl _ w) fun b1 w1 h1 k1 g1 => ?_
  have hh := h w1 h1.kp
  have no' : ¬ (next = 0 ∧ m.ll = 0 ∧ m.dl = 0) → R (.returned (.bool false)) w1 := fun hn => by rw [decide_eq_false hn] at hh; exact hh
  refine ⟨_, h1.at rfl rfl, cond_eq (fun a1 => ⟨_, _, _, h1.at rfl rfl, cond_eq (fun a2 => ⟨_, _, _, h1.at rfl rfl, ?_⟩) (fun a2 => no' (by omega))⟩) (fun a1 => no' (by omega))⟩
  have e : (((m.dl : Nat) : Int) == 0) = decide (next = 0 ∧ m.ll = 0 ∧ m.dl = 0) := by
    by_cases hq : m.dl = 0
    · rw [decide_eq_true (by omega)]
      simp [hq]
    · rw [decide_eq_false (by omega)]
      simp [hq]
  rw [e]
  exact hh

theorem rslots_c {w : World} {r : RV} {m : Mm} {R : Ending → World → Prop} (h : ∀ w', Kp no w w' → R (.returned (.bool (slB r.wp r.wi r.sp r.si))) w') : GoC Try.prog F_ref05_slots #[.agg (r.ca m)] w R := by
  refine S_ref05_slots ?_
  unfold W_ref05_slots
  unfold slB at h
  refine Loc.al (Kp.refl _ w) fun b1 w1 h1 k1 g1 => ?_
  have hh := h w1 h1.kp
  refine ⟨_, h1.at rfl rfl, within_c ⟨_, rfl, cond_b (fun a1 => ?_) (fun a1 => by rw [a1] at hh; exact hh)⟩⟩
  refine ⟨_, h1.at rfl rfl, within_c ⟨_, rfl, cond_b (fun a2 => ?_) (fun a2 => by rw [a1, a2] at hh; exact hh)⟩⟩
  refine ⟨_, h1.at rfl rfl, within_c ⟨_, rfl, cond_b (fun a3 => ?_) (fun a3 => by rw [a1, a2, a3] at hh; exact hh)⟩⟩
  refine ⟨_, h1.at rfl rfl, within_c ⟨_, rfl, cond_b (fun a4 => ?_) (fun a4 => by rw [a1, a2, a3, a4] at hh; exact hh)⟩⟩
  refine ⟨_, h1.at rfl rfl, _, h1.at rfl rfl, ?_⟩
  have e : (r.wp != r.sp) = decide (r.wp ≠ r.sp) := by by_cases hh : r.wp = r.sp <;> simp [hh]
  rw [a1, a2, a3, a4] at hh
  rw [e]
  exact hh

def apB (r : RV) : Bool := decide (r.wp = 0 ∧ r.wi = 0 ∧ r.sp = 0 ∧ r.si = 0 ∧ r.delta = 0 ∧ r.id = 0 ∧ r.grp = 0 ∧ r.lo = 0 ∧ r.hi = 0 ∧ r.val = 0)
theorem apart_c {w : World} {r : RV} {m : Mm} {R : Ending → World → Prop} (h : ∀ w', Kp no w w' → R (.returned (.bool (apB r))) w') : GoC Try.prog F_ref05_apart #[.agg (r.ca m)] w R := by
  refine S_ref05_apart ?_
  unfold W_ref05_apart
  refine Loc.al (Kp.refl _ w) fun b1 w1 h1 k1 g1 => ?_
  have hh := h w1 h1.kp
  have no' : ¬ (r.wp = 0 ∧ r.wi = 0 ∧ r.sp = 0 ∧ r.si = 0 ∧ r.delta = 0 ∧ r.id = 0 ∧ r.grp = 0 ∧ r.lo = 0 ∧ r.hi = 0 ∧ r.val = 0) → R (.returned (.bool false)) w1 := fun hn => by unfold apB at hh; rw [decide_eq_false hn] at hh; exact hh
  refine ⟨_, _, ⟨h1.at rfl rfl, h1.at rfl rfl, trivial⟩, cond_b (fun a3 => ?_) (fun a3 => no' (by simp at a3; omega))⟩
  refine ⟨_, _, ⟨h1.at rfl rfl, h1.at rfl rfl, trivial⟩, cond_b (fun a4 => ?_) (fun a4 => no' (by simp at a4; omega))⟩
  refine ⟨_, _, _, _, _, ⟨h1.at rfl rfl, h1.at rfl rfl, h1.at rfl rfl, h1.at rfl rfl, h1.at rfl rfl, trivial⟩, cond_b (fun a6 => ?_) (fun a6 => no' (by simp at a6; omega))⟩
  refine ⟨_, h1.at rfl rfl, ?_⟩
  have e : (r.delta == 0) = apB r := by
    simp only [Bool.and_true, Bool.and_eq_true, beq_iff_eq] at a3 a4 a6
    unfold apB
    by_cases hq : r.delta = 0
    · rw [decide_eq_true (by omega)]
      simp [hq]
    · rw [decide_eq_false (by omega)]
      simp [hq]
  rw [e]
  exact hh
end Go.Proofs.Ytjhncijdkmbopaa
/-! Contracts of the document's package for layer 5: fields, Check. Conditions: none. -/
set_option linter.unusedVariables false
set_option linter.unusedSimpArgs false
namespace Go.Proofs.Ytjhncijdkmbopaa
open Go Go.RowKit

section
variable {r : RV} (hl : inB r.lsn 0 2147483647 = true)
include hl
theorem ok1 (hk : r.kind = 1) (hn : r.next = 0 ∧ r.live.length = 0 ∧ r.dirty.length = 0) : okB r = (inB r.tx 1 2147483647 && (decide (r.prev = 0) && apB r)) := by
  unfold okB apB
  rw [if_neg (by omega), if_neg (by omega), if_neg (by omega), if_neg (by omega), hl, Bool.eq_iff_iff]
  simp only [Bool.and_eq_true, decide_eq_true_eq, and_assoc, hn.1, hn.2.1, hn.2.2, true_and, and_true]
theorem ok2 (hk : r.kind = 2) (hn : r.next = 0 ∧ r.live.length = 0 ∧ r.dirty.length = 0) :
    okB r = (decide (r.tx = 0) && (decide (r.prev = 0) && (decide (r.delta = 0) && (slB r.wp r.wi r.sp r.si && (inB r.id 1 1048576 && (inB r.grp 1 1048576 && decide (r.lo ≤ r.val ∧ r.val ≤ r.hi))))))) := by
  unfold okB
  rw [if_pos hk, hl, Bool.eq_iff_iff]
  simp only [Bool.and_eq_true, decide_eq_true_eq, and_assoc, hn.1, hn.2.1, hn.2.2, true_and, and_true]
  constructor
  · rintro ⟨a, b, c, d, e, f, g, h⟩; exact ⟨f, g, h, a, b, c, d, e⟩
  · rintro ⟨f, g, h, a, b, c, d, e⟩; exact ⟨a, b, c, d, e, f, g, h⟩
theorem ok34 (hk : r.kind = 3 ∨ r.kind = 4) (hn : r.next = 0 ∧ r.live.length = 0 ∧ r.dirty.length = 0) :
    okB r = (inB r.tx 1 2147483647 && ((inB r.prev 1 2147483647 && belB r.prev r.lsn) && (slB r.wp r.wi r.sp r.si && (inB r.id 1 1048576 && decide (r.grp = 0 ∧ r.lo = 0 ∧ r.hi = 0 ∧ r.val = 0))))) := by
  unfold okB
  rw [if_neg (by omega), if_neg (by omega), if_pos hk, hl, Bool.eq_iff_iff]
  simp only [Bool.and_eq_true, decide_eq_true_eq, and_assoc, hn.1, hn.2.1, hn.2.2, true_and, and_true]
  constructor
  · rintro ⟨a, b, c, d, e, f⟩; exact ⟨e, c, d, a, b, f⟩
  · rintro ⟨e, c, d, a, b, f⟩; exact ⟨a, b, c, d, e, f⟩
theorem ok567 (hk : r.kind = 5 ∨ r.kind = 6 ∨ r.kind = 7) (hn : r.next = 0 ∧ r.live.length = 0 ∧ r.dirty.length = 0) :
    okB r = (inB r.tx 1 2147483647 && ((inB r.prev 1 2147483647 && belB r.prev r.lsn) && apB r)) := by
  unfold okB apB
  rw [if_neg (by omega), if_neg (by omega), if_neg (by omega), if_pos hk, hl, Bool.eq_iff_iff]
  simp only [Bool.and_eq_true, decide_eq_true_eq, and_assoc, hn.1, hn.2.1, hn.2.2, true_and, and_true]
  constructor
  · rintro ⟨a, b, c, d⟩; exact ⟨c, a, b, d⟩
  · rintro ⟨c, a, b, d⟩; exact ⟨a, b, c, d⟩
theorem ok8 (hk : r.kind = 8) : okB r = (decide (r.tx = 0) && (decide (r.prev = 0) && (apB r && cpB r.next r.lsn r.live r.dirty))) := by
  unfold okB apB
  rw [if_neg (by omega), if_pos hk, hl, Bool.eq_iff_iff]
  simp only [Bool.and_eq_true, decide_eq_true_eq, and_assoc, true_and, and_true]
  constructor
  · rintro ⟨a, b, c, d⟩; exact ⟨b, c, d.1, d.2.1, d.2.2.1, d.2.2.2.1, d.2.2.2.2.1, d.2.2.2.2.2.1, d.2.2.2.2.2.2.1, d.2.2.2.2.2.2.2.1, d.2.2.2.2.2.2.2.2.1, d.2.2.2.2.2.2.2.2.2, a⟩
  · rintro ⟨b, c, d1, d2, d3, d4, d5, d6, d7, d8, d9, d10, a⟩; exact ⟨a, b, c, d1, d2, d3, d4, d5, d6, d7, d8, d9, d10⟩
end
theorem okB_lsn {r : RV} (h : inB r.lsn 0 2147483647 = false) : okB r = false := by unfold okB; rw [h]; rfl
theorem okB_none {r : RV} (h8 : r.kind ≠ 8) (h : ¬ (r.next = 0 ∧ r.live.length = 0 ∧ r.dirty.length = 0)) : okB r = false := by
  rw [Bool.eq_false_iff]
  intro hh
  unfold okB at hh
  rw [if_neg h8] at hh
  split at hh
  · simp only [Bool.and_eq_true, decide_eq_true_eq] at hh
    omega
  · split at hh
    · simp only [Bool.and_eq_true, decide_eq_true_eq] at hh
      omega
    · split at hh
      · simp only [Bool.and_eq_true, decide_eq_true_eq] at hh
        omega
      · simp only [Bool.and_eq_true, decide_eq_true_eq] at hh
        omega

theorem rfields_c {w : World} {r : RV} {m : Mm} {R : Ending → World → Prop} (hi : LiIn w m r.live r.dirty) (hk1 : 1 ≤ r.kind) (hk8 : r.kind ≤ 8) (h : ∀ w', Kp no w w' → R (.returned (.bool (okB r))) w') : GoC Try.prog F_ref05_fields #[.agg (r.ca m)] w R := by
  refine S_ref05_fields ?_
  unfold W_ref05_fields
  have hll := hi.ll
  have hdl := hi.dl
  refine Loc.al (Kp.refl _ w) fun b1 w1 h1 k1 g1 => ?_
  have h1 : Loc w w1 b1 (r.ca m) T_api_Record := h1
  have out : ∀ b w', Kp no w1 w' → okB r = b → R (.returned (.bool b)) w' := fun b w' k hb => by subst hb; exact h w' (h1.kp.trans0 k)
  refine ⟨fun _ w' => Kp no w1 w' ∧ inB r.lsn 0 2147483647 = true ∧ (r.kind ≠ 8 → r.next = 0 ∧ r.live.length = 0 ∧ r.dirty.length = 0), ?_, ?_⟩
  · refine ⟨_, h1.at rfl rfl, within_c ⟨_, rfl, cond_not (cond_b (fun a1 => ?_) (fun a1 => out _ _ (Kp.refl _ _) (okB_lsn a1)))⟩⟩
    refine ⟨_, h1.at rfl rfl, cond_ne (fun n8 => ?_) (fun e8 => ⟨Kp.refl _ _, a1, fun hh => absurd e8 hh⟩)⟩
    refine ⟨_, _, _, _, _, _, _, ⟨h1.at rfl rfl, h1.at rfl rfl, h1.at rfl rfl, trivial⟩, none_c (m := m) fun w2 k2 => ⟨_, rfl, cond_not (cond_b (fun a2 => ⟨k2, a1, fun _ => ?_⟩) (fun a2 => out _ _ k2 (okB_none n8 ?_)))⟩⟩
    · have := of_decide_eq_true a2
      omega
    · have := of_decide_eq_false a2
      omega
  rintro _ w2 ⟨k2, hlsn, hnone⟩ _
  have h2 := h1.kp' k2
  refine ⟨_, h2.at rfl rfl, within_c ⟨_, rfl, ?_⟩⟩
  refine ⟨fun s w' => w' = w2 ∧ s.1 = (inB r.prev 1 2147483647 && belB r.prev r.lsn), ?_, ?_⟩
  · refine ⟨_, h2.at rfl rfl, within_c ⟨_, rfl, cond_b (fun a1 => ?_) (fun a1 => ⟨rfl, by rw [a1]; rfl⟩)⟩⟩
    refine ⟨_, h2.at rfl rfl, cond_eq (fun e0 => ⟨rfl, by rw [a1]; unfold belB; simp [e0]⟩) (fun e0 => ⟨_, h2.at rfl rfl, _, h2.at rfl rfl, rfl, ?_⟩)⟩
    rw [a1]
    unfold belB
    exact decide_eq_decide.2 (by omega)
  rintro ⟨q4, u4⟩ w3 ⟨hw3, hq4⟩ _
  dsimp only at hq4
  subst hq4
  rw [hw3]
  refine ⟨_, _, _, _, _, ⟨h2.at rfl rfl, h2.at rfl rfl, h2.at rfl rfl, h2.at rfl rfl, h2.at rfl rfl, trivial⟩, cnt_cp r fun b2 w4 h4 => ?_⟩
  have k4 := k2.trans0 h4.kp
  have l4 := h1.kp' k4
  refine ⟨_, h4.at rfl rfl, within_c ⟨_, rfl, ?_⟩⟩
  have li4 : ∀ w', Kp no w4 w' → LiIn w' m r.live r.dirty := fun w' kk => hi.kp0 (l4.kp.trans0 kk)
  have o4 : ∀ b w', Kp no w4 w' → okB r = b → R (.returned (.bool b)) w' := fun b w' k hb => out b w' (k4.trans0 k) hb
  refine ⟨fun _ w' => w' = w4 ∧ r.kind = 8, ?_, ?_⟩
  · refine ⟨_, l4.at rfl rfl, cond_eq (fun e1 => ?_) fun n1 => cond_eq (fun e2 => ?_) fun n2 => ?_⟩
    · have hok := ok1 hlsn e1 (hnone (by omega))
      refine cond_b (fun a1 => ⟨_, l4.at rfl rfl, cond_eq (fun a2 => ?_) (fun a2 => o4 _ _ (Kp.refl _ _) (by rw [hok, decide_eq_false a2]; simp))⟩) (fun a1 => o4 _ _ (Kp.refl _ _) (by rw [hok, a1]; rfl))
      refine rec_rd l4.blk (apart_c (r := r) (m := m) fun w5 k5 => ⟨_, rfl, o4 _ _ k5 (by rw [hok, a1, decide_eq_true a2]; simp)⟩)
    · have hok := ok2 hlsn e2 (hnone (by omega))
      refine ⟨fun s w' => w' = w4 ∧ s.1 = decide (r.lo ≤ r.val ∧ r.val ≤ r.hi), ?_, ?_⟩
      · refine ⟨_, h4.at rfl rfl, _, h4.at rfl rfl, cond_d (fun a1 => ⟨_, h4.at rfl rfl, _, h4.at rfl rfl, rfl, ?_⟩) (fun a1 => ⟨rfl, ?_⟩)⟩
        · exact decide_eq_decide.2 (by omega)
        · exact (decide_eq_false (by omega)).symm
      rintro ⟨q, u⟩ w5 ⟨hw5, hq⟩ _
      dsimp only at hq
      subst hq
      rw [hw5]
      have no' : ∀ w', Kp no w4 w' → okB r = false → R (.returned (.bool false)) w' := fun w' k hb => o4 _ _ k hb
      refine ⟨_, l4.at rfl rfl, cond_eq (fun a1 => ?_) (fun a1 => no' _ (Kp.refl _ _) (by rw [hok, decide_eq_false a1]; rfl))⟩
      refine ⟨_, l4.at rfl rfl, cond_eq (fun a2 => ?_) (fun a2 => no' _ (Kp.refl _ _) (by rw [hok, decide_eq_false a2]; simp))⟩
      refine ⟨_, l4.at rfl rfl, cond_eq (fun a3 => ?_) (fun a3 => no' _ (Kp.refl _ _) (by rw [hok, decide_eq_false a3]; simp))⟩
      rw [decide_eq_true a1, decide_eq_true a2, decide_eq_true a3] at hok
      simp only [Bool.true_and] at hok
      refine rec_rd l4.blk (rslots_c (r := r) (m := m) fun w5 k5 => ⟨_, rfl, cond_b (fun a4 => ?_) (fun a4 => no' _ k5 (by rw [hok, a4]; rfl))⟩)
      rw [a4, Bool.true_and] at hok
      refine cond_b (fun a5 => ?_) (fun a5 => no' _ k5 (by rw [hok, a5]; rfl))
      rw [a5, Bool.true_and] at hok
      refine ⟨_, (h4.kp' k5).at rfl rfl, within_c ⟨_, rfl, cond_b (fun a6 => o4 _ _ k5 ?_) (fun a6 => no' _ k5 (by rw [hok, a6]; rfl))⟩⟩
      rw [hok, a6, Bool.true_and]
    · refine ⟨fun s w' => w' = w4 ∧ s.1 = decide (r.kind = 3 ∨ r.kind = 4), ?_, ?_⟩
      · refine cond_eq (fun e3 => ⟨rfl, ?_⟩) (fun n3 => ⟨rfl, ?_⟩)
        · rw [decide_eq_true (.inl e3)]
          simp [e3]
        · by_cases e4 : r.kind = 4
          · rw [decide_eq_true (.inr e4)]
            simp [e4]
          · rw [decide_eq_false (by omega)]
            simp [e4]
      rintro ⟨q, u⟩ w5 ⟨hw5, hq⟩ _
      dsimp only at hq
      subst hq
      rw [hw5]
      refine cond_d (fun e34 => ?_) (fun n34 => ?_)
      · have hok := ok34 hlsn e34 (hnone (by omega))
        refine cond_b (fun a1 => ?_) (fun a1 => o4 _ _ (Kp.refl _ _) (by rw [hok, a1]; rfl))
        rw [a1, Bool.true_and] at hok
        refine cond_b (fun a2 => ?_) (fun a2 => o4 _ _ (Kp.refl _ _) (by dsimp only at a2; rw [hok, a2]; rfl))
        dsimp only at a2
        rw [a2, Bool.true_and] at hok
        refine rec_rd l4.blk (rslots_c (r := r) (m := m) fun w5 k5 => ⟨_, rfl, cond_b (fun a4 => ?_) (fun a4 => o4 _ _ k5 (by rw [hok, a4]; rfl))⟩)
        rw [a4, Bool.true_and] at hok
        refine cond_b (fun a5 => ?_) (fun a5 => o4 _ _ k5 (by rw [hok, a5]; rfl))
        rw [a5, Bool.true_and] at hok
        have h5 := h4.kp' k5
        refine ⟨_, _, _, _, _, ⟨h5.at rfl rfl, h5.at rfl rfl, h5.at rfl rfl, h5.at rfl rfl, h5.at rfl rfl, trivial⟩, _, h5.at rfl rfl, o4 _ _ k5 ?_⟩
        rw [hok, Bool.eq_iff_iff]
        simp [and_assoc]
      · refine ⟨fun s w' => w' = w4 ∧ s.1 = decide (r.kind = 5 ∨ r.kind = 6 ∨ r.kind = 7), ?_, ?_⟩
        · refine cond_eq (fun e5 => ⟨rfl, ?_⟩) (fun n5 => cond_eq (fun e6 => ⟨rfl, ?_⟩) (fun n6 => ⟨rfl, ?_⟩))
          · rw [decide_eq_true (.inl e5)]
            simp [e5]
          · rw [decide_eq_true (.inr (.inl e6))]
            simp [e6]
          · by_cases e7 : r.kind = 7
            · rw [decide_eq_true (.inr (.inr e7))]
              simp [e7]
            · rw [decide_eq_false (by omega)]
              simp [e7]
        rintro ⟨q, u⟩ w5 ⟨hw5, hq⟩ _
        dsimp only at hq
        subst hq
        rw [hw5]
        refine cond_d (fun e567 => ?_) (fun n567 => ⟨rfl, by omega⟩)
        have hok := ok567 hlsn e567 (hnone (by omega))
        refine cond_b (fun a1 => ?_) (fun a1 => o4 _ _ (Kp.refl _ _) (by rw [hok, a1]; rfl))
        rw [a1, Bool.true_and] at hok
        refine cond_b (fun a2 => ?_) (fun a2 => o4 _ _ (Kp.refl _ _) (by dsimp only at a2; rw [hok, a2]; rfl))
        dsimp only at a2
        rw [a2, Bool.true_and] at hok
        exact rec_rd l4.blk (apart_c (r := r) (m := m) fun w5 k5 => ⟨_, rfl, o4 _ _ k5 hok⟩)
  rintro _ w5 ⟨hw5, e8⟩ _
  rw [hw5]
  have hok := ok8 hlsn e8
  refine ⟨_, l4.at rfl rfl, cond_eq (fun a1 => ?_) (fun a1 => o4 _ _ (Kp.refl _ _) (by rw [hok, decide_eq_false a1]; rfl))⟩
  refine ⟨_, l4.at rfl rfl, cond_eq (fun a2 => ?_) (fun a2 => o4 _ _ (Kp.refl _ _) (by rw [hok, decide_eq_false a2]; simp))⟩
  rw [decide_eq_true a1, decide_eq_true a2] at hok
  simp only [Bool.true_and] at hok
  refine rec_rd l4.blk (apart_c (r := r) (m := m) fun w5 k5 => ⟨_, rfl, cond_b (fun a3 => ?_) (fun a3 => o4 _ _ k5 (by rw [hok, a3]; rfl))⟩)
  rw [a3, Bool.true_and] at hok
  have l5 := l4.kp' k5
  refine ⟨_, _, _, _, _, _, _, ⟨l5.at rfl rfl, l5.at rfl rfl, l5.at rfl rfl, trivial⟩, _, l5.at rfl rfl, ?_⟩
  exact points_c (m := m) (li4 _ k5) fun w6 k6 => ⟨_, rfl, o4 _ _ (k5.trans0 k6) hok⟩

theorem rcheck_c {w : World} {r : RV} {m : Mm} {R : Ending → World → Prop} (hi : LiIn w m r.live r.dirty) (h : ∀ w', Kp no w w' → R (.returned (.int .i64 (chkN r : Int))) w') : GoC Try.prog F_ref05_Check #[.agg (r.ca m)] w R := by
  refine S_ref05_Check ?_
  unfold W_ref05_Check
  refine Loc.al (Kp.refl _ w) fun b1 w1 h1 k1 g1 => ?_
  have h1 : Loc w w1 b1 (r.ca m) T_api_Record := h1
  have h70 : (r.kind < 1 ∨ 8 < r.kind) → R (.returned (.int .i64 70)) w1 := fun hh => by
    have := h w1 h1.kp
    unfold chkN at this
    rw [if_pos hh] at this
    exact this
  refine ⟨_, h1.at rfl rfl, cond_d (fun a1 => h70 (.inl a1)) (fun a1 => ⟨_, h1.at rfl rfl, cond_d (fun a2 => h70 (.inr a2)) (fun a2 => ?_)⟩)⟩
  refine rec_rd h1.blk (rfields_c (r := r) (m := m) (hi.kp0 h1.kp) (by omega) (by omega) fun w2 k2 => ⟨_, rfl, ?_⟩)
  have := h w2 (h1.kp.trans0 k2)
  unfold chkN at this
  rw [if_neg (by omega)] at this
  refine cond_not (cond_b (fun a3 => ?_) (fun a3 => ?_))
  · rw [a3] at this
    exact this
  · rw [a3] at this
    exact this
end Go.Proofs.Ytjhncijdkmbopaa
