/- The statements' Book of layer 5: holds. Conditions: lists of at most 1000. -/
import Derived.Test.YtjhncijdkmbopaaSg
set_option linter.unusedVariables false
set_option linter.unusedSimpArgs false
namespace Go.Proofs.Ytjhncijdkmbopaa
open Go Go.RowKit

theorem rep_get {α : Type} {f : α → List Value} {s : Nat} (hs : ∀ x, (f x).length = s) (h0 : 0 < s) {w : World} {a : Option Addr} {x : α} {n : Nat} (h : Rd w a (flatV f (List.replicate n x))) {k : Nat} (hk : k < n) {v : Value} (hv : (f x)[0]? = some v) : ∃ b o, a = some ⟨b, o, none⟩ ∧ w.cell? ⟨b, o + k * s, none⟩ = some v := by
  refine h (k * s) v ?_
  have := flatV_get hs (List.replicate n x) k (by simpa using hk) 0 h0
  rw [Nat.add_zero] at this
  rw [this, List.getElem_replicate]
  exact hv

set_option maxHeartbeats 2000000 in
theorem holds_c {w : World} {ow : Nat → Nat} {b nB nL : Nat} {R : Ending → World → Prop} (hk : Bq w ow b nB nL) (hn : nL ≤ 1000) (hnB : nB ≤ 1000)
    (h : R (.returned (.bool true)) w) : GoC Try.prog F_law05_Book_holds #[.pointer (some ⟨b, 0, none⟩)] w R := by
  obtain ⟨G1, M1, G2, M2, G3, M3, L1, K1, L2, K2, L3, K3, hk⟩ := hk
  refine S_law05_Book_holds ?_
  unfold W_law05_Book_holds
  obtain ⟨x, _, p1, p2, p3⟩ := hk
  have gl1 := p1.gl; have gn1 := p1.gn; have ml1 := p1.ml; have mn1 := p1.mn
  have gl2 := p2.gl; have gn2 := p2.gn; have ml2 := p2.ml; have mn2 := p2.mn
  have gl3 := p3.gl; have gn3 := p3.gn; have ml3 := p3.ml; have mn3 := p3.mn
  have g1 := p1.g.sl.rd; have m1 := p1.m.sl.rd
  have g2 := p2.g.sl.rd; have m2 := p2.m.sl.rd
  have g3 := p3.g.sl.rd; have m3 := p3.m.sl.rd
  refine loopN (fun s w' => w' = w ∧ ∃ k : Nat, k ≤ nB ∧ s.1 = (k : Int)) (fun s _ => nB - s.1.toNat) ⟨rfl, 0, Nat.zero_le _, rfl⟩ ?_
  rintro ⟨k0, u⟩ w1 ⟨rfl, k, hkl, hk0⟩ _
  dsimp only at hk0 ⊢
  subst hk0
  have wm := mkB_n (j := k) (by omega)
  rw [wm]
  clear wm
  refine NilF.intro rfl ⟨_, _, _, x.at rfl rfl, cond_d (fun hlt => ?_) (fun hge => ?_)⟩
  · have hk1 : k < L1.length := by omega
    have hk2 : k < K1.length := by omega
    have hr := (p1.r k hk1).1.rd
    have hm := (p1.s k hk2).1.rd
    have bm := (p1.s k hk2).2
    generalize hG : L1[k] = gk at hr
    generalize hM : K1[k] = mk at hm bm
    refine loopN (fun s w' => w' = w1 ∧ ∃ j : Nat, j ≤ mk.l ∧ s.1 = (j : Int)) (fun s _ => mk.l - s.1.toNat) ⟨rfl, 0, Nat.zero_le _, rfl⟩ ?_
    rintro ⟨j0, u⟩ w' ⟨rfl, j, hjl, hj0⟩ _
    dsimp only at hj0 ⊢
    subst hj0
    refine NilF.intro rfl ⟨_, _, _, x.at rfl rfl, siI m1 hk2 rfl (by omega) ?_⟩
    rw [hM]
    refine cond_d (fun hlt2 => ?_) (fun hge2 => ?_)
    · refine NilF.intro rfl ⟨_, _, _, x.at rfl rfl, siI m1 hk2 rfl (by omega) ?_⟩
      rw [hM]
      obtain ⟨b1, o1, ha1, hc1⟩ := rep_get bv1_l (by omega) hm (k := j) (by omega) (v := bv (mkB k)) rfl
      refine ⟨by omega, by omega, _, ha1, ((mkB k).toNat : Int), by rw [Int.toNat_natCast, add_at]; rw [Nat.mul_one] at hc1; exact hc1, ?_⟩
      refine cond_ne (fun hne => absurd rfl hne) (fun _ => ?_)
      refine NilF.intro rfl ⟨_, _, _, x.at rfl rfl, siI g1 hk1 rfl (by omega) ?_⟩
      rw [hG]
      have next : (w' = w' ∧ ∃ j' : Nat, j' ≤ mk.l ∧ IntKind.wrap .i64 ((j : Int) + 1) = (j' : Int)) ∧ mk.l - (IntKind.wrap .i64 ((j : Int) + 1)).toNat < mk.l - ((j : Int)).toNat := by
        have wj : IntKind.wrap .i64 ((j : Int) + 1) = (j : Int) + 1 := wrap_i64 (by omega) (by omega)
        rw [wj]
        clear wj
        exact ⟨⟨rfl, j + 1, by omega, by omega⟩, by omega⟩
      refine cond_d (fun hlt3 => ?_) (fun _ => next)
      refine NilF.intro rfl ⟨_, _, _, x.at rfl rfl, siI g1 hk1 rfl (by omega) ?_⟩
      rw [hG]
      obtain ⟨b2, o2, ha2, hc2⟩ := rep_get bv1_l (by omega) hr (k := j) (by omega) (v := bv (mkB k)) rfl
      refine ⟨by omega, by omega, _, ha2, ((mkB k).toNat : Int), by rw [Int.toNat_natCast, add_at]; rw [Nat.mul_one] at hc2; exact hc2, ?_⟩
      exact cond_ne (fun hne => absurd rfl hne) (fun _ => next)
    · have wk : IntKind.wrap .i64 ((k : Int) + 1) = (k : Int) + 1 := wrap_i64 (by omega) (by omega)
      rw [wk]
      clear wk
      exact ⟨⟨rfl, k + 1, by omega, by omega⟩, by omega⟩
  refine loopN (fun s w' => w' = w1 ∧ ∃ k : Nat, k ≤ nL ∧ s.1 = (k : Int)) (fun s _ => nL - s.1.toNat) ⟨rfl, 0, Nat.zero_le _, rfl⟩ ?_
  clear hge hkl
  rintro ⟨k0, u⟩ w3 ⟨rfl, k, hkl, hk0⟩ _
  dsimp only at hk0 ⊢
  subst hk0
  have wm : IntKind.wrap .i64 ((k : Int) + 1000000) = (k : Int) + 1000000 := wrap_i64 (by omega) (by omega)
  rw [wm]
  clear wm
  have e1 : ∀ v, (k : Int) + 1000000 = v → (mkLv k).cs[0]? = some (.int .i64 v) ∧ (mkDv k).cs[0]? = some (.int .i64 v) := fun v hv => by subst hv; exact ⟨rfl, rfl⟩
  generalize (k : Int) + 1000000 = mv at *
  replace e1 := e1 mv rfl
  refine NilF.intro rfl ⟨_, _, _, x.at rfl rfl, cond_d (fun hlt => ?_) (fun hge => h)⟩
  · have hk1 : k < L2.length := by omega
    have hk2 : k < K2.length := by omega
    have hr := (p2.r k hk1).1.rd
    have hm := (p2.s k hk2).1.rd
    have bm := (p2.s k hk2).2
    generalize hG : L2[k] = gk at hr
    generalize hM : K2[k] = mk at hm bm
    refine loopN (fun s w' => w' = w3 ∧ ∃ j : Nat, j ≤ mk.l ∧ s.1 = (j : Int)) (fun s _ => mk.l - s.1.toNat) ⟨rfl, 0, Nat.zero_le _, rfl⟩ ?_
    rintro ⟨j0, u⟩ w' ⟨rfl, j, hjl, hj0⟩ _
    dsimp only at hj0 ⊢
    subst hj0
    refine NilF.intro rfl ⟨_, _, _, x.at rfl rfl, siI m2 hk2 rfl (by omega) ?_⟩
    rw [hM]
    refine cond_d (fun hlt2 => ?_) (fun hge2 => ?_)
    · refine NilF.intro rfl ⟨_, _, _, x.at rfl rfl, siI m2 hk2 rfl (by omega) ?_⟩
      rw [hM]
      obtain ⟨b1, o1, ha1, hc1⟩ := rep_get LV.csl (by omega) hm (k := j) (by omega) (v := .int .i64 mv) e1.1
      refine ⟨by omega, by omega, _, ha1, mv, by rw [Int.toNat_natCast, add_at]; exact hc1, ?_⟩
      refine cond_ne (fun hne => absurd rfl hne) (fun _ => ?_)
      refine NilF.intro rfl ⟨_, _, _, x.at rfl rfl, siI g2 hk1 rfl (by omega) ?_⟩
      rw [hG]
      have next : (w' = w' ∧ ∃ j' : Nat, j' ≤ mk.l ∧ IntKind.wrap .i64 ((j : Int) + 1) = (j' : Int)) ∧ mk.l - (IntKind.wrap .i64 ((j : Int) + 1)).toNat < mk.l - ((j : Int)).toNat := by
        have wj : IntKind.wrap .i64 ((j : Int) + 1) = (j : Int) + 1 := wrap_i64 (by omega) (by omega)
        rw [wj]
        clear wj
        exact ⟨⟨rfl, j + 1, by omega, by omega⟩, by omega⟩
      refine cond_d (fun hlt3 => ?_) (fun _ => next)
      refine NilF.intro rfl ⟨_, _, _, x.at rfl rfl, siI g2 hk1 rfl (by omega) ?_⟩
      rw [hG]
      obtain ⟨b2, o2, ha2, hc2⟩ := rep_get LV.csl (by omega) hr (k := j) (by omega) (v := .int .i64 mv) e1.1
      refine ⟨by omega, by omega, _, ha2, mv, by rw [Int.toNat_natCast, add_at]; exact hc2, ?_⟩
      exact cond_ne (fun hne => absurd rfl hne) (fun _ => next)
    · clear hge2 hjl hr hm bm hG hM
      clear gk mk
      have hk1 : k < L3.length := by omega
      have hk2 : k < K3.length := by omega
      have hr := (p3.r k hk1).1.rd
      have hm := (p3.s k hk2).1.rd
      have bm := (p3.s k hk2).2
      generalize hG : L3[k] = gk at hr
      generalize hM : K3[k] = mk at hm bm
      refine loopN (fun s w'' => w'' = w' ∧ ∃ j : Nat, j ≤ mk.l ∧ s.1 = (j : Int)) (fun s _ => mk.l - s.1.toNat) ⟨rfl, 0, Nat.zero_le _, rfl⟩ ?_
      rintro ⟨j0, u⟩ w' ⟨rfl, j, hjl, hj0⟩ _
      dsimp only at hj0 ⊢
      subst hj0
      refine NilF.intro rfl ⟨_, _, _, x.at rfl rfl, siI m3 hk2 rfl (by omega) ?_⟩
      rw [hM]
      refine cond_d (fun hlt2 => ?_) (fun hge2 => ?_)
      · refine NilF.intro rfl ⟨_, _, _, x.at rfl rfl, siI m3 hk2 rfl (by omega) ?_⟩
        rw [hM]
        obtain ⟨b1, o1, ha1, hc1⟩ := rep_get DV.csl (by omega) hm (k := j) (by omega) (v := .int .i64 mv) e1.2
        refine ⟨by omega, by omega, _, ha1, mv, by rw [Int.toNat_natCast, add_at]; exact hc1, ?_⟩
        refine cond_ne (fun hne => absurd rfl hne) (fun _ => ?_)
        refine NilF.intro rfl ⟨_, _, _, x.at rfl rfl, siI g3 hk1 rfl (by omega) ?_⟩
        rw [hG]
        have next : (w' = w' ∧ ∃ j' : Nat, j' ≤ mk.l ∧ IntKind.wrap .i64 ((j : Int) + 1) = (j' : Int)) ∧ mk.l - (IntKind.wrap .i64 ((j : Int) + 1)).toNat < mk.l - ((j : Int)).toNat := by
          have wj : IntKind.wrap .i64 ((j : Int) + 1) = (j : Int) + 1 := wrap_i64 (by omega) (by omega)
          rw [wj]
          clear wj
          exact ⟨⟨rfl, j + 1, by omega, by omega⟩, by omega⟩
        refine cond_d (fun hlt3 => ?_) (fun _ => next)
        refine NilF.intro rfl ⟨_, _, _, x.at rfl rfl, siI g3 hk1 rfl (by omega) ?_⟩
        rw [hG]
        obtain ⟨b2, o2, ha2, hc2⟩ := rep_get DV.csl (by omega) hr (k := j) (by omega) (v := .int .i64 mv) e1.2
        refine ⟨by omega, by omega, _, ha2, mv, by rw [Int.toNat_natCast, add_at]; exact hc2, ?_⟩
        exact cond_ne (fun hne => absurd rfl hne) (fun _ => next)
      · have wk : IntKind.wrap .i64 ((k : Int) + 1) = (k : Int) + 1 := wrap_i64 (by omega) (by omega)
        rw [wk]
        clear wk
        exact ⟨⟨rfl, k + 1, by omega, by omega⟩, by omega⟩
end Go.Proofs.Ytjhncijdkmbopaa
