/- Contracts of the statements' cut and of the document's Own, Same. Conditions: none. -/
import Derived.Test.YtjhncijdkmbopaaRv
set_option linter.unusedVariables false
set_option linter.unusedSimpArgs false
namespace Go.Proofs.Ytjhncijdkmbopaa
open Go Go.RowKit

def cutR (r : RV) : RV := { r with live := r.live.take 100, dirty := r.dirty.take 100 }
theorem cut_c2 {w : World} {r : RV} {m : Mm} {R : Ending → World → Prop} (hr : RArg w r m) (h : ∀ m' w', Kp no w w' → m'.ll ≤ 100 → m'.dl ≤ 100 → RArg w' (cutR r) m' → m'.la = m.la → m'.da = m.da → R (.returned (.agg ((cutR r).ca m'))) w') : GoC Try.prog F_law05_cut #[.agg (r.ca m)] w R := by
  refine S_law05_cut ?_
  unfold W_law05_cut
  have hll := hr.li.ll
  have hdl := hr.li.dl
  have hlb := hr.li.lb
  have hdb := hr.li.db
  have hlc := hr.lc
  have hdc := hr.dc
  refine AlF.intro fun b1 w1 hb1e hb1 k1 _ => AlF.intro fun b2 w2 hb2e hb2 k2 _ => ?_
  have f1 : Fro (fun _ => True) w (fun _ => 0) w1 (ext (fun _ => 0) w.heap.size 2) := Fro.of_kp0 2 k1
  have f2 : Fro (fun _ => True) w1 (ext (fun _ => 0) w.heap.size 2) w2 (ext (ext (fun _ => 0) w.heap.size 2) w1.heap.size 1) := Fro.of_kp0 1 k2
  have o0 : Old w w fun _ => 0 := ⟨Kp.refl _ _, fun _ _ => rfl⟩
  have bx : Bx w w2 (ext (ext (fun _ => 0) w.heap.size 2) w1.heap.size 1) b2 b1 r m := by
    obtain ⟨a, b⟩ := blk_fr hb1 (ext_new (by omega) : ext (fun _ => 0) w.heap.size 2 b1 = 2) f2 trivial
    exact ⟨(o0.fr f1 trivial).fr f2 trivial, hb2, ext_new (by omega), a, b⟩
  generalize ext (ext (fun _ => 0) w.heap.size 2) w1.heap.size 1 = ow at bx
  refine ⟨fun _ w' => ∃ m', Bx w w' ow b2 b1 r m' ∧ m'.la = m.la ∧ m'.ll = min m.ll 100 ∧ m'.lc = m.lc ∧ m'.da = m.da ∧ m'.dl = m.dl ∧ m'.dc = m.dc, ?_, ?_⟩
  · refine ⟨_, _, _, bx.x2.at rfl rfl, cond_d (fun hg => ⟨_, _, _, bx.x2.at rfl rfl, ⟨by decide, by omega⟩, trivial, ?_⟩) (fun hg => ⟨m, bx, rfl, by omega, rfl, rfl, rfl, rfl⟩)⟩
    rw [subA_zero]
    exact bx.st r { m with ll := 100 } rfl (Nat.le_of_ble_eq_true rfl) rfl fun w' bx' _ => ⟨_, bx', rfl, by dsimp only; omega, rfl, rfl, rfl, rfl⟩
  rintro _ w3 ⟨m1, bx, e1, e2, e3, e4, e5, e6⟩ _
  refine ⟨fun _ w' => ∃ m', Bx w w' ow b2 b1 r m' ∧ m'.la = m.la ∧ m'.ll = min m.ll 100 ∧ m'.lc = m.lc ∧ m'.da = m.da ∧ m'.dl = min m.dl 100 ∧ m'.dc = m.dc, ?_, ?_⟩
  · refine ⟨_, _, _, bx.x2.at rfl rfl, cond_d (fun hg => ⟨_, _, _, bx.x2.at rfl rfl, ⟨by decide, by omega⟩, trivial, ?_⟩) (fun hg => ⟨m1, bx, e1, e2, e3, e4, by omega, e6⟩)⟩
    rw [subA_zero]
    exact bx.st r { m1 with dl := 100 } rfl (Nat.le_of_ble_eq_true rfl) rfl fun w' bx' _ => ⟨_, bx', e1, e2, e3, e4, by dsimp only; omega, e6⟩
  rintro _ w4 ⟨m2, bx, e1, e2, e3, e4, e5, e6⟩ _
  refine rec_rd bx.x2 (rec_st bx.x1 r m2 fun w5 hb5 k5 => rec_rd hb5 ?_)
  have f5 : Fro (fun t => t ≠ 1) w4 ow w5 ow := Fro.of_kp' k5 fun b _ hb' hne => hne (by rw [hb']; exact bx.t1)
  have ho := bx.old.fr f5 (by omega)
  have hr5 := hr.kp0 ho.kp
  refine h m2 w5 ho.kp (by omega) (by omega) ⟨⟨?_, ?_, by omega, ?_, ?_, by omega⟩, ⟨hr.wf.lsn, hr.wf.kind, hr.wf.tx, hr.wf.prev, hr.wf.wp, hr.wf.wi, hr.wf.sp, hr.wf.si, hr.wf.delta, hr.wf.id, hr.wf.grp, hr.wf.lo, hr.wf.hi, hr.wf.val, hr.wf.next⟩, by omega, by omega⟩ e1 e4
  · rw [e1]
    unfold cutR
    dsimp only
    rw [← flatV_take LV.csl]
    exact hr5.li.l.take _
  · unfold cutR
    simp only [List.length_take]
    omega
  · rw [e4]
    unfold cutR
    dsimp only
    rw [← flatV_take DV.csl]
    exact hr5.li.d.take _
  · unfold cutR
    simp only [List.length_take]
    omega

theorem cut_c {w : World} {r : RV} {m : Mm} {R : Ending → World → Prop} (hr : RArg w r m) (h : ∀ m' w', Kp no w w' → m'.ll ≤ 100 → m'.dl ≤ 100 → RArg w' (cutR r) m' → R (.returned (.agg ((cutR r).ca m'))) w') : GoC Try.prog F_law05_cut #[.agg (r.ca m)] w R :=
  cut_c2 hr fun m' w' k h1 h2 h3 _ _ => h m' w' k h1 h2 h3

/-- A new slice gets its owner. -/
theorem new_slt {w w' : World} {ow : Nat → Nat} {e : TypeId} {s : Nat} {a : Option Addr} {l c : Nat} {xs : List Value} (t : Nat) (hs : Sl w' e s a l c xs) (hf : Fresh w a) : SlT w' (ext ow w.heap.size t) e s a l c xs t := ⟨hs, fun k hk => ext_new (hf k hk)⟩

theorem own_c {w : World} {r : RV} {m : Mm} {R : Ending → World → Prop} (hi : LiIn w m r.live r.dirty) (hl : m.ll ≤ 1000) (hd : m.dl ≤ 1000) (h : ∀ m' w' ow, Kp no w w' → Old w w' ow → Ls w' ow r m' → R (.returned (.agg (r.ca m'))) w') : GoC Try.prog F_ref05_Own #[.agg (r.ca m)] w R := by
  refine S_ref05_Own ?_
  unfold W_ref05_Own
  have hll := hi.ll
  have hdl := hi.dl
  obtain ⟨nl, nd⟩ := hi.nl
  refine AlF.intro fun b1 w1 hb1e hb1 k1 _ => AlF.intro fun b2 w2 hb2e hb2 k2 _ => ?_
  have f1 : Fro (fun _ => True) w (fun _ => 0) w1 (ext (fun _ => 0) w.heap.size 2) := Fro.of_kp0 2 k1
  have f2 : Fro (fun _ => True) w1 (ext (fun _ => 0) w.heap.size 2) w2 (ext (ext (fun _ => 0) w.heap.size 2) w1.heap.size 1) := Fro.of_kp0 1 k2
  have o0 : Old w w fun _ => 0 := ⟨Kp.refl _ _, fun _ _ => rfl⟩
  have bx : Bx w w2 (ext (ext (fun _ => 0) w.heap.size 2) w1.heap.size 1) b2 b1 r m := by
    obtain ⟨a, b⟩ := blk_fr hb1 (ext_new (by omega) : ext (fun _ => 0) w.heap.size 2 b1 = 2) f2 trivial
    exact ⟨(o0.fr f1 trivial).fr f2 trivial, hb2, ext_new (by omega), a, b⟩
  generalize ext (ext (fun _ => 0) w.heap.size 2) w1.heap.size 1 = ow at bx
  refine ⟨_, _, _, bx.x2.at rfl rfl, append_new er_lv (hi.kp0 bx.old.kp).l (by rw [flatV_len LV.csl, hll]) nl (flatV_one LV.cs1 _) (by omega) (by omega) fun a3 c3 w3 hs3 k3 hf3 _ => ⟨_, _, _, rfl, ?_⟩⟩
  have f3 : Fro (fun _ => True) w2 ow w3 (ext ow w2.heap.size 4) := Fro.of_kp0 4 k3
  have hs3 := new_slt (ow := ow) 4 hs3 hf3
  refine (bx.fr f3 trivial trivial trivial).st r { m with la := a3, lc := c3 } rfl (Nat.le_of_ble_eq_true rfl) rfl fun w4 bx4 f4 => ?_
  have hs4 := hs3.fr f4 (by omega)
  generalize ext ow w2.heap.size 4 = ow3 at *
  refine ⟨_, _, _, bx4.x2.at rfl rfl, append_new er_dv (hi.kp0 bx4.old.kp).d (by rw [flatV_len DV.csl, hdl]) nd (flatV_one DV.cs1 _) (by omega) (by omega) fun a5 c5 w5 hs5 k5 hf5 _ => ⟨_, _, _, rfl, ?_⟩⟩
  have f5 : Fro (fun _ => True) w4 ow3 w5 (ext ow3 w4.heap.size 5) := Fro.of_kp0 5 k5
  have hs5 := new_slt (ow := ow3) 5 hs5 hf5
  have hs4 := hs4.fr f5 trivial
  refine (bx4.fr f5 trivial trivial trivial).st r { la := a3, ll := m.ll, lc := c3, da := a5, dl := m.dl, dc := c5 } rfl (Nat.le_of_ble_eq_true rfl) rfl fun w6 bx6 f6 => ?_
  have hs6 := hs4.fr f6 (by omega)
  have hd6 := hs5.fr f6 (by omega)
  refine rec_rd bx6.x2 (rec_st bx6.x1 r { la := a3, ll := m.ll, lc := c3, da := a5, dl := m.dl, dc := c5 } fun w7 hb7 k7 => rec_rd hb7 ?_)
  have f7 : Fro (fun t => t ≠ 1) w6 (ext ow3 w4.heap.size 5) w7 (ext ow3 w4.heap.size 5) := Fro.of_kp' k7 fun b _ hb' hne => hne (by rw [hb']; exact bx6.t1)
  have ho := bx6.old.fr f7 (by omega)
  exact h _ w7 _ ho.kp ho ⟨hs6.fr f7 (by omega), hd6.fr f7 (by omega), hll, hdl⟩

theorem rsame_c {w : World} {r q : RV} {m n : Mm} {R : Ending → World → Prop} (hi : LiIn w m r.live r.dirty) (hj : LiIn w n q.live q.dirty) (h : ∀ w', Kp no w w' → R (.returned (.bool (decide (r = q)))) w') : GoC Try.prog F_ref05_Same #[.agg (r.ca m), .agg (q.ca n)] w R := by
  refine S_ref05_Same ?_
  unfold W_ref05_Same
  have hll := hi.ll
  have hdl := hi.dl
  have hlb := hi.lb
  have hdb := hi.db
  have jll := hj.ll
  have jdl := hj.dl
  refine Loc.al (Kp.refl _ w) fun b1 w1 h1 k1 g1 => Loc.al h1.kp fun b2 w2 h2 k2 g2 => ?_
  have h1 : Loc w w2 b1 (r.ca m) T_api_Record := h1.kp' k2
  have h2 : Loc w w2 b2 (q.ca n) T_api_Record := h2
  have no' : ∀ w', Kp no w w' → r ≠ q → R (.returned (.bool false)) w' := fun w' k hne => by
    have := h w' k
    rw [decide_eq_false hne] at this
    exact this
  have no2 : r ≠ q → R (.returned (.bool false)) w2 := no' w2 h2.kp
  refine ⟨_, h1.at rfl rfl, _, h2.at rfl rfl, cond_ne (fun hne => no2 fun hh => hne (by rw [hh])) (fun c0 => ?_)⟩
  refine ⟨_, h1.at rfl rfl, _, h2.at rfl rfl, cond_ne (fun hne => no2 fun hh => hne (by rw [hh])) (fun c1 => ?_)⟩
  refine ⟨_, h1.at rfl rfl, _, h2.at rfl rfl, cond_ne (fun hne => no2 fun hh => hne (by rw [hh])) (fun c2 => ?_)⟩
  refine ⟨_, h1.at rfl rfl, _, h2.at rfl rfl, cond_ne (fun hne => no2 fun hh => hne (by rw [hh])) (fun c3 => ?_)⟩
  refine ⟨_, _, ⟨h1.at rfl rfl, h1.at rfl rfl, trivial⟩, _, _, ⟨h2.at rfl rfl, h2.at rfl rfl, trivial⟩, cond_not (cond_b (fun c4 => ?_) (fun hne => no2 fun hh => by rw [hh] at hne; simp at hne))⟩
  refine ⟨_, _, ⟨h1.at rfl rfl, h1.at rfl rfl, trivial⟩, _, _, ⟨h2.at rfl rfl, h2.at rfl rfl, trivial⟩, cond_not (cond_b (fun c6 => ?_) (fun hne => no2 fun hh => by rw [hh] at hne; simp at hne))⟩
  refine ⟨_, h1.at rfl rfl, _, h2.at rfl rfl, cond_ne (fun hne => no2 fun hh => hne (by rw [hh])) (fun c8 => ?_)⟩
  refine ⟨_, _, _, _, _, ⟨h1.at rfl rfl, h1.at rfl rfl, h1.at rfl rfl, h1.at rfl rfl, h1.at rfl rfl, trivial⟩, _, _, _, _, _, ⟨h2.at rfl rfl, h2.at rfl rfl, h2.at rfl rfl, h2.at rfl rfl, h2.at rfl rfl, trivial⟩, cond_not (cond_b (fun c9 => ?_) (fun hne => no2 fun hh => by rw [hh] at hne; simp at hne))⟩
  refine ⟨_, h1.at rfl rfl, _, h2.at rfl rfl, cond_ne (fun hne => no2 fun hh => hne (by rw [hh])) (fun c16 => ?_)⟩
  refine ⟨_, _, _, h1.at rfl rfl, _, _, _, h2.at rfl rfl, cond_ne (fun hne => no2 fun hh => hne (by have := congrArg (fun x => x.live.length) hh; omega)) (fun c14 => ?_)⟩
  refine ⟨_, _, _, h1.at rfl rfl, _, _, _, h2.at rfl rfl, cond_ne (fun hne => no2 fun hh => hne (by have := congrArg (fun x => x.dirty.length) hh; omega)) (fun c15 => ?_)⟩
  have el : r.live.length = q.live.length := by omega
  have ed : r.dirty.length = q.dirty.length := by omega
  refine loopN (fun s w3 => Kp no w2 w3 ∧ ∃ k : Nat, k ≤ r.live.length ∧ s.1 = (k : Int) ∧ r.live.take k = q.live.take k) (fun s _ => r.live.length - s.1.toNat) ⟨Kp.refl _ _, 0, Nat.zero_le _, rfl, rfl⟩ ?_
  rintro ⟨k0, u⟩ w3 ⟨k3, k, hk, hk0, ht⟩ _
  dsimp only at hk0 ⊢
  subst hk0
  have h13 := h1.kp' k3
  have h23 := h2.kp' k3
  refine ⟨_, _, _, h13.at rfl rfl, cond_d (fun hlt => ?_) (fun hge => ?_)⟩
  · have hkl : k < r.live.length := by omega
    have hkq : k < q.live.length := by omega
    refine ⟨_, _, _, h13.at rfl rfl, rd_el LV.csl (by omega) (hi.kp0 h13.kp).l hkl hll fun b o ha hc => ?_⟩
    have cell : ∀ j v, (r.live[k]).cs[j]? = some v → w3.cell? (Addr.add ((⟨b, o, none⟩ : Addr).add (Int.toNat (k : Int) * 4)) j) = some v := fun j v hv => by
      rw [Int.toNat_natCast, add_at, add_at]; exact hc j v hv
    have cell0 : w3.cell? ((⟨b, o, none⟩ : Addr).add (Int.toNat (k : Int) * 4)) = some (.int .i64 (r.live[k]).tx) := by
      rw [Int.toNat_natCast, add_at]; exact hc 0 _ rfl
    refine ⟨_, _, _, _, ⟨cell0, cell 1 _ rfl, cell 2 _ rfl, cell 3 _ rfl, trivial⟩, ?_⟩
    refine ⟨_, _, _, h23.at rfl rfl, rd_el LV.csl (by omega) (hj.kp0 h23.kp).l hkq jll fun b' o' ha' hc' => ?_⟩
    have cell' : ∀ j v, (q.live[k]).cs[j]? = some v → w3.cell? (Addr.add ((⟨b', o', none⟩ : Addr).add (Int.toNat (k : Int) * 4)) j) = some v := fun j v hv => by
      rw [Int.toNat_natCast, add_at, add_at]; exact hc' j v hv
    have cell0' : w3.cell? ((⟨b', o', none⟩ : Addr).add (Int.toNat (k : Int) * 4)) = some (.int .i64 (q.live[k]).tx) := by
      rw [Int.toNat_natCast, add_at]; exact hc' 0 _ rfl
    refine ⟨_, _, _, _, ⟨cell0', cell' 1 _ rfl, cell' 2 _ rfl, cell' 3 _ rfl, trivial⟩, fun kk => ?_⟩
    refine cond_not (cond_b (fun he => ?_) (fun hne => no' _ ((h13.kp).trans0 (Kp.drew w3 kk)) fun hh => by subst hh; simp at hne))
    have wk : IntKind.wrap .i64 ((k : Int) + 1) = ((k + 1 : Nat) : Int) := by rw [wrap_i64 (by omega) (by omega)]; omega
    refine ⟨⟨k3.trans0 (Kp.drew w3 kk), k + 1, by omega, wk, ?_⟩, by rw [wk]; simp only [Int.toNat_natCast]; omega⟩
    have hx : r.live[k] = q.live[k] := by
      generalize r.live[k] = x at he
      generalize q.live[k] = y at he
      obtain ⟨x1, x2, x3, x4⟩ := x
      obtain ⟨y1, y2, y3, y4⟩ := y
      simp only [Bool.and_true, Bool.and_eq_true, beq_iff_eq] at he
      obtain ⟨e1, e2, e3, e4⟩ := he
      subst e1 e2 e3 e4
      rfl
    rw [take_snoc_get _ k hkl, take_snoc_get _ k hkq, ht, hx]
  have hke : k = r.live.length := by omega
  subst hke
  rw [List.take_length, el, List.take_length] at ht
  refine loopN (fun s w4 => Kp no w2 w4 ∧ ∃ k : Nat, k ≤ r.dirty.length ∧ s.1 = (k : Int) ∧ r.dirty.take k = q.dirty.take k) (fun s _ => r.dirty.length - s.1.toNat) ⟨k3, 0, Nat.zero_le _, rfl, rfl⟩ ?_
  rintro ⟨k0, u⟩ w4 ⟨k4, k, hk, hk0, hd⟩ _
  dsimp only at hk0 ⊢
  subst hk0
  have h14 := h1.kp' k4
  have h24 := h2.kp' k4
  refine ⟨_, _, _, h14.at rfl rfl, cond_d (fun hlt => ?_) (fun hge => ?_)⟩
  · have hkl : k < r.dirty.length := by omega
    have hkq : k < q.dirty.length := by omega
    refine ⟨_, _, _, h14.at rfl rfl, rd_el DV.csl (by omega) (hi.kp0 h14.kp).d hkl hdl fun b o ha hc => ?_⟩
    have cell1 : w4.cell? (Addr.add ((⟨b, o, none⟩ : Addr).add (Int.toNat (k : Int) * 2)) 1) = some (.int .i64 (r.dirty[k]).since) := by
      rw [Int.toNat_natCast, add_at, add_at]; exact hc 1 _ rfl
    have cell0 : w4.cell? ((⟨b, o, none⟩ : Addr).add (Int.toNat (k : Int) * 2)) = some (.int .i64 (r.dirty[k]).page) := by
      rw [Int.toNat_natCast, add_at]; exact hc 0 _ rfl
    refine ⟨_, _, ⟨cell0, cell1, trivial⟩, ?_⟩
    refine ⟨_, _, _, h24.at rfl rfl, rd_el DV.csl (by omega) (hj.kp0 h24.kp).d hkq jdl fun b' o' ha' hc' => ?_⟩
    have cell1' : w4.cell? (Addr.add ((⟨b', o', none⟩ : Addr).add (Int.toNat (k : Int) * 2)) 1) = some (.int .i64 (q.dirty[k]).since) := by
      rw [Int.toNat_natCast, add_at, add_at]; exact hc' 1 _ rfl
    have cell0' : w4.cell? ((⟨b', o', none⟩ : Addr).add (Int.toNat (k : Int) * 2)) = some (.int .i64 (q.dirty[k]).page) := by
      rw [Int.toNat_natCast, add_at]; exact hc' 0 _ rfl
    refine ⟨_, _, ⟨cell0', cell1', trivial⟩, fun kk => ?_⟩
    refine cond_not (cond_b (fun he => ?_) (fun hne => no' _ ((h14.kp).trans0 (Kp.drew w4 kk)) fun hh => by subst hh; simp at hne))
    have wk : IntKind.wrap .i64 ((k : Int) + 1) = ((k + 1 : Nat) : Int) := by rw [wrap_i64 (by omega) (by omega)]; omega
    refine ⟨⟨k4.trans0 (Kp.drew w4 kk), k + 1, by omega, wk, ?_⟩, by rw [wk]; simp only [Int.toNat_natCast]; omega⟩
    have hx : r.dirty[k] = q.dirty[k] := by
      generalize r.dirty[k] = x at he
      generalize q.dirty[k] = y at he
      obtain ⟨x1, x2⟩ := x
      obtain ⟨y1, y2⟩ := y
      simp only [Bool.and_true, Bool.and_eq_true, beq_iff_eq] at he
      obtain ⟨e1, e2⟩ := he
      subst e1 e2
      rfl
    rw [take_snoc_get _ k hkl, take_snoc_get _ k hkq, hd, hx]
  have hke : k = r.dirty.length := by omega
  subst hke
  rw [List.take_length, ed, List.take_length] at hd
  have hrq : r = q := by
    obtain ⟨a0, a1, a2, a3, a4, a5, a6, a7, a8, a9, a10, a11, a12, a13, a14, aL, aD⟩ := r
    obtain ⟨b0, b1, b2, b3, b4, b5, b6, b7, b8, b9, b10, b11, b12, b13, b14, bL, bD⟩ := q
    simp only [Bool.and_true, Bool.and_eq_true, beq_iff_eq] at c0 c1 c2 c3 c4 c6 c8 c9 c16 ht hd
    obtain ⟨c4, c5⟩ := c4
    obtain ⟨c6, c7⟩ := c6
    obtain ⟨c9, c10, ⟨c11, c12⟩, c13⟩ := c9
    subst c0 c1 c2 c3 c4 c5 c6 c7 c8 c9 c10 c11 c12 c13 c16 ht hd
    rfl
  have := h w4 h14.kp
  rw [decide_eq_true hrq] at this
  exact this
end Go.Proofs.Ytjhncijdkmbopaa
