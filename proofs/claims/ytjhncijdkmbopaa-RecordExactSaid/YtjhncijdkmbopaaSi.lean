/- Contracts of the statements' lent and kept of layer 5. Conditions: lists of at most 100. -/
import Derived.Test.YtjhncijdkmbopaaSh
set_option linter.unusedVariables false
set_option linter.unusedSimpArgs false
namespace Go.Proofs.Ytjhncijdkmbopaa
open Go Go.RowKit

/-- Owners of a call's own making. -/
def joinO (ow ow3 : Nat → Nat) (n : Nat) : Nat → Nat := fun k => if k < n then ow k else ow3 k
theorem join_fro {T : Nat → Prop} {w w' : World} {ow ow3 : Nat → Nat} (k : Kp no w w') : Fro T w ow w' (joinO ow ow3 w.heap.size) := Fro.new k fun b hb => if_pos hb
theorem SlT.join {w w' : World} {ow ow3 : Nat → Nat} {e : TypeId} {s l c t : Nat} {a : Option Addr} {xs : List Value} (h : SlT w' ow3 e s a l c xs t) (o : Old w w' ow3) (h0 : t ≠ 0) : SlT w' (joinO ow ow3 w.heap.size) e s a l c xs t :=
  ⟨h.sl, fun k hk => by
    have := fresh_of o h.tg h0 k hk
    unfold joinO
    rw [if_neg (by omega)]
    exact h.tg k hk⟩
/-- .. by another number. -/
theorem SlT.joinT {w w' : World} {ow ow3 : Nat → Nat} {e : TypeId} {s l c t : Nat} {a : Option Addr} {xs : List Value} (h : SlT w' ow3 e s a l c xs t) (o : Old w w' ow3) (h0 : t ≠ 0) (g : Nat → Nat) : SlT w' (joinO ow (fun k => g (ow3 k)) w.heap.size) e s a l c xs (g t) :=
  ⟨h.sl, fun k hk => by
    have := fresh_of o h.tg h0 k hk
    unfold joinO
    rw [if_neg (by omega)]
    exact congrArg g (h.tg k hk)⟩

def mkl : LV := ⟨23130, 0, false, false⟩
def mkd : DV := ⟨23130, 0⟩
/-- Lists that are lent, a mark behind each. -/
structure Lt (w : World) (ow : Nat → Nat) (r : RV) (m : Mm) (t4 t5 : Nat) : Prop where
  lv : SlT w ow T_api_Live 4 m.la (m.ll + 1) m.lc (flatV LV.cs (r.live ++ [mkl])) t4
  dv : SlT w ow T_api_Dirty 2 m.da (m.dl + 1) m.dc (flatV DV.cs (r.dirty ++ [mkd])) t5
  ll : r.live.length = m.ll
  dl : r.dirty.length = m.dl
theorem Lt.fr {T : Nat → Prop} {w w' : World} {ow ow' : Nat → Nat} {r : RV} {m : Mm} {t4 t5 : Nat} (h : Lt w ow r m t4 t5) (F : Fro T w ow w' ow') (h4 : T t4) (h5 : T t5) : Lt w' ow' r m t4 t5 := ⟨h.lv.fr F h4, h.dv.fr F h5, h.ll, h.dl⟩
theorem rd_init {α : Type} {f : α → List Value} {w : World} {a : Option Addr} {L M : List α} (h : Rd w a (flatV f (L ++ M))) : Rd w a (flatV f L) := by
  rw [flatV_app] at h
  have := h.take (flatV f L).length
  rwa [List.take_left] at this
theorem Lt.li {w : World} {ow : Nat → Nat} {r : RV} {m : Mm} {t4 t5 : Nat} (h : Lt w ow r m t4 t5) (hl : m.ll ≤ 1000) (hd : m.dl ≤ 1000) : LiIn w m r.live r.dirty := ⟨rd_init h.lv.sl.rd, h.ll, by omega, rd_init h.dv.sl.rd, h.dl, by omega⟩

set_option maxHeartbeats 1000000 in
theorem lent_c {w : World} {r : RV} {m : Mm} {R : Ending → World → Prop} (hi : LiIn w m r.live r.dirty) (hl : m.ll ≤ 1000) (hd : m.dl ≤ 1000)
    (h : ∀ m' w' ow, Kp no w w' → Old w w' ow → Lt w' ow r m' 4 5 → m'.ll = m.ll → m'.dl = m.dl → R (.returned (.agg (r.ca m'))) w') : GoC Try.prog F_law05_lent #[.agg (r.ca m)] w R := by
  refine S_law05_lent ?_
  unfold W_law05_lent
  have hll := hi.ll
  have hdl := hi.dl
  refine AlF.intro fun b1 w1 hb1e hb1 k1 _ => AlF.intro fun b2 w2 hb2e hb2 k2 _ => ?_
  have f1 : Fro (fun _ => True) w (fun _ => 0) w1 (ext (fun _ => 0) w.heap.size 6) := Fro.of_kp0 6 k1
  have f2 : Fro (fun _ => True) w1 (ext (fun _ => 0) w.heap.size 6) w2 (ext (ext (fun _ => 0) w.heap.size 6) w1.heap.size 1) := Fro.of_kp0 1 k2
  have o0 : Old w w fun _ => 0 := ⟨Kp.refl _ _, fun _ _ => rfl⟩
  have t1 : ext (fun _ => 0) w.heap.size 6 b1 = 6 := ext_new (by omega)
  obtain ⟨x1, t1⟩ := blk_fr hb1 t1 f2 trivial
  have t2 : ext (ext (fun _ => 0) w.heap.size 6) w1.heap.size 1 b2 = 1 := ext_new (by omega)
  have o2 := (o0.fr f1 trivial).fr f2 trivial
  generalize ext (ext (fun _ => 0) w.heap.size 6) w1.heap.size 1 = ow2 at *
  refine rec_rd x1 (own_c (r := r) (m := m) (hi.kp0 o2.kp) (by omega) (by omega) fun m3 w3 owa k3 ho3 hL3 => ⟨_, _, _, _, _, _, _, _, _, _, _, _, _, _, _, _, _, _, _, _, _, rfl, ?_⟩)
  have f3 : Fro (fun _ => True) w2 ow2 w3 (joinO ow2 owa w2.heap.size) := join_fro k3
  have lv3 := hL3.lv.join (ow := ow2) ho3 (by omega)
  have dv3 := hL3.dv.join (ow := ow2) ho3 (by omega)
  have l3 := hL3.ll
  have d3 := hL3.dl
  obtain ⟨x1, t1⟩ := blk_fr x1 t1 f3 trivial
  obtain ⟨x2, t2⟩ := blk_fr hb2 t2 f3 trivial
  have o3 := o2.fr f3 trivial
  generalize joinO ow2 owa w2.heap.size = ow3 at *
  clear hL3 ho3 f1 f2 f3 hb1 hb2
  refine rec_cp r m3 fun b3 w4 h4 => ?_
  have f4 : Fro (fun _ => True) w3 ow3 w4 (ext ow3 w3.heap.size 2) := Fro.of_kp0 2 h4.kp
  have t4 : ext ow3 w3.heap.size 2 b3 = 2 := ext_new h4.nw
  obtain ⟨x1, t1⟩ := blk_fr x1 t1 f4 trivial
  obtain ⟨x2, t2⟩ := blk_fr x2 t2 f4 trivial
  have o4 := o3.fr f4 trivial
  have lv4 := lv3.fr f4 trivial
  have dv4 := dv3.fr f4 trivial
  generalize ext ow3 w3.heap.size 2 = ow4 at *
  have bx : Bx w w4 ow4 b2 b3 r m3 := ⟨o4, x2, t2, h4.blk, t4⟩
  clear f4 lv3 dv3 x2 t2 t4 o4 o3 o2
  -- the live ones
  have fd : Fro (fun _ => True) w4 ow4 w4.drew ow4 := Fro.of_kp' (Kp.drew w4 1) fun _ _ hh => hh.elim
  refine ⟨fun w' => ∃ ow', Fro (fun u => u = 2 ∨ u = 6) w4 ow4 w' ow', ⟨ow4, fd.mono fun _ _ => trivial⟩, _, _, _, fun w' ⟨ow', f'⟩ => (blk_fr bx.x2 bx.t2 f' (.inl rfl)).1.at rfl rfl, _, _, _, fun w' ⟨ow', f'⟩ => (blk_fr x1 t1 f' (.inr rfl)).1.at rfl rfl, ?_⟩
  refine AlF.intro fun b4 w5 hb4e hb4 k5 _ => ?_
  have f5 : Fro (fun _ => True) w4.drew ow4 w5 (ext ow4 w4.drew.heap.size 9) := Fro.of_kp0 9 k5
  have f5 := fd.trans f5
  generalize ext ow4 w4.drew.heap.size 9 = ow5 at *
  refine ⟨⟨_, f5.mono fun _ _ => trivial⟩, ?_⟩
  refine app_c er_lv (lv4.fr f5 trivial) (rd_cells hb4 (xs := mkl.cs) rfl) (by rw [LV.csl]) (fun hh => by cases hh) (LV.cs1 _) (by omega) (by omega) fun a6 c6 w6 hs6 _ f6 => ⟨a6, _, c6, rfl, ?_⟩
  have f6 := (f5.mono fun u (_ : u ≠ 4) => trivial).trans f6
  generalize ext ow5 w5.heap.size 4 = ow6 at *
  refine ⟨⟨_, f6.mono fun u hu => by omega⟩, ?_⟩
  have hc6 := hs6.sl.2.1
  refine ⟨⟨by omega, by omega⟩, trivial, ?_⟩
  rw [subA_zero, Int.toNat_natCast]
  refine (bx.fr f6 (by omega) (by omega) (by omega)).st r { m3 with la := a6, ll := m.ll, lc := c6 } rfl (Nat.le_of_ble_eq_true rfl) rfl fun w7 bx7 f7 => ?_
  have f67 := (f6.mono fun u (hu : u ≠ 4 ∧ u ≠ 2) => hu.1).trans (f7.mono fun u hu => hu.2)
  have lv7 := hs6.fr f7 (by omega)
  have dv7 := dv4.fr f67 (by omega)
  obtain ⟨x1, t1⟩ := blk_fr x1 t1 f67 (by omega)
  have e7 : flatV LV.cs r.live ++ mkl.cs = flatV LV.cs (r.live ++ [mkl]) := by rw [flatV_app]; simp [flatV]
  rw [e7, ← l3, hll] at lv7
  clear f5 f6 f7 f67 fd hs6 bx lv4 dv4 hb4
  -- the dirty ones
  have fd : Fro (fun _ => True) w7 ow6 w7.drew ow6 := Fro.of_kp' (Kp.drew w7 1) fun _ _ hh => hh.elim
  refine ⟨fun w' => ∃ ow', Fro (fun u => u = 2 ∨ u = 6) w7 ow6 w' ow', ⟨ow6, fd.mono fun _ _ => trivial⟩, _, _, _, fun w' ⟨ow', f'⟩ => (blk_fr bx7.x2 bx7.t2 f' (.inl rfl)).1.at rfl rfl, _, _, _, fun w' ⟨ow', f'⟩ => (blk_fr x1 t1 f' (.inr rfl)).1.at rfl rfl, ?_⟩
  refine AlF.intro fun b5 w8 hb5e hb5 k8 _ => ?_
  have f8 : Fro (fun _ => True) w7.drew ow6 w8 (ext ow6 w7.drew.heap.size 9) := Fro.of_kp0 9 k8
  have f8 := fd.trans f8
  generalize ext ow6 w7.drew.heap.size 9 = ow8 at *
  refine ⟨⟨_, f8.mono fun _ _ => trivial⟩, ?_⟩
  refine app_c er_dv (dv7.fr f8 trivial) (rd_cells hb5 (xs := mkd.cs) rfl) (by rw [DV.csl]) (fun hh => by cases hh) (DV.cs1 _) (by omega) (by omega) fun a9 c9 w9 hs9 _ f9 => ⟨a9, _, c9, rfl, ?_⟩
  have f9 := (f8.mono fun u (_ : u ≠ 5) => trivial).trans f9
  generalize ext ow8 w8.heap.size 5 = ow9 at *
  refine ⟨⟨_, f9.mono fun u hu => by omega⟩, ?_⟩
  have hc9 := hs9.sl.2.1
  refine ⟨⟨by omega, by omega⟩, trivial, ?_⟩
  rw [subA_zero, Int.toNat_natCast]
  refine (bx7.fr f9 (by omega) (by omega) (by omega)).st r { la := a6, ll := m.ll, lc := c6, da := a9, dl := m.dl, dc := c9 } rfl (Nat.le_of_ble_eq_true rfl) rfl fun w10 bx10 f10 => ?_
  have f910 := (f9.mono fun u (hu : u ≠ 5 ∧ u ≠ 2) => hu.1).trans (f10.mono fun u hu => hu.2)
  have lv10 := lv7.fr f910 (by omega)
  have dv10 := hs9.fr f10 (by omega)
  have e10 : flatV DV.cs r.dirty ++ mkd.cs = flatV DV.cs (r.dirty ++ [mkd]) := by rw [flatV_app]; simp [flatV]
  rw [e10, ← d3, hdl] at dv10
  refine rec_rd bx10.x2 (rec_st bx10.x1 r { la := a6, ll := m.ll, lc := c6, da := a9, dl := m.dl, dc := c9 } fun w11 hb11 k11 => rec_rd hb11 ?_)
  have f11 : Fro (fun t => t ≠ 1) w10 ow9 w11 ow9 := Fro.of_kp' k11 fun b _ hb' hne => hne (by rw [hb']; exact bx10.t1)
  have ho := bx10.old.fr f11 (by omega)
  exact h { la := a6, ll := m.ll, lc := c6, da := a9, dl := m.dl, dc := c9 } w11 ow9 ho.kp ho ⟨lv10.fr f11 (by omega), dv10.fr f11 (by omega), hll, hdl⟩ rfl rfl

theorem kept_c {w : World} {r : RV} {mo m : Mm} {R : Ending → World → Prop} (hl : Rd w mo.la (flatV LV.cs (r.live ++ [mkl]))) (hd : Rd w mo.da (flatV DV.cs (r.dirty ++ [mkd]))) (hll : r.live.length = mo.ll) (hdl : r.dirty.length = mo.dl) (hlc : mo.ll + 1 ≤ mo.lc) (hdc : mo.dl + 1 ≤ mo.dc)
    (hi : LiIn w m r.live r.dirty) (hb : mo.ll ≤ 1000) (hb' : mo.dl ≤ 1000) (h : ∀ w', Kp no w w' → R (.returned (.bool true)) w') : GoC Try.prog F_law05_kept #[.agg (r.ca mo), .agg (r.ca m)] w R := by
  refine S_law05_kept ?_
  unfold W_law05_kept
  have hml := hi.ll
  have hmd := hi.dl
  refine AlF.intro fun b1 w1 hb1e hb1 k1 _ => AlF.intro fun b2 w2 hb2e hb2 k2 _ => ?_
  have x1 := k2.blk hb1 id
  refine ⟨_, _, _, x1.at rfl rfl, _, _, _, hb2.at rfl rfl, ?_⟩
  have e1 : IntKind.wrap .i64 ((m.ll : Int) + 1) = ((mo.ll + 1 : Nat) : Int) := by rw [wrap_i64 (by omega) (by omega)]; omega
  have e2 : IntKind.wrap .i64 ((m.dl : Int) + 1) = ((mo.dl + 1 : Nat) : Int) := by rw [wrap_i64 (by omega) (by omega)]; omega
  rw [e1]
  clear e1
  refine ⟨⟨by omega, by omega⟩, trivial, ?_⟩
  refine ⟨_, _, _, x1.at rfl rfl, _, _, _, hb2.at rfl rfl, ?_⟩
  rw [e2]
  clear e2
  refine ⟨⟨by omega, by omega⟩, trivial, ?_⟩
  have k12 := k1.trans0 k2
  have hl2 := hl.kp0 k12
  have hd2 := hd.kp0 k12
  refine rec_rd x1 (rec_rd hb2 (rsame_c (r := r) (q := r) (m := mo) (n := m) ⟨rd_init hl2, hll, by omega, rd_init hd2, hdl, by omega⟩ (hi.kp0 k12) fun w3 k3 => ⟨_, rfl, ?_⟩))
  rw [decide_eq_true rfl]
  have hl3 := hl2.kp0 k3
  have hd3 := hd2.kp0 k3
  rw [subA_zero, subA_zero, Int.toNat_natCast, Int.toNat_natCast]
  refine ⟨_, _, _, (k3.blk hb2 id).at rfl rfl, ?_⟩
  have q1 : (r.live ++ [mkl]).length = mo.ll + 1 := by simp [hll]
  have q2 : (r.dirty ++ [mkd]).length = mo.dl + 1 := by simp [hdl]
  have g1 : ∀ h, (r.live ++ [mkl])[m.ll]'h = mkl := fun h => by
    rw [List.getElem_append_right (by omega)]
    simp
  have g2 : ∀ h, (r.dirty ++ [mkd])[m.dl]'h = mkd := fun h => by
    rw [List.getElem_append_right (by omega)]
    simp
  refine rd_el LV.csl (by omega) hl3 (k := m.ll) (by omega) q1 fun b o ha hc => ⟨23130, ?_, cond_t rfl ?_⟩
  · rw [Int.toNat_natCast, add_at]
    exact hc 0 _ (by rw [g1]; rfl)
  refine ⟨_, _, _, (k3.blk hb2 id).at rfl rfl, ?_⟩
  refine rd_el DV.csl (by omega) hd3 (k := m.dl) (by omega) q2 fun b o ha hc => ⟨23130, ?_, ?_⟩
  · rw [Int.toNat_natCast, add_at]
    exact hc 0 _ (by rw [g2]; rfl)
  exact h w3 (k12.trans0 k3)
end Go.Proofs.Ytjhncijdkmbopaa
