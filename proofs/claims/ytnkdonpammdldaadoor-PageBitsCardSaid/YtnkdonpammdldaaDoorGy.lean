/- The contracts of the document's pick and Made, and of the statements' own right. Conditions: none. -/
import Derived.Test.YtnkdonpammdldaaDoorGv
import Derived.Test.YtnkdonpammdldaaDoorLx
set_option linter.unusedVariables false
set_option linter.unusedSimpArgs false
namespace Go.Proofs.YtnkdonpammdldaaDoor
open Go Go.RowKit

theorem pick_c {w : World} {n lo hi : Int} {R : Ending → World → Prop} (h0 : 0 ≤ lo) (h1 : lo ≤ hi) (h2 : hi ≤ 2147483647) (h : ∀ r : Int, lo ≤ r → r ≤ hi → R (.returned (.int .i64 r)) w) : GoC Tryd.prog F_ref07_pick #[.int .i64 n, .int .i64 lo, .int .i64 hi] w R := by
  refine S_ref07_pick ?_
  unfold W_ref07_pick
  have e1 : IntKind.wrap .i64 (hi - lo) = hi - lo := wrap_i64 (by omega) (by omega)
  have e2 : IntKind.wrap .i64 (hi - lo + 1) = hi - lo + 1 := wrap_i64 (by omega) (by omega)
  rw [e1, e2]
  have hm : 0 < hi - lo + 1 := by omega
  have b1 := Int.tmod_lt_of_pos n hm
  have b2 := Int.lt_tmod_of_pos n hm
  generalize Int.tmod n (hi - lo + 1) = k at *
  refine ⟨by omega, cond_d (fun hk => ?_) (fun hk => ?_)⟩
  · rw [wrap_i64 (x := k + hi) (by omega) (by omega), wrap_i64 (x := k + hi - lo) (by omega) (by omega), wrap_i64 (x := k + hi - lo + 1) (by omega) (by omega), wrap_i64 (by omega) (by omega)]
    exact h _ (by omega) (by omega)
  · rw [wrap_i64 (by omega) (by omega)]
    exact h _ (by omega) (by omega)

theorem StF.at {w : World} {b i : Nat} {ad : Addr} {cs : Array Value} {T : TypeId} {v : Value} {K : World → Prop} (had : ad = ⟨b, i, none⟩) (hb : Blk w b cs T) (hi : i < cs.size)
    (h : ∀ w', Blk w' b (cs.setIfInBounds i v) T → Kp (fun k => k = b) w w' → w'.heap.size = w.heap.size → K w') : StF w ad v K := by
  subst had
  exact StF.intro hb hi h
theorem add2_at (b n m : Nat) : Addr.add (Addr.add ⟨b, 0, none⟩ n) m = ⟨b, 0 + n + m, none⟩ := by rw [add_at, add_at]

def rtC (c : CL) : Prop := faultC c = 0 ∧ c.Ok
def rtG (g : GL) : Prop := faultG g = 0 ∧ g.Ok
def CL.ca (c : CL) : Array Value := #[.int .i64 c.id, .int .i64 c.grp, .int .i64 c.lo, .int .i64 c.hi, .int .i64 c.val]
def GL.ca (g : GL) : Array Value := #[.int .i64 g.id, .int .i64 g.sum]
theorem rtC_of {i g lo hi v : Int} (h1 : 1 ≤ i ∧ i ≤ 1048576) (h2 : 1 ≤ g ∧ g ≤ 1048576) (h3 : lo ≤ hi) (h4 : In64 lo) (h5 : In64 hi) (h6 : In64 v) : rtC ⟨i, g, lo, hi, v⟩ := by
  refine ⟨?_, ⟨by unfold In64; dsimp only; omega, by unfold In64; dsimp only; omega, h4, h5, h6⟩⟩
  unfold faultC
  rw [if_pos ⟨h1, h2⟩, if_neg (by dsimp only; omega)]
theorem rtG_of {i v : Int} (h1 : 1 ≤ i ∧ i ≤ 1048576) (h6 : In64 v) : rtG ⟨i, v⟩ := by
  refine ⟨?_, ⟨by unfold In64; dsimp only; omega, h6⟩⟩
  unfold faultG
  exact if_pos h1

/-- A right page with lists of its own. -/
structure MadeR (w : World) (q : PgV) (cs : List CL) (gs : List GL) (w' : World) : Prop where
  right : Right q.num q.lsn cs gs
  c : ∀ x ∈ cs, x.Ok
  g : ∀ x ∈ gs, x.Ok
  own : q.Own w' cs gs
  kp : Kp no w w'
  fc : Fresh w q.ca
  fg : Fresh w q.ga
  one : q.ca = none ∨ q.ga = none

theorem made_c {w : World} {p : PgV} {cs : List CL} {gs : List GL} {R : Ending → World → Prop} (hp : p.In w cs gs) (hcok : ∀ x ∈ cs, x.Ok) (hgok : ∀ x ∈ gs, x.Ok)
    (h : ∀ (q : PgV) (cs' : List CL) (gs' : List GL) w', MadeR w q cs' gs' w' → R (.returned (.agg q.cs)) w') : GoC Tryd.prog F_ref07_Made #[.agg p.cs] w R := by
  refine S_ref07_Made ?_
  unfold W_ref07_Made
  have hcl := hp.cl
  have hgl := hp.gl
  have hcb := hp.cb
  have hgb := hp.gb
  refine AlF.intro fun b1 w1 hb1e hb1 k1 s1 => AlF.intro fun b2 w2 hb2e hb2 k2 s2 => ?_
  have hbp : Blk w2 b1 p.cs T_quotaref07_Page := k2.blk (show Blk w1 b1 p.cs T_quotaref07_Page from hb1) id
  refine ⟨_, pc0 hbp, pick_c (by omega) (by omega) (by omega) fun r hr1 hr2 => ⟨_, rfl, ?_⟩⟩
  refine AlF.intro fun b3 w4 hb3e hb3 k4 s4 => st4 hb3 rfl fun w8 hb38 k8 s8 => ?_
  have k02 := k1.trans0 k2
  have k08 : Kp no w w8 := kp_blk (k02.trans0 k4) (by omega) k8
  have k28 : Kp no w2 w8 := kp_blk k4 (by omega) k8
  have hbp8 := k28.blk hbp id
  have hb28 := k28.blk hb2 id
  have hsz8 : w8.heap.size = b3 + 1 := by omega
  have hin : ∀ w', Kp (fun j => j = b3) w8 w' → Kp no w w' := fun w' kz => k08.trans kz (fun _ _ h => h) fun j hj hh => by omega
  refine ⟨fun _ w' => ∃ (pg : PgV) (cs' : List CL), Kp (fun j => j = b3) w8 w' ∧ Blk w' b3 pg.cs T_quotaref07_Page ∧ pg.num = r ∧ pg.lsn = 0 ∧ pg.Own w' cs' [] ∧ cs'.length ≤ 31 ∧ (∀ c ∈ cs', rtC c) ∧ Fresh w8 pg.ca ∧ pg.ga = none ∧ (cs'.length = 0 → pg.ca = none), ?_, ?_⟩
  · refine loopN (fun s w' => ∃ (k : Nat) (pg : PgV) (cs' : List CL), k ≤ cs.length ∧ s.1 = (k : Int) ∧ k ≤ 31 ∧ Kp (fun j => j = b3) w8 w' ∧ Blk w' b3 pg.cs T_quotaref07_Page ∧ pg.num = r ∧ pg.lsn = 0 ∧ pg.Own w' cs' [] ∧ cs'.length = k ∧ (∀ c ∈ cs', rtC c) ∧ Fresh w8 pg.ca ∧ pg.ga = none ∧ (cs'.length = 0 → pg.ca = none)) (fun s _ => cs.length - s.1.toNat)
      ⟨0, ⟨r, 0, none, 0, 0, none, 0, 0⟩, [], Nat.zero_le _, rfl, by omega, Kp.refl _ _, hb38, rfl, rfl, ⟨Sl.nil _ _ _, Nat.zero_lt_succ _, Sl.nil _ _ _, Nat.zero_lt_succ _⟩, rfl, (fun c hc => by cases hc), fresh_none _, rfl, fun _ => rfl⟩ ?_
    rintro ⟨k0, u⟩ w9 ⟨k, pg, cs', hk, hk0, hk31, k9, hb9, hnum, hlsn, hown, hlen, hok, fca, hga, hz⟩ _
    dsimp only at hk0 ⊢
    subst hk0
    have hbp9 := k9.blk hbp8 (by omega)
    have fin : ∃ (pg : PgV) (cs' : List CL), Kp (fun j => j = b3) w8 w9 ∧ Blk w9 b3 pg.cs T_quotaref07_Page ∧ pg.num = r ∧ pg.lsn = 0 ∧ pg.Own w9 cs' [] ∧ cs'.length ≤ 31 ∧ (∀ c ∈ cs', rtC c) ∧ Fresh w8 pg.ca ∧ pg.ga = none ∧ (cs'.length = 0 → pg.ca = none) := ⟨pg, cs', k9, hb9, hnum, hlsn, hown, by omega, hok, fca, hga, hz⟩
    refine ⟨_, _, _, pc2 hbp9, cond_d (fun hlt => cond_d (fun hlt31 => ?_) (fun _ => fin)) (fun _ => fin)⟩
    have hkl : k < cs.length := by omega
    have hkw : IntKind.wrap .i64 ((k : Int) + 1) = ((k + 1 : Nat) : Int) := by rw [wrap_i64 (by omega) (by omega)]; omega
    rw [hkw]
    have hco := hcok cs[k] (List.getElem_mem hkl)
    refine ⟨_, _, _, pc2 hbp9, ctrI (hp.kp0 (hin _ k9)).c hkl hcl rfl ?_⟩
    generalize cs[k] = c at hco
    refine AlF.intro fun b4 w10 hb4e hb4 k10 s10 => st5 hb4 rfl fun w15 hb15 k15 s15 => ?_
    refine ⟨_, hb15.cell 0, pick_c (by omega) (by omega) (by omega) fun i hi1 hi2 => ⟨_, rfl, ?_⟩⟩
    refine StF.at rfl hb15 (by simp) fun w17 hb17 k17 s17 => ?_
    have hb17' : Blk w17 b4 #[.int .i64 i, .int .i64 c.grp, .int .i64 c.lo, .int .i64 c.hi, .int .i64 c.val] T_api_Counter := hb17
    refine ⟨_, by rw [add_at]; exact hb17'.cell 1, pick_c (by omega) (by omega) (by omega) fun g hg1 hg2 => ⟨_, rfl, ?_⟩⟩
    refine StF.at (add_at _ _ _) hb17' (by simp) fun w19 hb19 k19 s19 => ?_
    have hb19' : Blk w19 b4 #[.int .i64 i, .int .i64 g, .int .i64 c.lo, .int .i64 c.hi, .int .i64 c.val] T_api_Counter := hb19
    have k1019 : Kp (fun j => j = b4) w10 w19 := (k15.trans0 k17).trans0 k19
    refine ⟨fun _ w' => ∃ c' : CL, rtC c' ∧ Blk w' b4 c'.ca T_api_Counter ∧ Kp (fun j => j = b4) w10 w' ∧ w'.heap.size = w10.heap.size, ?_, ?_⟩
    · refine ⟨c.lo, by rw [add_at]; exact hb19'.cell 2, c.hi, by rw [add2_at]; exact hb19'.cell 3, cond_d (fun hgt => ?_) (fun hle => ?_)⟩
      · refine ⟨c.hi, by rw [add2_at]; exact hb19'.cell 3, c.lo, by rw [add_at]; exact hb19'.cell 2, ?_⟩
        refine StF.at (add_at _ _ _) hb19' (by simp) fun w20 hb20 k20 s20 => ?_
        have hb20' : Blk w20 b4 #[.int .i64 i, .int .i64 g, .int .i64 c.hi, .int .i64 c.hi, .int .i64 c.val] T_api_Counter := hb20
        refine StF.at (add2_at _ _ _) hb20' (by simp) fun w21 hb21 k21 s21 => ?_
        have hb21' : Blk w21 b4 #[.int .i64 i, .int .i64 g, .int .i64 c.hi, .int .i64 c.lo, .int .i64 c.val] T_api_Counter := hb21
        exact ⟨⟨i, g, c.hi, c.lo, c.val⟩, rtC_of ⟨hi1, hi2⟩ ⟨hg1, hg2⟩ (by omega) hco.hi hco.lo hco.val, hb21', (k1019.trans0 k20).trans0 k21, by omega⟩
      · exact ⟨⟨i, g, c.lo, c.hi, c.val⟩, rtC_of ⟨hi1, hi2⟩ ⟨hg1, hg2⟩ (by omega) hco.lo hco.hi hco.val, hb19', k1019, by omega⟩
    rintro u10 w22 ⟨c', hc', hb22, k22, s22⟩ _
    have k922 : Kp no w9 w22 := kp_blk k10 (by omega) k22
    have hb322 := k922.blk hb9 id
    refine ⟨_, _, _, pc2 hb322, c'.id, c'.grp, c'.lo, c'.hi, c'.val, ⟨hb22.cell 0, by rw [add_at]; exact hb22.cell 1, by rw [add_at]; exact hb22.cell 2, by rw [add_at]; exact hb22.cell 3, by rw [add_at]; exact hb22.cell 4, trivial⟩, ?_⟩
    refine AlF.intro fun b5 w23 hb5e hb5 k23 s23 => ?_
    have k923 := k922.trans0 k23
    have nin : ∀ j, Is pg.ca j → w8.heap.size ≤ j := fca
    have hcl' := hown.cl
    refine append_own er_ctr (hown.c.kp0 k923) (rd_cells (xs := c'.cs) hb5 rfl) rfl (fun h => by cases h) (fun u hu => by simp only [CL.cs, List.mem_cons, List.not_mem_nil, or_false] at hu; rcases hu with rfl | rfl | rfl | rfl | rfl <;> rfl) (by omega) (by omega) fun a' c0 w24 hs24 k24 hi24 _ _ => ⟨_, _, _, rfl, ?_⟩
    have hb324 : Blk w24 b3 pg.cs T_quotaref07_Page := k24.blk (k923.blk hb9 id) fun hh => by have := nin _ hh; omega
    refine StF.at (add_at _ _ _) hb324 (by simp [PgV.cs]) fun w25 hb25 k25 s25 => ⟨⟨k + 1, { pg with ca := a', cl := pg.cl + 1, cc := c0 }, cs' ++ [c'], by omega, rfl, by omega, ?_, hb25, hnum, hlsn, ?_, by simp [hlen], ?_, ?_, hga, fun h => by simp at h⟩, by simp only [Int.toNat_natCast]; omega⟩
    · exact (((k9.trans0 k923.of_no).trans k24 (fun _ _ h => h) fun j hj hh => by have := nin j hh; omega).trans0 k25)
    · refine Own_push_c (hs24.kp k25 fun j hj hh => ?_) (by omega) (((hown.g.kp0 k923).kp k24 fun j hj => by rw [hga] at hj; exact (is_none hj).elim).kp k25 fun j hj => by rw [hga] at hj; exact (is_none hj).elim) hown.gb
      rcases hi24 j hj with h | h
      · have := nin j h; omega
      · have := k923.size; have := k9.size; omega
    · intro x hx
      rcases List.mem_append.1 hx with hx | hx
      · exact hok x hx
      · rw [List.mem_singleton] at hx; subst hx; exact hc'
    · intro j hj
      rcases hi24 j hj with h | h
      · exact nin j h
      · have := k923.size; have := k9.size; omega
  rintro u11 w26 ⟨pg, cs', k26, hb26, hnum, hlsn, hown, hlen, hok, fca, hga, hz⟩ _
  have hcl' := hown.cl
  have hgl0 := hown.gl
  refine ⟨fun _ w' => ∃ (pg : PgV) (gs' : List GL), Kp (fun j => j = b3) w8 w' ∧ Blk w' b3 pg.cs T_quotaref07_Page ∧ pg.num = r ∧ pg.lsn = 0 ∧ pg.Own w' cs' gs' ∧ gs'.length ≤ 84 ∧ (∀ c ∈ gs', rtG c) ∧ Fresh w8 pg.ca ∧ Fresh w8 pg.ga ∧ (cs'.length = 0 → pg.ca = none) ∧ (cs'.length ≠ 0 → pg.ga = none ∧ gs' = []), ?_, ?_⟩
  · refine loopN (fun s w' => ∃ (k : Nat) (pg : PgV) (gs' : List GL), k ≤ gs.length ∧ s.1 = (k : Int) ∧ k ≤ 84 ∧ Kp (fun j => j = b3) w8 w' ∧ Blk w' b3 pg.cs T_quotaref07_Page ∧ pg.num = r ∧ pg.lsn = 0 ∧ pg.Own w' cs' gs' ∧ gs'.length = k ∧ (∀ c ∈ gs', rtG c) ∧ Fresh w8 pg.ca ∧ Fresh w8 pg.ga ∧ (cs'.length = 0 → pg.ca = none) ∧ (cs'.length ≠ 0 → pg.ga = none ∧ gs' = [])) (fun s _ => gs.length - s.1.toNat)
      ⟨0, pg, [], Nat.zero_le _, rfl, by omega, k26, hb26, hnum, hlsn, hown, rfl, (fun c hc => by cases hc), fca, (by rw [hga]; exact fresh_none _), hz, fun _ => ⟨hga, rfl⟩⟩ ?_
    rintro ⟨k0, u⟩ w27 ⟨k, pg, gs', hk, hk0, hk84, k27, hb27, hnum, hlsn, hown, hglen, hokg, fca, fga, hz, hnz⟩ _
    dsimp only at hk0 ⊢
    subst hk0
    have hbp27 := k27.blk hbp8 (by omega)
    have hcl'' := hown.cl
    have fin : ∃ (pg : PgV) (gs' : List GL), Kp (fun j => j = b3) w8 w27 ∧ Blk w27 b3 pg.cs T_quotaref07_Page ∧ pg.num = r ∧ pg.lsn = 0 ∧ pg.Own w27 cs' gs' ∧ gs'.length ≤ 84 ∧ (∀ c ∈ gs', rtG c) ∧ Fresh w8 pg.ca ∧ Fresh w8 pg.ga ∧ (cs'.length = 0 → pg.ca = none) ∧ (cs'.length ≠ 0 → pg.ga = none ∧ gs' = []) := ⟨pg, gs', k27, hb27, hnum, hlsn, hown, by omega, hokg, fca, fga, hz, hnz⟩
    refine ⟨_, _, _, pc3 hbp27, cond_d (fun hlt => cond_d (fun hlt84 => ⟨_, _, _, pc2 hb27, cond_eq (fun hc0 => ?_) (fun _ => fin)⟩) (fun _ => fin)) (fun _ => fin)⟩
    have hcs0 : cs'.length = 0 := by omega
    have hcan := hz hcs0
    have hkl : k < gs.length := by omega
    have hkw : IntKind.wrap .i64 ((k : Int) + 1) = ((k + 1 : Nat) : Int) := by rw [wrap_i64 (by omega) (by omega)]; omega
    rw [hkw]
    have hgo := hgok gs[k] (List.getElem_mem hkl)
    refine ⟨_, _, _, pc3 hbp27, grpI (hp.kp0 (hin _ k27)).g hkl hgl rfl ?_⟩
    generalize gs[k] = c at hgo
    refine AlF.intro fun b6 w28 hb6e hb6 k28' s28 => ?_
    refine StF.at rfl hb6 (by simp) fun w29 hb29 k29 s29 => ?_
    refine StF.at (add_at _ _ _) hb29 (by simp) fun w30 hb30 k30 s30 => ?_
    have hb30' : Blk w30 b6 #[.int .i64 c.id, .int .i64 c.sum] T_api_Group := hb30
    refine ⟨_, hb30'.cell 0, pick_c (by omega) (by omega) (by omega) fun i hi1 hi2 => ⟨_, rfl, ?_⟩⟩
    refine StF.at rfl hb30' (by simp) fun w32 hb32 k32 s32 => ?_
    have hb32' : Blk w32 b6 #[.int .i64 i, .int .i64 c.sum] T_api_Group := hb32
    have k2732 : Kp no w27 w32 := kp_blk k28' (by omega) ((k29.trans0 k30).trans0 k32)
    have hb332 := k2732.blk hb27 id
    refine ⟨_, _, _, pc3 hb332, i, c.sum, ⟨hb32'.cell 0, by rw [add_at]; exact hb32'.cell 1, trivial⟩, ?_⟩
    refine AlF.intro fun b7 w33 hb7e hb7 k33 s33 => ?_
    have k2733 := k2732.trans0 k33
    have nin : ∀ j, Is pg.ga j → w8.heap.size ≤ j := fga
    have hgl' := hown.gl
    refine append_own er_grp (hown.g.kp0 k2733) (rd_cells (xs := GL.cs ⟨i, c.sum⟩) hb7 rfl) rfl (fun h => by cases h) (fun u hu => by simp only [GL.cs, List.mem_cons, List.not_mem_nil, or_false] at hu; rcases hu with rfl | rfl <;> rfl) (by omega) (by omega) fun a' c0 w34 hs34 k34 hi34 _ _ => ⟨_, _, _, rfl, ?_⟩
    have hb334 : Blk w34 b3 pg.cs T_quotaref07_Page := k34.blk (k2733.blk hb27 id) fun hh => by have := nin _ hh; omega
    refine StF.at (add_at _ _ _) hb334 (by simp [PgV.cs]) fun w35 hb35 k35 s35 => ⟨⟨k + 1, { pg with ga := a', gl := pg.gl + 1, gc := c0 }, gs' ++ [⟨i, c.sum⟩], by omega, rfl, by omega, ?_, hb35, hnum, hlsn, ?_, by simp [hglen], ?_, fca, ?_, hz, fun h => absurd hcs0 h⟩, by simp only [Int.toNat_natCast]; omega⟩
    · exact (((k27.trans0 k2733.of_no).trans k34 (fun _ _ h => h) fun j hj hh => by have := nin j hh; omega).trans0 k35)
    · refine Own_push_g (hs34.kp k35 fun j hj hh => ?_) (by omega) (((hown.c.kp0 k2733).kp k34 fun j hj => by rw [hcan] at hj; exact (is_none hj).elim).kp k35 fun j hj => by rw [hcan] at hj; exact (is_none hj).elim) hown.cb
      rcases hi34 j hj with h | h
      · have := nin j h; omega
      · have := k2733.size; have := k27.size; omega
    · intro x hx
      rcases List.mem_append.1 hx with hx | hx
      · exact hokg x hx
      · rw [List.mem_singleton] at hx; subst hx; exact rtG_of ⟨hi1, hi2⟩ hgo.sum
    · intro j hj
      rcases hi34 j hj with h | h
      · exact nin j h
      · have := k2733.size; have := k27.size; omega
  rintro u17 w36 ⟨pg, gs', k36, hb36, hnum, hlsn, hown, hglen, hokg, fca, fga, hz, hnz⟩ _
  have hcl' := hown.cl
  have hgl' := hown.gl
  have hcb' := hown.cb
  have hgb' := hown.gb
  have ew : IntKind.wrap .i64 ((pg.cl : Int) + (pg.gl : Int)) = ((cs'.length + gs'.length : Nat) : Int) := by rw [wrap_i64 (by omega) (by omega)]; omega
  refine ⟨fun _ w' => ∃ pg : PgV, Kp (fun j => j = b3) w8 w' ∧ Blk w' b3 pg.cs T_quotaref07_Page ∧ pg.num = r ∧ (0 ≤ pg.lsn ∧ pg.lsn ≤ 2147483647) ∧ (pg.lsn = 0 ↔ cs'.length + gs'.length = 0) ∧ pg.Own w' cs' gs' ∧ Fresh w8 pg.ca ∧ Fresh w8 pg.ga ∧ (pg.ca = none ∨ pg.ga = none), ?_, ?_⟩
  · have hone : pg.ca = none ∨ pg.ga = none := by
      by_cases h0 : cs'.length = 0
      · exact .inl (hz h0)
      · exact .inr (hnz h0).1
    refine ⟨_, _, _, pc2 hb36, _, _, _, pc3 hb36, ?_⟩
    rw [ew]
    refine cond_d (fun hpos => ?_) (fun hzero => ⟨pg, k36, hb36, hnum, by omega, by omega, hown, fca, fga, hone⟩)
    have hbp36 := k36.blk hbp8 (by omega)
    refine ⟨_, pc1 hbp36, pick_c (by omega) (by omega) (by omega) fun l hl1 hl2 => ⟨_, rfl, ?_⟩⟩
    refine StF.at (add_at _ _ _) hb36 (by simp [PgV.cs]) fun w38 hb38' k38 s38 => ⟨{ pg with lsn := l }, k36.trans0 k38, hb38', hnum, (by dsimp only; omega), (by dsimp only; omega), ⟨hown.c.kp k38 (fun j hj hh => ?_), hown.cb, hown.g.kp k38 (fun j hj hh => ?_), hown.gb⟩, fca, fga, hone⟩
    · have := fca j hj; omega
    · have := fga j hj; omega
  rintro u19 w39 ⟨pg, k39, hb39, hnum, hl1, hl2, hown, fca, fga, hone⟩ _
  refine ⟨_, _, _, _, _, _, _, _, ⟨pc0 hb39, pc1 hb39, pc2 hb39, pc3 hb39, trivial⟩, ?_⟩
  have hb239 := k39.blk hb28 (by omega)
  refine ret4 (K := fun q w' => R (.returned (.agg q)) w') hb239 rfl fun w' _ k' _ => ?_
  refine h pg cs' gs' w' ⟨⟨by omega, ?_, hlen, hglen, hl1, hl2, fun c hc => (hok c hc).1, fun c hc => (hokg c hc).1⟩, fun c hc => (hok c hc).2, fun c hc => (hokg c hc).2, hown.kp k' (fun j hj hh => ?_) (fun j hj hh => ?_), kp_blk (hin _ k39) (by omega) k', fun j hj => ?_, fun j hj => ?_, hone⟩
  · by_cases h0 : cs'.length = 0
    · exact .inl h0
    · exact .inr (by rw [(hnz h0).2]; rfl)
  · have := fca j hj; omega
  · have := fga j hj; omega
  · have := fca j hj; have := k08.size; omega
  · have := fga j hj; have := k08.size; omega

theorem right_c {w : World} {p : PgV} {cs : List CL} {gs : List GL} {R : Ending → World → Prop} (hp : p.In w cs gs) (hcok : ∀ x ∈ cs, x.Ok) (hgok : ∀ x ∈ gs, x.Ok)
    (h : ∀ (q : PgV) (cs' : List CL) (gs' : List GL) w', MadeR w q cs' gs' w' → R (.returned (.agg q.cs)) w') : GoC Tryd.prog F_law07_right #[.agg p.cs] w R := by
  refine S_law07_right ?_
  unfold W_law07_right
  refine AlF.intro fun b1 w1 hb1e hb1 k1 s1 => AlF.intro fun b2 w2 hb2e hb2 k2 s2 => ?_
  have hbp : Blk w2 b1 p.cs T_quotalaw07_P := k2.blk (show Blk w1 b1 p.cs T_quotalaw07_P from hb1) id
  have k02 := k1.trans0 k2
  refine ⟨_, _, _, _, _, _, _, _, ⟨pc0 hbp, pc1 hbp, pc2 hbp, pc3 hbp, trivial⟩, ?_⟩
  refine ref_c (p := p) fun w3 k3 => ⟨_, _, _, _, _, _, _, _, rfl, ?_⟩
  refine made_c (p := p) (hp.kp0 (k02.trans0 k3)) hcok hgok fun q cs' gs' w4 M => ⟨_, _, _, _, _, _, _, _, rfl, ?_⟩
  refine AlF.intro fun b3 w5 hb3e hb3 k5 s5 => st4 hb3 rfl fun w9 hb9 k9 s9 => ?_
  have hbq : Blk w9 b3 q.cs T_quotaref07_Page := hb9
  have k49 : Kp no w4 w9 := kp_blk k5 (by omega) k9
  have k29 := (k3.trans0 M.kp).trans0 k49
  refine ⟨_, pc0 hbq, _, pc1 hbq, _, _, _, pc2 hbq, _, _, _, pc3 hbq, ?_⟩
  have hb29 := k29.blk hb2 id
  have sz := (k02.trans0 k3).size
  refine ret4 (K := fun q w' => R (.returned (.agg q)) w') hb29 rfl fun w' _ k' _ => ?_
  have k0' : Kp no w w' := kp_blk (k02.trans0 k29) (by omega) k'
  have sz2 := k2.size
  have sz3 := k3.size
  refine h q cs' gs' w' ⟨M.right, M.c, M.g, (M.own.kp0 k49).kp k' (fun j hj hh => ?_) (fun j hj hh => ?_), k0', fun j hj => ?_, fun j hj => ?_, M.one⟩
  · have := M.fc j hj; omega
  · have := M.fg j hj; omega
  · have := M.fc j hj; omega
  · have := M.fg j hj; omega
end Go.Proofs.YtnkdonpammdldaaDoor
