/- Contracts of the statements' own lent and kept; the statement PagePacks, its walk. Conditions: the tables and marks stand; lists within the form's own reach. -/
import Derived.Test.YtnkdonpammdldaaDoorGv
import Derived.Test.YtnkdonpammdldaaDoorLw
set_option linter.unusedVariables false
set_option linter.unusedSimpArgs false
namespace Go.Proofs.YtnkdonpammdldaaDoor
open Go Go.RowKit

def mkC : CL := ⟨-71, -72, 0, 0, 73⟩
def mkG : GL := ⟨-74, 75⟩
structure Mks (W : World) : Prop where
  c : W.cell? ⟨0, 0, none⟩ = some (.int .i64 (-71)) ∧ W.cell? ⟨0, 1, none⟩ = some (.int .i64 (-72)) ∧ W.cell? ⟨0, 2, none⟩ = some (.int .i64 0) ∧ W.cell? ⟨0, 3, none⟩ = some (.int .i64 0) ∧ W.cell? ⟨0, 4, none⟩ = some (.int .i64 73)
  g : W.cell? ⟨1, 0, none⟩ = some (.int .i64 (-74)) ∧ W.cell? ⟨1, 1, none⟩ = some (.int .i64 75)
theorem Mks.kp0 {w w' : World} (h : Mks w) (k : Kp no w w') : Mks w' :=
  ⟨⟨k.cell h.c.1 id, k.cell h.c.2.1 id, k.cell h.c.2.2.1 id, k.cell h.c.2.2.2.1 id, k.cell h.c.2.2.2.2 id⟩, ⟨k.cell h.g.1 id, k.cell h.g.2 id⟩⟩
theorem Mks.cc {w : World} (h : Mks w) : w.cell? ⟨0, 0, none⟩ = some (.int .i64 mkC.id) ∧ w.cell? (Addr.add ⟨0, 0, none⟩ 1) = some (.int .i64 mkC.grp) ∧ w.cell? (Addr.add ⟨0, 0, none⟩ 2) = some (.int .i64 mkC.lo) ∧ w.cell? (Addr.add ⟨0, 0, none⟩ 3) = some (.int .i64 mkC.hi) ∧ w.cell? (Addr.add ⟨0, 0, none⟩ 4) = some (.int .i64 mkC.val) ∧ True := by
  simp only [add_at]
  exact ⟨h.c.1, h.c.2.1, h.c.2.2.1, h.c.2.2.2.1, h.c.2.2.2.2, trivial⟩
theorem Mks.gg {w : World} (h : Mks w) : w.cell? ⟨1, 0, none⟩ = some (.int .i64 mkG.id) ∧ w.cell? (Addr.add ⟨1, 0, none⟩ 1) = some (.int .i64 mkG.sum) ∧ True := by
  simp only [add_at]
  exact ⟨h.g.1, h.g.2, trivial⟩

/-- A page with lists of its own, a mark behind each. -/
structure Lent (w : World) (q p : PgV) (cs : List CL) (gs : List GL) : Prop where
  hnum : q.num = p.num
  hlsn : q.lsn = p.lsn
  hcl : q.cl = p.cl
  hgl : q.gl = p.gl
  rc : Rd w q.ca (fC (cs ++ [mkC]))
  rg : Rd w q.ga (fG (gs ++ [mkG]))
  cc : p.cl + 1 ≤ q.cc
  gc : p.gl + 1 ≤ q.gc
theorem Lent.kp0 {w w' : World} {q p : PgV} {cs : List CL} {gs : List GL} (h : Lent w q p cs gs) (k : Kp no w w') : Lent w' q p cs gs := ⟨h.hnum, h.hlsn, h.hcl, h.hgl, h.rc.kp0 k, h.rg.kp0 k, h.cc, h.gc⟩
theorem Rd.pre {w : World} {a : Option Addr} {xs ys : List Value} (h : Rd w a (xs ++ ys)) : Rd w a xs := fun i v hv => h i v (by
  have := (List.getElem?_eq_some_iff.1 hv).1
  rw [List.getElem?_append_left this]; exact hv)
theorem Lent.to_in {w : World} {q p : PgV} {cs : List CL} {gs : List GL} (h : Lent w q p cs gs) (hp : cs.length = p.cl) (hg : gs.length = p.gl) (hcb : p.cl < 70368744177664) (hgb : p.gl < 70368744177664) : q.In w cs gs :=
  ⟨.of_rd (by have := h.rc; rw [fC_app] at this; exact this.pre), by rw [h.hcl]; exact hp, by rw [h.hcl]; exact hcb, .of_rd (by have := h.rg; rw [fG_app] at this; exact this.pre), by rw [h.hgl]; exact hg, by rw [h.hgl]; exact hgb⟩

theorem lent7_c {w : World} {p : PgV} {cs : List CL} {gs : List GL} {R : Ending → World → Prop} (hmk : Mks w) (hp : p.In w cs gs) (hcb : p.cl * 40 ≤ 140737488351232) (hgb : p.gl * 16 ≤ 140737488351232)
    (h : ∀ (q : PgV) w', Lent w' q p cs gs → Kp no w w' → R (.returned (.agg q.cs)) w') : GoC Tryd.prog F_law07_lent #[.agg p.cs] w R := by
  refine S_law07_lent ?_
  unfold W_law07_lent
  have hcl := hp.cl
  have hgl := hp.gl
  refine AlF.intro fun b1 w1 hb1e hb1 k1 s1 => AlF.intro fun b2 w2 hb2e hb2 k2 s2 => ?_
  have hbp : Blk w2 b1 p.cs T_quotalaw07_P := k2.blk (show Blk w1 b1 p.cs T_quotalaw07_P from hb1) id
  have k02 := k1.trans0 k2
  have hp2 := hp.kp0 k02
  refine ⟨_, _, _, pc2 hbp, append_new er_ctr hp2.c.rd (by rw [fC_len, hcl]) (fun h0 => by have := hp2.c.none h0; subst this; simpa using hcl.symm) (fC_one cs) (by omega) (by omega) fun a4 c4 w3 hs4 k3 f4 _ => ⟨_, _, _, rfl, ?_⟩⟩
  have k03 := k02.trans0 k3
  refine ⟨_, _, _, _, _, (hmk.kp0 k03).cc, AlF.intro fun b3 w4 hb3e hb3 k4 s4 => ?_⟩
  refine append_own er_ctr (hs4.kp0 k4) (rd_cells (xs := mkC.cs) hb3 rfl) rfl (fun h => by cases h) (fun u hu => by simp only [CL.cs, List.mem_cons, List.not_mem_nil, or_false] at hu; rcases hu with rfl | rfl | rfl | rfl | rfl <;> rfl) (by omega) (by omega) fun a5 c5 w5 hs5 k5 hi5 _ _ => ⟨_, _, _, rfl, ?_⟩
  have k25 : Kp no w2 w5 := (k3.trans0 k4).trans k5 (fun _ _ h => h) fun j hj hh => by have := f4 j hh; omega
  have k05 := k02.trans0 k25
  have f5 : ∀ j, Is a5 j → w2.heap.size ≤ j := fun j hj => by
    rcases hi5 j hj with hh | hh
    · exact f4 j hh
    · have := (k3.trans0 k4).size; omega
  have hbp5 := k25.blk hbp id
  have hp5 := hp.kp0 k05
  refine ⟨_, _, _, pc3 hbp5, append_new er_grp hp5.g.rd (by rw [fG_len, hgl]) (fun h0 => by have := hp5.g.none h0; subst this; simpa using hgl.symm) (fG_one gs) (by omega) (by omega) fun a7 c7 w6 hs7 k6 f7 _ => ⟨_, _, _, rfl, ?_⟩⟩
  have k06 := k05.trans0 k6
  refine ⟨_, _, (hmk.kp0 k06).gg, AlF.intro fun b4 w7 hb4e hb4 k7 s7 => ?_⟩
  refine append_own er_grp (hs7.kp0 k7) (rd_cells (xs := mkG.cs) hb4 rfl) rfl (fun h => by cases h) (fun u hu => by simp only [GL.cs, List.mem_cons, List.not_mem_nil, or_false] at hu; rcases hu with rfl | rfl <;> rfl) (by omega) (by omega) fun a8 c8 w8 hs8 k8 hi8 _ _ => ⟨_, _, _, rfl, ?_⟩
  have k58 : Kp no w5 w8 := (k6.trans0 k7).trans k8 (fun _ _ h => h) fun j hj hh => by have := f7 j hh; omega
  have k08 := k05.trans0 k58
  have kd : Kp no w8 w8.drew := Kp.drew w8 1
  have hbp8 := (k58.trans0 kd).blk hbp5 id
  have f8 : ∀ j, Is a8 j → w2.heap.size ≤ j := fun j hj => by
    rcases hi8 j hj with hh | hh
    · have := f7 j hh; have := k25.size; omega
    · have := (k6.trans0 k7).size; have := k25.size; omega
  refine ⟨_, pc0 hbp8, _, pc1 hbp8, _, _, _, pc2 hbp8, ⟨by omega, by have := hs5.2.1; omega⟩, trivial, _, _, _, pc3 hbp8, ⟨by omega, by have := hs8.2.1; omega⟩, trivial, ?_⟩
  rw [subA_zero, subA_zero, Int.toNat_natCast, Int.toNat_natCast]
  have hb28 := (k25.trans0 (k58.trans0 kd)).blk hb2 id
  refine ret4 (K := fun q w' => R (.returned (.agg q)) w') hb28 rfl fun w' _ k' _ => ?_
  refine h ⟨p.num, p.lsn, a5, p.cl, c5, a8, p.gl, c8⟩ w' ⟨rfl, rfl, rfl, rfl, ?_, ?_, hs5.2.1, hs8.2.1⟩ (kp_blk (k08.trans0 kd) (by omega) k')
  · rw [fC_app]
    have := ((hs5.kp0 (k58.trans0 kd)).kp k' fun j hj hh => by have := f5 j hj; omega).rd
    simpa [fC, flatV] using this
  · rw [fG_app]
    have := ((hs8.kp0 kd).kp k' fun j hj hh => by have := f8 j hj; omega).rd
    simpa [fG, flatV] using this

theorem ctrIS {S : World → Prop} {w0 : World} {a : Option Addr} {L : List CL} (h0 : CsIn w0 a L) (h : ∀ w, S w → CsIn w a L) {i : Nat} (hi : i < L.length) {l : Nat} (hl : L.length = l) {n : Int} (hn : n = (i : Int)) {K : Int → Int → Int → Int → Int → Prop} (hk : K (L[i]).id (L[i]).grp (L[i]).lo (L[i]).hi (L[i]).val) :
    IdxF a n l fun d => ∃ n1 n2 n3 n4 n5 : Int, (∀ w, S w → w.cell? (d.add (Int.toNat n * 5)) = some (.int .i64 n1) ∧ w.cell? (Addr.add (d.add (Int.toNat n * 5)) 1) = some (.int .i64 n2) ∧ w.cell? (Addr.add (d.add (Int.toNat n * 5)) 2) = some (.int .i64 n3) ∧ w.cell? (Addr.add (d.add (Int.toNat n * 5)) 3) = some (.int .i64 n4) ∧ w.cell? (Addr.add (d.add (Int.toNat n * 5)) 4) = some (.int .i64 n5) ∧ True) ∧ K n1 n2 n3 n4 n5 := by
  subst hn
  obtain ⟨b, o, ha, hc⟩ := h0 i hi
  refine ⟨by omega, by omega, _, ha, _, _, _, _, _, fun w hw => ?_, hk⟩
  obtain ⟨b', o', ha', hc'⟩ := h w hw i hi
  rw [ha] at ha'
  cases ha'
  rw [Int.toNat_natCast]
  simp only [add_at]
  exact ⟨hc' 0 _ rfl, hc' 1 _ rfl, hc' 2 _ rfl, hc' 3 _ rfl, hc' 4 _ rfl, trivial⟩
theorem grpIS {S : World → Prop} {w0 : World} {a : Option Addr} {L : List GL} (h0 : GsIn w0 a L) (h : ∀ w, S w → GsIn w a L) {i : Nat} (hi : i < L.length) {l : Nat} (hl : L.length = l) {n : Int} (hn : n = (i : Int)) {K : Int → Int → Prop} (hk : K (L[i]).id (L[i]).sum) :
    IdxF a n l fun d => ∃ n1 n2 : Int, (∀ w, S w → w.cell? (d.add (Int.toNat n * 2)) = some (.int .i64 n1) ∧ w.cell? (Addr.add (d.add (Int.toNat n * 2)) 1) = some (.int .i64 n2) ∧ True) ∧ K n1 n2 := by
  subst hn
  obtain ⟨b, o, ha, hc⟩ := h0 i hi
  refine ⟨by omega, by omega, _, ha, _, _, fun w hw => ?_, hk⟩
  obtain ⟨b', o', ha', hc'⟩ := h w hw i hi
  rw [ha] at ha'
  cases ha'
  rw [Int.toNat_natCast]
  simp only [add_at]
  exact ⟨hc' 0 _ rfl, hc' 1 _ rfl, trivial⟩

theorem kept7_c {w : World} {p q : PgV} {cs : List CL} {gs : List GL} {R : Ending → World → Prop} (hmk : Mks w) (hp : p.In w cs gs) (hq : Lent w q p cs gs) (h : ∀ w', Kp no w w' → R (.returned (.bool true)) w') : GoC Tryd.prog F_law07_kept #[.agg q.cs, .agg p.cs] w R := by
  refine S_law07_kept ?_
  unfold W_law07_kept
  have hcl := hp.cl
  have hgl := hp.gl
  have hcb := hp.cb
  have hgb := hp.gb
  refine AlF.intro fun b1 w1 hb1e hb1 k1 s1 => AlF.intro fun b2 w2 hb2e hb2 k2 s2 => ?_
  have hbq : Blk w2 b1 q.cs T_page_Page := k2.blk (show Blk w1 b1 q.cs T_page_Page from hb1) id
  have hbp : Blk w2 b2 p.cs T_quotalaw07_P := hb2
  have k02 := k1.trans0 k2
  have e1 : IntKind.wrap .i64 ((p.cl : Int) + 1) = ((p.cl + 1 : Nat) : Int) := by rw [wrap_i64 (by omega) (by omega)]; omega
  have e2 : IntKind.wrap .i64 ((p.gl : Int) + 1) = ((p.gl + 1 : Nat) : Int) := by rw [wrap_i64 (by omega) (by omega)]; omega
  have hcc := hq.cc
  have hgc := hq.gc
  refine ⟨_, _, _, pc2 hbq, _, _, _, pc2 hbp, ?_⟩
  rw [e1]
  refine ⟨⟨by omega, by omega⟩, trivial, _, _, _, pc3 hbq, _, _, _, pc3 hbp, ?_⟩
  rw [e2, subA_zero, subA_zero, Int.toNat_natCast, Int.toNat_natCast]
  refine ⟨⟨by omega, by omega⟩, trivial, ?_⟩
  have kd : Kp no w2 w2.drew := Kp.drew w2 1
  refine ⟨fun w' => Kp no w2 w', kd, ?_⟩
  refine ⟨_, _, _, _, _, _, _, _, fun w' kz => ⟨pc0 (kz.blk hbq id), pc1 (kz.blk hbq id), pc2 (kz.blk hbq id), pc3 (kz.blk hbq id), trivial⟩, ?_⟩
  refine ⟨_, _, _, _, _, _, _, _, fun w' kz => ⟨pc0 (kz.blk hbp id), pc1 (kz.blk hbp id), pc2 (kz.blk hbp id), pc3 (kz.blk hbp id), trivial⟩, ?_⟩
  refine back_c (p := q) fun w3 k3 => ⟨_, _, _, _, _, _, _, _, rfl, kd.trans0 k3, ?_⟩
  refine ref_c (p := p) fun w4 k4 => ⟨_, _, _, _, _, _, _, _, rfl, (kd.trans0 k3).trans0 k4, ?_⟩
  have k24 := (kd.trans0 k3).trans0 k4
  have k04 := k02.trans0 k24
  refine same_c (p := q) (q := p) ((hq.kp0 k04).to_in hcl hgl hcb hgb) (hp.kp0 k04) fun w5 k5 => ⟨_, rfl, k24.trans0 k5, cond_t ?_ ?_⟩
  · unfold sameP
    exact decide_eq_true ⟨hq.hnum, hq.hlsn, rfl, rfl⟩
  have k25 := k24.trans0 k5
  refine ⟨p.ca, p.cl, p.cc, fun w' kz => pc2 (kz.blk hbp id), ?_⟩
  have hL1 : (cs ++ [mkC]).length = p.cl + 1 := by rw [List.length_append, hcl]; rfl
  have hL2 : (gs ++ [mkG]).length = p.gl + 1 := by rw [List.length_append, hgl]; rfl
  have g1 : (cs ++ [mkC])[p.cl]'(by omega) = mkC := by rw [List.getElem_append_right (by omega)]; simp [hcl]
  have g2 : (gs ++ [mkG])[p.gl]'(by omega) = mkG := by rw [List.getElem_append_right (by omega)]; simp [hgl]
  refine ctrIS (S := fun w' => Kp no w2 w') (w0 := w2) (.of_rd (hq.kp0 k02).rc) (fun w' kz => .of_rd ((hq.kp0 (k02.trans0 kz)).rc)) (i := p.cl) (by omega) hL1 rfl ?_
  refine ⟨_, _, _, _, _, fun w' kz => (hmk.kp0 (k02.trans0 kz)).cc, cond_t (by rw [g1]; rfl) ?_⟩
  refine ⟨p.ga, p.gl, p.gc, fun w' kz => pc3 (kz.blk hbp id), ?_⟩
  refine grpIS (S := fun w' => Kp no w2 w') (w0 := w2) (.of_rd (hq.kp0 k02).rg) (fun w' kz => .of_rd ((hq.kp0 (k02.trans0 kz)).rg)) (i := p.gl) (by omega) hL2 rfl ?_
  refine ⟨_, _, fun w' kz => (hmk.kp0 (k02.trans0 kz)).gg, ?_⟩
  rw [g2]
  exact h w5 (k02.trans0 k25)

theorem pagePacks_c {w : World} {p : PgV} {cs : List CL} {gs : List GL} {R : Ending → World → Prop} (hnib : Nib w) (hz : Szs w) (hmk : Mks w) (hp : p.In w cs gs) (hcb : p.cl * 40 ≤ 140737488351232) (hgb : p.gl * 16 ≤ 140737488351232)
    (h : ∀ w', Kp no w w' → R (.returned (.bool true)) w') : GoC Tryd.prog F_law07_PagePacks #[.agg p.cs] w R := by
  refine S_law07_PagePacks ?_
  unfold W_law07_PagePacks
  refine AlF.intro fun b1 w1 hb1e hb1 k1 s1 => ?_
  have hb1' : Blk w1 b1 p.cs T_quotalaw07_P := hb1
  refine first_c (hnib.kp0 k1) (hz.kp0 k1) fun w2 k2 => ⟨_, rfl, cond_f rfl ?_⟩
  have k02 := k1.trans0 k2
  have hbp := k2.blk hb1' id
  refine ⟨_, _, _, _, _, _, _, _, ⟨pc0 hbp, pc1 hbp, pc2 hbp, pc3 hbp, trivial⟩, ?_⟩
  refine lent7_c (p := p) (hmk.kp0 k02) (hp.kp0 k02) hcb hgb fun q w3 hq k3 => ⟨_, _, _, _, _, _, _, _, rfl, ?_⟩
  refine AlF.intro fun b2 w4 hb2e hb2 k4 s4 => st4 hb2 rfl fun w8 hb8 k8 s8 => ?_
  have hbq : Blk w8 b2 q.cs T_page_Page := hb8
  have k38 : Kp no w3 w8 := kp_blk k4 (by omega) k8
  have k08 := (k02.trans0 k3).trans0 k38
  have hbp8 := (k3.trans0 k38).blk hbp id
  have hq8 := hq.kp0 k38
  refine ⟨_, _, _, _, _, _, _, _, ⟨pc0 hbq, pc1 hbq, pc2 hbq, pc3 hbq, trivial⟩, ?_⟩
  have hqI := hq8.to_in hp.cl hp.gl hp.cb hp.gb
  have en : q.num = p.num := hq.hnum
  have el : q.lsn = p.lsn := hq.hlsn
  by_cases hr0 : refP p.num p.lsn cs gs = 0
  · refine encode_c (p := q) (hnib.kp0 k08) (hz.kp0 k08) hqI (fun hne => absurd (by rw [en, el]; exact hr0) hne) fun _ a9 w9 hs9 k9 f9 => ⟨_, _, _, _, rfl, ?_⟩
    rw [en, el, encB_eq hr0] at hs9
    have hbp9 := k9.blk hbp8 id
    refine ⟨_, _, _, _, _, _, _, _, ⟨pc0 hbp9, pc1 hbp9, pc2 hbp9, pc3 hbp9, trivial⟩, ?_⟩
    refine ref_c (p := p) fun w10 k10 => ⟨_, _, _, _, _, _, _, _, rfl, ?_⟩
    refine encode7_c (p := p) (hp.kp0 ((k08.trans0 k9).trans0 k10)) (fun hne => absurd hr0 hne) fun _ a14 w11 hs14 k11 f14 => ⟨_, _, _, _, rfl, cond_f (by simp) ?_⟩
    have hl9 := hs9.len
    have hl14 := hs14.len
    rw [bvs_len] at hl9 hl14
    refine convert_bytes (e := T_uint8) (by kernel_rfl) (by kernel_rfl) (by kernel_rfl) (hs9.kp0 (k10.trans0 k11)).rd hl9 (fun h0 => by obtain ⟨b, cur, ha, _⟩ := hs9.addr (by omega); rw [h0] at ha; cases ha) fun z1 hz1 => ⟨z1, rfl, ?_⟩
    refine convert_bytes (e := T_uint8) (by kernel_rfl) (by kernel_rfl) (by kernel_rfl) hs14.rd hl14 (fun h0 => by obtain ⟨b, cur, ha, _⟩ := hs14.addr (by omega); rw [h0] at ha; cases ha) fun z2 hz2 => ⟨z2, rfl, cond_f (by rw [hz1, hz2]; simp) ?_⟩
    have k811 := (k9.trans0 k10).trans0 k11
    generalize w11 = w13 at *
    have hbq13 := k811.blk hbq id
    have hbp13 := k811.blk hbp8 id
    have k013 := k08.trans0 k811
    refine ⟨_, _, _, _, _, _, _, _, ⟨pc0 hbq13, pc1 hbq13, pc2 hbq13, pc3 hbq13, trivial⟩, ?_⟩
    refine ⟨_, _, _, _, _, _, _, _, ⟨pc0 hbp13, pc1 hbp13, pc2 hbp13, pc3 hbp13, trivial⟩, ?_⟩
    refine kept7_c (p := p) (q := q) (hmk.kp0 k013) (hp.kp0 k013) (hq8.kp0 k811) fun w14 k14 => ⟨_, rfl, cond_f rfl ?_⟩
    have k814 := k811.trans0 k14
    have k014 := k08.trans0 k814
    have hbq14 := k814.blk hbq id
    refine ⟨_, _, _, _, _, _, _, _, ⟨pc0 hbq14, pc1 hbq14, pc2 hbq14, pc3 hbq14, trivial⟩, ?_⟩
    have hqI14 := hqI.kp0 k814
    refine copy_c (p := q) hqI14 (by rw [hq.hcl]; omega) (by rw [hq.hgl]; omega) fun d w15 hd1 hd2 hdo k15 _ _ _ => ⟨_, _, _, _, _, _, _, _, rfl, ?_⟩
    refine AlF.intro fun b3 w16 hb3e hb3 k16 s16 => st4 hb3 rfl fun w20 hb20 k20 s20 => ?_
    have hbd : Blk w20 b3 d.cs T_page_Page := hb20
    have k1520 : Kp no w15 w20 := kp_blk k16 (by omega) k20
    have k820 := (k814.trans0 k15).trans0 k1520
    have k020 := k08.trans0 k820
    have hbq20 := k820.blk hbq id
    have hbp20 := k820.blk hbp8 id
    have kd : Kp no w20 w20.drew := Kp.drew w20 1
    refine ⟨fun w' => Kp no w20 w', kd, ?_⟩
    refine ⟨_, _, _, _, _, _, _, _, fun w' kz => ⟨pc0 (kz.blk hbd id), pc1 (kz.blk hbd id), pc2 (kz.blk hbd id), pc3 (kz.blk hbd id), trivial⟩, ?_⟩
    refine ⟨_, _, _, _, _, _, _, _, fun w' kz => ⟨pc0 (kz.blk hbp20 id), pc1 (kz.blk hbp20 id), pc2 (kz.blk hbp20 id), pc3 (kz.blk hbp20 id), trivial⟩, ?_⟩
    refine back_c (p := d) fun w21 k21 => ⟨_, _, _, _, _, _, _, _, rfl, kd.trans0 k21, ?_⟩
    refine ref_c (p := p) fun w22 k22 => ⟨_, _, _, _, _, _, _, _, rfl, (kd.trans0 k21).trans0 k22, ?_⟩
    have k2022 := (kd.trans0 k21).trans0 k22
    refine same_c (p := d) (q := p) ((hdo.kp0 (k1520.trans0 k2022)).to_in) (hp.kp0 (k020.trans0 k2022)) fun w23 k23 => ⟨_, rfl, k2022.trans0 k23, cond_t ?_ ?_⟩
    · unfold sameP
      exact decide_eq_true ⟨by rw [hd1, en], by rw [hd2, el], rfl, rfl⟩
    have k2023 := k2022.trans0 k23
    refine ⟨_, _, _, _, _, _, _, _, fun w' kz => ⟨pc0 (kz.blk hbq20 id), pc1 (kz.blk hbq20 id), pc2 (kz.blk hbq20 id), pc3 (kz.blk hbq20 id), trivial⟩, ?_⟩
    refine ⟨_, _, _, _, _, _, _, _, fun w' kz => ⟨pc0 (kz.blk hbp20 id), pc1 (kz.blk hbp20 id), pc2 (kz.blk hbp20 id), pc3 (kz.blk hbp20 id), trivial⟩, ?_⟩
    have k023 := k020.trans0 k2023
    exact kept7_c (p := p) (q := q) (hmk.kp0 k023) (hp.kp0 k023) (hq8.kp0 (k820.trans0 k2023)) fun w24 k24 => ⟨_, rfl, k2023.trans0 k24, h w24 (k023.trans0 k24)⟩
  · refine encode_c (p := q) (hnib.kp0 k08) (hz.kp0 k08) hqI (fun _ w9 k9 => ⟨_, _, _, _, rfl, ?_⟩) fun h0 => absurd (by rw [← en, ← el]; exact h0) hr0
    rw [en, el]
    have hbp9 := k9.blk hbp8 id
    refine ⟨_, _, _, _, _, _, _, _, ⟨pc0 hbp9, pc1 hbp9, pc2 hbp9, pc3 hbp9, trivial⟩, ?_⟩
    refine ref_c (p := p) fun w10 k10 => ⟨_, _, _, _, _, _, _, _, rfl, ?_⟩
    refine encode7_c (p := p) (hp.kp0 ((k08.trans0 k9).trans0 k10)) (fun _ w11 k11 => ⟨_, _, _, _, rfl, cond_f (by simp) ?_⟩) fun h0 => absurd h0 hr0
    refine convert_bytes (bs := []) (e := T_uint8) (by kernel_rfl) (by kernel_rfl) (by kernel_rfl) (Rd.nil _ _) rfl (fun _ => rfl) fun z1 hz1 => ⟨z1, rfl, ?_⟩
    refine convert_bytes (bs := []) (e := T_uint8) (by kernel_rfl) (by kernel_rfl) (by kernel_rfl) (Rd.nil _ _) rfl (fun _ => rfl) fun z2 hz2 => ⟨z2, rfl, cond_f (by rw [hz1, hz2]; simp) ?_⟩
    have k811 := (k9.trans0 k10).trans0 k11
    generalize w11 = w13 at *
    have hbq13 := k811.blk hbq id
    have hbp13 := k811.blk hbp8 id
    have k013 := k08.trans0 k811
    refine ⟨_, _, _, _, _, _, _, _, ⟨pc0 hbq13, pc1 hbq13, pc2 hbq13, pc3 hbq13, trivial⟩, ?_⟩
    refine ⟨_, _, _, _, _, _, _, _, ⟨pc0 hbp13, pc1 hbp13, pc2 hbp13, pc3 hbp13, trivial⟩, ?_⟩
    refine kept7_c (p := p) (q := q) (hmk.kp0 k013) (hp.kp0 k013) (hq8.kp0 k811) fun w14 k14 => ⟨_, rfl, cond_f rfl ?_⟩
    have k814 := k811.trans0 k14
    have k014 := k08.trans0 k814
    have hbq14 := k814.blk hbq id
    refine ⟨_, _, _, _, _, _, _, _, ⟨pc0 hbq14, pc1 hbq14, pc2 hbq14, pc3 hbq14, trivial⟩, ?_⟩
    have hqI14 := hqI.kp0 k814
    refine copy_c (p := q) hqI14 (by rw [hq.hcl]; omega) (by rw [hq.hgl]; omega) fun d w15 hd1 hd2 hdo k15 _ _ _ => ⟨_, _, _, _, _, _, _, _, rfl, ?_⟩
    refine AlF.intro fun b3 w16 hb3e hb3 k16 s16 => st4 hb3 rfl fun w20 hb20 k20 s20 => ?_
    have hbd : Blk w20 b3 d.cs T_page_Page := hb20
    have k1520 : Kp no w15 w20 := kp_blk k16 (by omega) k20
    have k820 := (k814.trans0 k15).trans0 k1520
    have k020 := k08.trans0 k820
    have hbq20 := k820.blk hbq id
    have hbp20 := k820.blk hbp8 id
    have kd : Kp no w20 w20.drew := Kp.drew w20 1
    refine ⟨fun w' => Kp no w20 w', kd, ?_⟩
    refine ⟨_, _, _, _, _, _, _, _, fun w' kz => ⟨pc0 (kz.blk hbd id), pc1 (kz.blk hbd id), pc2 (kz.blk hbd id), pc3 (kz.blk hbd id), trivial⟩, ?_⟩
    refine ⟨_, _, _, _, _, _, _, _, fun w' kz => ⟨pc0 (kz.blk hbp20 id), pc1 (kz.blk hbp20 id), pc2 (kz.blk hbp20 id), pc3 (kz.blk hbp20 id), trivial⟩, ?_⟩
    refine back_c (p := d) fun w21 k21 => ⟨_, _, _, _, _, _, _, _, rfl, kd.trans0 k21, ?_⟩
    refine ref_c (p := p) fun w22 k22 => ⟨_, _, _, _, _, _, _, _, rfl, (kd.trans0 k21).trans0 k22, ?_⟩
    have k2022 := (kd.trans0 k21).trans0 k22
    refine same_c (p := d) (q := p) ((hdo.kp0 (k1520.trans0 k2022)).to_in) (hp.kp0 (k020.trans0 k2022)) fun w23 k23 => ⟨_, rfl, k2022.trans0 k23, cond_t ?_ ?_⟩
    · unfold sameP
      exact decide_eq_true ⟨by rw [hd1, en], by rw [hd2, el], rfl, rfl⟩
    have k2023 := k2022.trans0 k23
    refine ⟨_, _, _, _, _, _, _, _, fun w' kz => ⟨pc0 (kz.blk hbq20 id), pc1 (kz.blk hbq20 id), pc2 (kz.blk hbq20 id), pc3 (kz.blk hbq20 id), trivial⟩, ?_⟩
    refine ⟨_, _, _, _, _, _, _, _, fun w' kz => ⟨pc0 (kz.blk hbp20 id), pc1 (kz.blk hbp20 id), pc2 (kz.blk hbp20 id), pc3 (kz.blk hbp20 id), trivial⟩, ?_⟩
    have k023 := k020.trans0 k2023
    exact kept7_c (p := p) (q := q) (hmk.kp0 k023) (hp.kp0 k023) (hq8.kp0 (k820.trans0 k2023)) fun w24 k24 => ⟨_, rfl, k2023.trans0 k24, h w24 (k023.trans0 k24)⟩
end Go.Proofs.YtnkdonpammdldaaDoor
