/- Contract of the statements' points of layer 5. Conditions: lists of at most 100. -/
import Derived.Test.YtjhncijdkmbopaaRy
set_option linter.unusedVariables false
set_option linter.unusedSimpArgs false
namespace Go.Proofs.Ytjhncijdkmbopaa
open Go Go.RowKit

theorem RdT.old {w0 w : World} {ow : Nat → Nat} {a : Option Addr} {xs : List Value} (h : Rd w0 a xs) (o : Old w0 w ow) : RdT w ow a xs 0 :=
  ⟨h.kp0 o.kp, fun hx j hj => by
    obtain ⟨b, o', ha, hlt, _⟩ := h.addr hx
    obtain ⟨ad, had, rfl⟩ := hj
    rw [ha] at had
    cases had
    exact o.z _ hlt⟩

def lvP (lsn at_ : Int) (x : LV) : LV := ⟨at_ + rstI x.tx 1 1000, rstI x.last 1 (lsn - 1), x.c, x.u && !x.c⟩
def ptLs (lsn : Int) : List LV → Int → List LV
  | [], _ => []
  | x :: l, at_ => lvP lsn at_ x :: ptLs lsn l (at_ + rstI x.tx 1 1000)
def ptAt : List LV → Int → Int
  | [], at_ => at_
  | x :: l, at_ => ptAt l (at_ + rstI x.tx 1 1000)
def m5 (p : Int) : Int := if 63 < p + 5 then 63 else p + 5
def dvP (lsn page : Int) (y : DV) : DV := ⟨rstI y.page (page + 1) (m5 page), rstI y.since 1 (lsn - 1)⟩
def ptDs (lsn : Int) : List DV → Int → Nat → List DV
  | [], _, _ => []
  | y :: l, p, n => if n < 16 ∧ p < 63 then dvP lsn p y :: ptDs lsn l (dvP lsn p y).page (n + 1) else []

set_option maxHeartbeats 2000000 in
theorem spoints_c {w : World} {m : Mm} {L : List LV} {D : List DV} {next lsn : Int} {R : Ending → World → Prop} (hi : LiIn w m L D) (hl1 : L.length ≤ 100) (hd1 : D.length ≤ 100) (hn : 2 ≤ lsn) (hn2 : lsn ≤ 2147483647)
    (h : ∀ m' w', Kp no w w' → LiIn w' m' (ptLs lsn (L.take 32) 0) (ptDs lsn D (-1) 0) → (∀ b, Is m'.la b → w.heap.size ≤ b) → (∀ b, Is m'.da b → w.heap.size ≤ b) → R (.returned (.agg (ptc m' (rstI next (ptAt (L.take 32) 0 + 1) 2147483648)))) w') :
    GoC Try.prog F_law05_points #[.agg (ptc m next), .int .i64 lsn] w R := by
  refine S_law05_points ?_
  unfold W_law05_points
  have hll := hi.ll
  have hdl := hi.dl
  refine AlF.intro fun b1 w1 hb1e hb1 k1 _ => AlF.intro fun b2 w2 hb2e hb2 k2 _ => AlF.intro fun b3 w3 hb3e hb3 k3 _ => ?_
  have f1 : Fro (fun _ => True) w (fun _ => 0) w1 (ext (fun _ => 0) w.heap.size 1) := Fro.of_kp0 1 k1
  have f2 : Fro (fun _ => True) w1 (ext (fun _ => 0) w.heap.size 1) w2 (ext (ext (fun _ => 0) w.heap.size 1) w1.heap.size 6) := Fro.of_kp0 6 k2
  have f3 : Fro (fun _ => True) w2 (ext (ext (fun _ => 0) w.heap.size 1) w1.heap.size 6) w3 (ext (ext (ext (fun _ => 0) w.heap.size 1) w1.heap.size 6) w2.heap.size 7) := Fro.of_kp0 7 k3
  have t1 : ext (fun _ => 0) w.heap.size 1 b1 = 1 := ext_new (by omega)
  have t2 : ext (ext (fun _ => 0) w.heap.size 1) w1.heap.size 6 b2 = 6 := ext_new (by omega)
  have o0 : Old w w fun _ => 0 := ⟨Kp.refl _ _, fun _ _ => rfl⟩
  have o3 := ((o0.fr f1 trivial).fr f2 trivial).fr f3 trivial
  obtain ⟨x1, t1⟩ := blk_fr hb1 t1 f2 trivial
  obtain ⟨x1, t1⟩ := blk_fr x1 t1 f3 trivial
  obtain ⟨x2, t2⟩ := blk_fr hb2 t2 f3 trivial
  have px3 : Px w3 (ext (ext (ext (fun _ => 0) w.heap.size 1) w1.heap.size 6) w2.heap.size 7) b2 b3 {} 0 := ⟨x2, t2, hb3, ext_new (by omega)⟩
  generalize ext (ext (ext (fun _ => 0) w.heap.size 1) w1.heap.size 6) w2.heap.size 7 = ow3 at *
  have hL3 := RdT.old hi.l o3
  have hD3 := RdT.old hi.d o3
  have wn : IntKind.wrap .i64 (lsn - 1) = lsn - 1 := wrap_i64 (by omega) (by omega)
  rw [wn]
  clear f1 f2 f3 k1 k2 k3 hb1 hb2 hb3
  refine ⟨fun s w' => ∃ (m' : Mm) (ow' : Nat → Nat), Px w' ow' b2 b3 m' 0 ∧ SlT w' ow' T_api_Live 4 m'.la m'.ll m'.lc (flatV LV.cs (ptLs lsn (L.take 32) 0)) 4 ∧ (m'.da = none ∧ m'.dl = 0 ∧ m'.dc = 0) ∧ (ptLs lsn (L.take 32) 0).length = m'.ll ∧ m'.ll ≤ 32 ∧ s.1 = ptAt (L.take 32) 0 ∧ 0 ≤ s.1 ∧ s.1 ≤ 32000 ∧ Fro (fun t => t ≤ 2) w3 ow3 w' ow', ?_, ?_⟩
  · refine loopN (fun s w' => ∃ k : Nat, k ≤ L.length ∧ k ≤ 32 ∧ s.2.1 = (k : Int) ∧ 0 ≤ s.1 ∧ s.1 ≤ 1000 * (k : Int) ∧ ∃ (A : List LV) (m' : Mm) (ow' : Nat → Nat), Px w' ow' b2 b3 m' 0 ∧ SlT w' ow' T_api_Live 4 m'.la m'.ll m'.lc (flatV LV.cs A) 4 ∧ (m'.da = none ∧ m'.dl = 0 ∧ m'.dc = 0) ∧ A.length = m'.ll ∧ m'.ll = k ∧
        ptLs lsn (L.take 32) 0 = A ++ ptLs lsn ((L.take 32).drop k) s.1 ∧ ptAt (L.take 32) 0 = ptAt ((L.take 32).drop k) s.1 ∧ Fro (fun t => t ≤ 2) w3 ow3 w' ow') (fun s _ => L.length - s.2.1.toNat)
      ⟨0, Nat.zero_le _, by omega, rfl, Int.le_refl _, by dsimp only; omega, [], {}, ow3, px3, slt_nil _ _ _ _ _, ⟨rfl, rfl, rfl⟩, rfl, rfl, rfl, rfl, ⟨(Kp.refl _ w3), fun _ _ _ => rfl⟩⟩ ?_
    rintro ⟨at_, k0, u⟩ wa ⟨k, hkl, hk32, hk0, ha0, ha1, A, m', owa, px, hlv, hmd, hA, hmk, hpl, hpa, F⟩ _
    dsimp only at hk0 ha0 ha1 hpl hpa ⊢
    subst hk0
    have y1 := (blk_fr x1 t1 F (by omega)).1
    have hLa := hL3.fr F (by omega)
    refine ⟨_, _, _, y1.at rfl rfl, cond_d (fun hlt => ?_) (fun hge => ?_)⟩
    rotate_left
    · have hke : (L.take 32).drop k = [] := List.drop_eq_nil_of_le (by rw [List.length_take]; omega)
      rw [hke, ptLs, List.append_nil] at hpl
      rw [hke, ptAt] at hpa
      exact ⟨m', owa, px, by rw [hpl]; exact hlv, hmd, by rw [hpl]; exact hA, by omega, hpa.symm, ha0, by omega, F⟩
    refine ⟨_, _, _, px.x2.at rfl rfl, cond_d (fun hlt2 => ?_) (fun hge => ?_)⟩
    rotate_left
    · have hke : (L.take 32).drop k = [] := List.drop_eq_nil_of_le (by rw [List.length_take]; omega)
      rw [hke, ptLs, List.append_nil] at hpl
      rw [hke, ptAt] at hpa
      exact ⟨m', owa, px, by rw [hpl]; exact hlv, hmd, by rw [hpl]; exact hA, by omega, hpa.symm, ha0, by omega, F⟩
    have hk1 : k < L.length := by omega
    have hk2 : k < (L.take 32).length := by rw [List.length_take]; omega
    rw [List.drop_eq_getElem_cons hk2, ptLs] at hpl
    rw [List.drop_eq_getElem_cons hk2, ptAt] at hpa
    have hge : (L.take 32)[k] = L[k] := List.getElem_take ..
    rw [hge] at hpl hpa
    refine ⟨_, _, _, y1.at rfl rfl, ?_⟩
    refine rd_el LV.csl (by omega) hLa.rd hk1 hll fun b o ha hc => ?_
    have cell : ∀ q v, (L[k]).cs[q]? = some v → wa.cell? (Addr.add ((⟨b, o, none⟩ : Addr).add (Int.toNat (k : Int) * 4)) q) = some v := fun q v hv => by
      rw [Int.toNat_natCast, add_at, add_at]; exact hc q v hv
    have cell0 : wa.cell? ((⟨b, o, none⟩ : Addr).add (Int.toNat (k : Int) * 4)) = some (.int .i64 (L[k]).tx) := by
      rw [Int.toNat_natCast, add_at]; exact hc 0 _ rfl
    refine ⟨_, _, _, _, ⟨cell0, cell 1 _ rfl, cell 2 _ rfl, cell 3 _ rfl, trivial⟩, ?_⟩
    generalize L[k] = x at *
    have hr1 := rstI_in (n := x.tx) (lo := 1) (hi := 1000) (by omega)
    refine lv_cp x fun b4 wb h4 => ?_
    have fb : Fro (fun _ => True) wa owa wb (ext owa wa.heap.size 9) := Fro.of_kp0 9 h4.kp
    have t9 : ext owa wa.heap.size 9 b4 = 9 := ext_new h4.nw
    have pxb := px.fr fb trivial trivial
    have hlb := hlv.fr fb trivial
    have Fb := F.trans (fb.mono fun t (_ : t ≤ 2) => trivial)
    generalize ext owa wa.heap.size 9 = owb at *
    refine ⟨_, h4.blk.at rfl rfl, rest_c (by omega) (by omega) (by omega) ⟨_, rfl, ?_⟩⟩
    have wat : IntKind.wrap .i64 (at_ + rstI x.tx 1 1000) = at_ + rstI x.tx 1 1000 := wrap_i64 (by omega) (by omega)
    rw [wat]
    refine StF.at rfl h4.blk (by simp [LV.cs]) fun wc xc kc _ => ⟨_, xc.at rfl rfl, rest_c (by omega) (by omega) (by omega) ⟨_, rfl, ?_⟩⟩
    refine StF.at rfl xc (by simp [LV.cs]) fun wd xd kd _ => ?_
    refine ⟨fun _ w' => Blk w' b4 (lvP lsn at_ x).cs.toArray T_api_Live ∧ Kp (fun k => k = b4) wb w', ?_, ?_⟩
    · refine ⟨_, xd.at rfl rfl, cond_b (fun hu => ⟨_, xd.at rfl rfl, ?_⟩) (fun hu => ?_)⟩
      · refine StF.at rfl xd (by simp [LV.cs]) fun we xe ke _ => ⟨?_, (kc.trans0 kd).trans0 ke⟩
        have : (lvP lsn at_ x).u = !x.c := by
          show (x.u && !x.c) = !x.c
          rw [hu]
          rfl
        have e : (lvP lsn at_ x).cs.toArray = #[.int .i64 (at_ + rstI x.tx 1 1000), .int .i64 (rstI x.last 1 (lsn - 1)), .bool x.c, .bool (!x.c)] := by
          unfold LV.cs
          rw [this]
          rfl
        rw [e]
        exact xe
      · refine StF.at rfl xd (by simp [LV.cs]) fun we xe ke _ => ⟨?_, (kc.trans0 kd).trans0 ke⟩
        have : (lvP lsn at_ x).u = false := by
          show (x.u && !x.c) = false
          rw [hu]
          rfl
        have e : (lvP lsn at_ x).cs.toArray = #[.int .i64 (at_ + rstI x.tx 1 1000), .int .i64 (rstI x.last 1 (lsn - 1)), .bool x.c, .bool false] := by
          unfold LV.cs
          rw [this]
          rfl
        rw [e]
        exact xe
    rintro _ we ⟨xe, ke⟩ _
    have fe : Fro (fun t => t ≠ 9) wb owb we owb := Fro.of_kp' ke fun b _ hb' hne => hne (by rw [hb']; exact t9)
    have pxe := pxb.fr fe (by omega) (by omega)
    have hle := hlb.fr fe (by omega)
    have Fe := Fb.trans (fe.mono fun t (ht : t ≤ 2) => by omega)
    refine ⟨_, _, _, pxe.x2.at rfl rfl, _, _, _, _, ⟨xe.at rfl rfl, xe.at rfl rfl, xe.at rfl rfl, xe.at rfl rfl, trivial⟩, ?_⟩
    refine pushPL pxe hle (lvP lsn at_ x) (by omega) fun m'' w7 ow7 px7 hl7 f7 hm' hmd' => ?_
    rw [wk1 hk1 (by omega)]
    refine ⟨⟨k + 1, by omega, by omega, rfl, by omega, by omega, _, m'', ow7, px7, hl7, by rw [hmd'.1, hmd'.2.1, hmd'.2.2]; exact hmd, by simp; omega, by omega, by rw [hpl, List.append_assoc]; rfl, hpa, Fe.trans (f7.mono fun t ht => by omega)⟩, by simp only [Int.toNat_natCast]; omega⟩
  rintro ⟨at_, u⟩ wa ⟨m', owa, px, hlv, hmd, hA, hm32, hat, ha0, ha1, F⟩ _
  dsimp only at hat ha0 ha1 ⊢
  rw [← hat] at h
  clear hat
  generalize ptLs lsn (L.take 32) 0 = A at *
  have y1 := (blk_fr x1 t1 F (by omega)).1
  have wat : IntKind.wrap .i64 (at_ + 1) = at_ + 1 := wrap_i64 (by omega) (by omega)
  rw [wat]
  refine ⟨_, y1.at rfl rfl, rest_c (by omega) (by omega) (by omega) ⟨_, rfl, ?_⟩⟩
  generalize rstI next (at_ + 1) 2147483648 = nx at *
  refine px.st m' nx rfl (Nat.le_of_ble_eq_true rfl) rfl fun wb pxb fb => ?_
  have hlvb := hlv.fr fb (by omega)
  have Fb := F.trans (fb.mono fun t (ht : t ≤ 2) => by omega)
  refine ⟨fun _ w' => ∃ (m2 : Mm) (ow' : Nat → Nat), Px w' ow' b2 b3 m2 nx ∧ SlT w' ow' T_api_Live 4 m2.la m2.ll m2.lc (flatV LV.cs A) 4 ∧ A.length = m2.ll ∧ m2.ll ≤ 32 ∧ SlT w' ow' T_api_Dirty 2 m2.da m2.dl m2.dc (flatV DV.cs (ptDs lsn D (-1) 0)) 5 ∧ (ptDs lsn D (-1) 0).length = m2.dl ∧ m2.dl ≤ 32 ∧ Fro (fun t => t ≤ 2) w3 ow3 w' ow', ?_, ?_⟩
  · refine loopN (fun s w' => ∃ k : Nat, k ≤ D.length ∧ k ≤ 16 ∧ s.2.1 = (k : Int) ∧ -1 ≤ s.1 ∧ s.1 ≤ 63 ∧ ∃ (B : List DV) (m2 : Mm) (ow' : Nat → Nat), Px w' ow' b2 b3 m2 nx ∧ SlT w' ow' T_api_Live 4 m2.la m2.ll m2.lc (flatV LV.cs A) 4 ∧ A.length = m2.ll ∧ m2.ll ≤ 32 ∧ SlT w' ow' T_api_Dirty 2 m2.da m2.dl m2.dc (flatV DV.cs B) 5 ∧ B.length = m2.dl ∧ m2.dl = k ∧
        ptDs lsn D (-1) 0 = B ++ ptDs lsn (D.drop k) s.1 k ∧ Fro (fun t => t ≤ 2) w3 ow3 w' ow') (fun s _ => D.length - s.2.1.toNat)
      ⟨0, Nat.zero_le _, by omega, rfl, by dsimp only; omega, by dsimp only; omega, [], m', owa, pxb, hlvb, hA, hm32, by rw [hmd.1, hmd.2.1, hmd.2.2]; exact slt_nil _ _ _ _ _, by rw [hmd.2.1]; rfl, hmd.2.1, rfl, Fb⟩ ?_
    rintro ⟨pg, k0, u⟩ wa ⟨k, hkl, hk16, hk0, hp0, hp1, B, m2, owa, px, hlv, hA, hm32, hdv, hB, hmk, hpd, F⟩ _
    dsimp only at hk0 hp0 hp1 hpd ⊢
    subst hk0
    have y1 := (blk_fr x1 t1 F (by omega)).1
    have hDa := hD3.fr F (by omega)
    have out : ptDs lsn (D.drop k) pg k = [] → ∃ (m2 : Mm) (ow' : Nat → Nat), Px wa ow' b2 b3 m2 nx ∧ SlT wa ow' T_api_Live 4 m2.la m2.ll m2.lc (flatV LV.cs A) 4 ∧ A.length = m2.ll ∧ m2.ll ≤ 32 ∧ SlT wa ow' T_api_Dirty 2 m2.da m2.dl m2.dc (flatV DV.cs (ptDs lsn D (-1) 0)) 5 ∧ (ptDs lsn D (-1) 0).length = m2.dl ∧ m2.dl ≤ 32 ∧ Fro (fun t => t ≤ 2) w3 ow3 wa ow' := fun he => by
      rw [he, List.append_nil] at hpd
      exact ⟨m2, owa, px, hlv, hA, hm32, by rw [hpd]; exact hdv, by rw [hpd]; exact hB, by omega, F⟩
    have outk : ¬ (k < D.length ∧ k < 16 ∧ pg < 63) → ptDs lsn (D.drop k) pg k = [] := fun hn => by
      by_cases hk1 : k < D.length
      · rw [List.drop_eq_getElem_cons hk1, ptDs, if_neg (by omega)]
      · rw [List.drop_eq_nil_of_le (by omega), ptDs]
    refine ⟨_, _, _, y1.at rfl rfl, cond_d (fun hlt => ?_) (fun hge => out (outk (by omega)))⟩
    refine ⟨_, _, _, px.x2.at rfl rfl, cond_d (fun hlt2 => ?_) (fun hge => out (outk (by omega)))⟩
    refine cond_d (fun hlt3 => ?_) (fun hge => out (outk (by omega)))
    have hk1 : k < D.length := by omega
    rw [List.drop_eq_getElem_cons hk1, ptDs, if_pos (by omega)] at hpd
    have w1e : IntKind.wrap .i64 (pg + 1) = pg + 1 := wrap_i64 (by omega) (by omega)
    have w5e : IntKind.wrap .i64 (pg + 5) = pg + 5 := wrap_i64 (by omega) (by omega)
    rw [w1e, w5e]
    have hm5 : pg + 1 ≤ m5 pg ∧ m5 pg ≤ 63 := by
      unfold m5
      split <;> omega
    refine ⟨_, _, _, y1.at rfl rfl, ?_⟩
    refine rd_el DV.csl (by omega) hDa.rd hk1 hdl fun b o ha hc => ?_
    refine ⟨(D[k]).page, by rw [Int.toNat_natCast, add_at]; exact hc 0 _ rfl, rest_c (hi := m5 pg) (by omega) (by omega) (by omega) ⟨_, rfl, ?_⟩⟩
    have hpr := rstI_in (n := (D[k]).page) (lo := pg + 1) (hi := m5 pg) (by omega)
    have fd : Fro (fun _ => True) wa owa wa.drew owa := Fro.of_kp' (Kp.drew wa 1) fun _ _ hh => hh.elim
    refine ⟨fun w' => ∃ ow', Fro (fun t => t ≤ 2 ∨ t = 7) wa owa w' ow', ⟨owa, fd.mono fun _ _ => trivial⟩, _, _, _, fun w' ⟨ow', f'⟩ => (blk_fr px.x2 px.t2 f' (.inr rfl)).1.at rfl rfl, _, _, _, fun w' ⟨ow', f'⟩ => (blk_fr y1 (blk_fr x1 t1 F (by omega)).2 f' (.inl (by omega))).1.at rfl rfl, ?_⟩
    refine rd_el DV.csl (by omega) hDa.rd hk1 hdl fun b' o' ha' hc' => ?_
    rw [ha] at ha'
    cases ha'
    refine ⟨(D[k]).since, fun w' ⟨ow', f'⟩ => ?_, rest_c (by omega) (by omega) (by omega) ⟨_, rfl, ⟨owa, fd.mono fun _ _ => trivial⟩, ?_⟩⟩
    · have hz : owa b = 0 := by
        have hne : flatV DV.cs D ≠ [] := fun hx => by
          have := flatV_len DV.csl D
          rw [hx] at this
          simp only [List.length_nil] at this
          omega
        exact hDa.tg hne b ⟨_, ha, rfl⟩
      rw [Int.toNat_natCast, add_at, add_at]
      exact f'.kp.cell (hc 1 _ rfl) (by intro hh; exact hh (.inl (by dsimp only at *; omega)))
    refine AlF.intro fun b6 wc hb6e hb6 kc _ => ?_
    have fc : Fro (fun _ => True) wa.drew owa wc (ext owa wa.drew.heap.size 8) := Fro.of_kp0 8 kc
    refine ⟨⟨_, (fd.trans fc).mono fun _ _ => trivial⟩, ?_⟩
    refine app_c er_dv ((hdv.fr fd trivial).fr fc trivial) (rd_cells hb6 (xs := (dvP lsn pg D[k]).cs) rfl) (by rw [DV.csl]) (fun hh => by cases hh) (DV.cs1 _) (by omega) (by omega) fun a' c' we hs' ke fe => ⟨a', _, c', rfl, ?_⟩
    have F7 : Fro (fun t => t ≠ 5) wa owa we (ext (ext owa wa.drew.heap.size 8) wc.heap.size 5) := ((fd.trans fc).mono fun _ _ => trivial).trans fe
    refine ⟨⟨_, F7.mono fun t ht => by omega⟩, ?_⟩
    refine (px.fr F7 (by omega) (by omega)).st { m2 with da := a', dl := m2.dl + 1, dc := c' } nx rfl (Nat.le_of_ble_eq_true rfl) rfl fun wf pxf ff => ?_
    rw [wk1 hk1 (by omega)]
    refine ⟨⟨k + 1, by omega, by omega, rfl, by omega, by omega, B ++ [dvP lsn pg D[k]], _, _, pxf, (hlv.fr F7 (by omega)).fr ff (by omega), hA, hm32, ?_, by simp; omega, by dsimp only; omega, by rw [hpd, List.append_assoc]; rfl, (F.trans (F7.mono fun t ht => by omega)).trans (ff.mono fun t ht => by omega)⟩, by simp only [Int.toNat_natCast]; omega⟩
    have := hs'.fr ff (by omega)
    show SlT wf _ T_api_Dirty 2 a' (m2.dl + 1) c' (flatV DV.cs (B ++ [dvP lsn pg D[k]])) 5
    rw [flatV_app]
    exact this
  rintro _ wc ⟨m2, owc, px, hlv, hA, hm32, hdv, hB, hmd2, F⟩ _
  refine ⟨_, _, _, _, _, _, _, ⟨px.x2.at rfl rfl, px.x2.at rfl rfl, px.x2.at rfl rfl, trivial⟩, ?_⟩
  refine StF.at rfl px.x1 (by simp [ptc]) fun wd xd kd _ => StF.at rfl xd (by simp [ptc]) fun we xe ke _ => StF.at rfl xe (by simp [ptc]) fun wf xf kf _ => ?_
  have ff : Fro (fun t => t ≠ 6) wc owc wf owc := Fro.of_kp' ((kd.trans0 ke).trans0 kf) fun b _ hb' hne => hne (by rw [hb']; exact px.t1)
  refine ⟨_, _, _, _, _, _, _, ⟨xf.at rfl rfl, xf.at rfl rfl, xf.at rfl rfl, trivial⟩, ?_⟩
  have Ff := F.trans (ff.mono fun t (ht : t ≤ 2) => by omega)
  refine h m2 wf (o3.fr Ff (by omega)).kp ⟨(hlv.fr ff (by omega)).sl.rd, hA, by omega, (hdv.fr ff (by omega)).sl.rd, hB, by omega⟩ (fresh_of (o3.fr Ff (by omega)) (hlv.fr ff (by omega)).tg (by omega)) (fresh_of (o3.fr Ff (by omega)) (hdv.fr ff (by omega)).tg (by omega))
end Go.Proofs.Ytjhncijdkmbopaa
