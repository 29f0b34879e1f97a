/- The statements' Book of layer 5: lists; holds. Conditions: lists of at most 1000. -/
import Derived.Test.YtjhncijdkmbopaaSf
set_option linter.unusedVariables false
set_option linter.unusedSimpArgs false
namespace Go.Proofs.Ytjhncijdkmbopaa
open Go Go.RowKit

theorem sltv_put {w : World} {ow : Nat → Nat} {e : TypeId} {s : Nat} {a : Option Addr} {l c i t b o : Nat} {xs : List Value} (h : SlT w ow e s a l c xs t) (ha : a = some ⟨b, o, none⟩) (hl : 0 < l) (hi : i < l * s) {v : Value} {ad : Addr} (had : ad = ⟨b, o + i, none⟩) {K : World → Prop}
    (hk : ∀ w', SlT w' ow e s a l c (xs.set i v) t → Fro (fun u => u ≠ t) w ow w' ow → K w') : StF w ad v K := by
  obtain ⟨b', cur, ha', _⟩ := h.sl.addr hl
  rw [ha'] at ha
  cases ha
  have hs := h.sl
  have ht := h.tg
  rw [ha'] at hs ht hk
  refine hs.putv hi (by rw [had, Nat.zero_add]) fun w' hs' k' s' => hk w' ⟨hs', ht⟩ (Fro.of_kp' k' fun b' _ hb' hne => hne (ht b' hb'))
theorem flatV_set {α : Type} {f : α → List Value} {s : Nat} (hs : ∀ x, (f x).length = s) {q : Nat} (hq : q < s) {x g : α} {v : Value} (hg : f g = (f x).set q v) : ∀ {L : List α} {i : Nat}, i < L.length → (flatV f (L.set i x)).set (i * s + q) v = flatV f (L.set i g)
  | [], i, h => by simp at h
  | y :: r, 0, h => by
    rw [List.set_cons_zero, List.set_cons_zero, flatV, flatV, Nat.zero_mul, Nat.zero_add, List.set_append_left _ _ (by rw [hs]; exact hq), hg]
  | y :: r, i + 1, h => by
    have e : (i + 1) * s + q = (f y).length + (i * s + q) := by rw [hs, Nat.add_mul, Nat.one_mul]; omega
    rw [List.set_cons_succ, List.set_cons_succ, flatV, flatV, List.set_append_right _ _ (by omega), e, Nat.add_sub_cancel_left, flatV_set hs hq hg (by simpa using h)]
theorem half_len {α : Type} {X Y : List α} {j : Nat} (hj : j < X.length) (hl : X.length = Y.length) : j < (X.take j ++ Y.drop j).length := by simp; omega

/-- A live transaction is written over. -/
theorem putLV {w : World} {ow : Nat → Nat} {a : Option Addr} {l c t k : Nat} {Z : List LV} (h : SlT w ow T_api_Live 4 a l c (flatV LV.cs Z) t) (hk : k < l) (hZ : k < Z.length) {b o : Nat} (ha : a = some ⟨b, o, none⟩) (g : LV) {d : Addr} (hd : d = ⟨b, o + k * 4, none⟩) {K : World → Prop}
    (hK : ∀ w', SlT w' ow T_api_Live 4 a l c (flatV LV.cs (Z.set k g)) t → Fro (fun u => u ≠ t) w ow w' ow → K w') :
    StF w d (.int .i64 g.tx) fun w1 => StF w1 (Addr.add d 1) (.int .i64 g.last) fun w2 => StF w2 (Addr.add d 2) (.bool g.c) fun w3 => StF w3 (Addr.add d 3) (.bool g.u) K := by
  subst hd
  have hz : Z = Z.set k Z[k] := (List.set_getElem_self _).symm
  rw [hz] at h
  refine sltv_put h ha (by omega) (i := k * 4 + 0) (by omega) rfl fun w1 h1 f1 => ?_
  rw [flatV_set LV.csl (by omega) (g := ⟨g.tx, Z[k].last, Z[k].c, Z[k].u⟩) rfl hZ] at h1
  refine sltv_put h1 ha (by omega) (i := k * 4 + 1) (by omega) (by rw [add_at, Nat.add_assoc]) fun w2 h2 f2 => ?_
  rw [flatV_set LV.csl (by omega) (g := ⟨g.tx, g.last, Z[k].c, Z[k].u⟩) rfl hZ] at h2
  refine sltv_put h2 ha (by omega) (i := k * 4 + 2) (by omega) (by rw [add_at, Nat.add_assoc]) fun w3 h3 f3 => ?_
  rw [flatV_set LV.csl (by omega) (g := ⟨g.tx, g.last, g.c, Z[k].u⟩) rfl hZ] at h3
  refine sltv_put h3 ha (by omega) (i := k * 4 + 3) (by omega) (by rw [add_at, Nat.add_assoc]) fun w4 h4 f4 => ?_
  rw [flatV_set LV.csl (by omega) (g := g) rfl hZ] at h4
  exact hK w4 h4 (((f1.trans f2).trans f3).trans f4)
theorem putDV {w : World} {ow : Nat → Nat} {a : Option Addr} {l c t k : Nat} {Z : List DV} (h : SlT w ow T_api_Dirty 2 a l c (flatV DV.cs Z) t) (hk : k < l) (hZ : k < Z.length) {b o : Nat} (ha : a = some ⟨b, o, none⟩) (g : DV) {d : Addr} (hd : d = ⟨b, o + k * 2, none⟩) {K : World → Prop}
    (hK : ∀ w', SlT w' ow T_api_Dirty 2 a l c (flatV DV.cs (Z.set k g)) t → Fro (fun u => u ≠ t) w ow w' ow → K w') :
    StF w d (.int .i64 g.page) fun w1 => StF w1 (Addr.add d 1) (.int .i64 g.since) K := by
  subst hd
  have hz : Z = Z.set k Z[k] := (List.set_getElem_self _).symm
  rw [hz] at h
  refine sltv_put h ha (by omega) (i := k * 2 + 0) (by omega) rfl fun w1 h1 f1 => ?_
  rw [flatV_set DV.csl (by omega) (g := ⟨g.page, Z[k].since⟩) rfl hZ] at h1
  refine sltv_put h1 ha (by omega) (i := k * 2 + 1) (by omega) (by rw [add_at, Nat.add_assoc]) fun w2 h2 f2 => ?_
  rw [flatV_set DV.csl (by omega) (g := g) rfl hZ] at h2
  exact hK w2 h2 (f1.trans f2)

theorem half_end {α : Type} {X Y : List α} {k : Nat} (h1 : X.length = k) (h2 : Y.length = k) : X.take k ++ Y.drop k = X := by
  rw [List.drop_eq_nil_of_le (by omega), List.append_nil, List.take_of_length_le (by omega)]

set_option maxHeartbeats 2000000 in
theorem blists_c {w : World} {ow : Nat → Nat} {b nB nL t1 t2 : Nat} {r : RV} {m : Mm} {R : Ending → World → Prop} (hk : Bq w ow b nB nL) (hn : nL ≤ 1000) (hnB : nB ≤ 1000)
    (hl : SlT w ow T_api_Live 4 m.la m.ll m.lc (flatV LV.cs r.live) t1) (hd : SlT w ow T_api_Dirty 2 m.da m.dl m.dc (flatV DV.cs r.dirty) t2) (ht1 : t1 < 1000) (ht2 : t2 < 1000) (h12 : t1 ≠ t2) (hll : m.ll ≤ 100000) (hdl : m.dl ≤ 100000)
    (h : ∀ w' ow', Bq w' ow' b nB (nL + 1) → Fro (fun u => u < 1000 ∧ u ≠ t1 ∧ u ≠ t2) w ow w' ow' → R (.returned (.tuple #[])) w') : GoC Try.prog F_law05_Book_lists #[.pointer (some ⟨b, 0, none⟩), .agg (r.ca m)] w R := by
  obtain ⟨G1, M1, G2, M2, G3, M3, L1, K1, L2, K2, L3, K3, hk⟩ := hk
  refine S_law05_Book_lists ?_
  unfold W_law05_Book_lists
  have hLl : r.live.length = m.ll := by have := hl.sl.1; rw [flatV_len LV.csl] at this; omega
  have hDl : r.dirty.length = m.dl := by have := hd.sl.1; rw [flatV_len DV.csl] at this; omega
  generalize r.live = L at *
  generalize r.dirty = D at *
  obtain ⟨hl, fr⟩ := hl.retag (20000 + nL)
  have hk := hk.fr fr fun u hu => by omega
  have hd := hd.fr fr (by omega)
  have Fr := fr.mono fun u (hu : u < 1000 ∧ u ≠ t1 ∧ u ≠ t2) => hu.2.1
  generalize tag (Is m.la) (20000 + nL) ow = ow1 at *
  clear fr
  obtain ⟨hd, fr⟩ := hd.retag (30000 + nL)
  have hk := hk.fr fr fun u hu => by omega
  have hl := hl.fr fr (by omega)
  have Fr := Fr.trans (fr.mono fun u (hu : u < 1000 ∧ u ≠ t1 ∧ u ≠ t2) => hu.2.2)
  generalize tag (Is m.da) (30000 + nL) ow1 = ow2 at *
  clear fr
  have F0 : Fro (fun _ => True) w ow2 w ow2 := ⟨Kp.refl _ _, fun _ _ _ => rfl⟩
  refine AlF.intro fun b1 w1 hb1e hb1 k1 _ => ?_
  have f1 : Fro (fun _ => True) w ow2 w1 (ext ow2 w.heap.size 7) := Fro.of_kp0 7 k1
  have hk := hk.fr f1 fun _ _ => trivial
  have hl := hl.fr f1 trivial
  have hd := hd.fr f1 trivial
  have Fr := Fr.trans (f1.mono fun u (hu : u < 1000 ∧ u ≠ t1 ∧ u ≠ t2) => trivial)
  generalize ext ow2 w.heap.size 7 = ow3 at *
  clear f1 F0
  refine NilF.intro rfl ⟨_, _, _, hk.x.at rfl rfl, _, _, _, hb1.at rfl rfl, _, _, _, hb1.at rfl rfl, ?_⟩
  rw [hk.p2.gn]
  have wn : IntKind.wrap .i64 ((nL : Int) + 1000000) = (nL : Int) + 1000000 := wrap_i64 (by omega) (by omega)
  rw [wn]
  clear wn
  refine loopN (fun s w' => ∃ k : Nat, k ≤ m.ll ∧ s.1 = (k : Int) ∧ SlT w' ow3 T_api_Live 4 m.la m.ll m.lc (flatV LV.cs ((List.replicate m.ll (mkLv nL)).take k ++ L.drop k)) (20000 + nL) ∧ Fro (fun u => u ≠ 20000 + nL) w1 ow3 w' ow3) (fun s _ => m.ll - s.1.toNat) ⟨0, Nat.zero_le _, rfl, hl, ⟨Kp.refl _ _, fun _ _ _ => rfl⟩⟩ ?_
  rintro ⟨k0, u⟩ w2 ⟨k, hkl, hk0, hs1, F⟩ _
  dsimp only at hk0 ⊢
  subst hk0
  refine cond_d (fun hlt => ?_) (fun hge => ?_)
  · obtain ⟨b', cur, ha, _⟩ := hs1.sl.addr (by omega)
    refine ⟨by omega, by omega, _, ha, ?_⟩
    refine putLV hs1 (k := k) (by omega) (half_len (by simp; omega) (by simp [hLl])) ha (mkLv nL) (by rw [Int.toNat_natCast, add_at]) fun w3 hs2 f2 => ?_
    rw [half_set (by simp; omega) (by simp [hLl]) (List.getElem_replicate ..)] at hs2
    rw [wrap_i64 (x := (k : Int) + 1) (by omega) (by omega)]
    exact ⟨⟨k + 1, by omega, by omega, hs2, F.trans f2⟩, by omega⟩
  have hke : k = m.ll := by omega
  subst hke
  rw [half_end (by simp) hLl] at hs1
  have hk := hk
  have x2 := blk_fr hk.x hk.t F (by omega)
  have p1 := hk.p1.fr F (by omega) (by omega) fun j hj => by omega
  have p2 := hk.p2.fr F (by omega) (by omega) fun j hj => by omega
  have p3 := hk.p3.fr F (by omega) (by omega) fun j hj => by omega
  have hk : Bk w2 ow3 b nB nL G1 M1 G2 M2 G3 M3 L1 K1 L2 K2 L3 K3 := ⟨x2.1, x2.2, p1, p2, p3⟩
  have hd := hd.fr F (by omega)
  have Fr := Fr.trans (F.mono fun u (hu : u < 1000 ∧ u ≠ t1 ∧ u ≠ t2) => by omega)
  clear x2 p1 p2 p3 F hl
  refine loopN (fun s w' => ∃ k : Nat, k ≤ m.dl ∧ s.1 = (k : Int) ∧ SlT w' ow3 T_api_Dirty 2 m.da m.dl m.dc (flatV DV.cs ((List.replicate m.dl (mkDv nL)).take k ++ D.drop k)) (30000 + nL) ∧ Fro (fun u => u ≠ 30000 + nL) w2 ow3 w' ow3) (fun s _ => m.dl - s.1.toNat) ⟨0, Nat.zero_le _, rfl, hd, ⟨Kp.refl _ _, fun _ _ _ => rfl⟩⟩ ?_
  rintro ⟨k0, u⟩ w3 ⟨k, hkl, hk0, hs2, F⟩ _
  dsimp only at hk0 ⊢
  subst hk0
  refine cond_d (fun hlt => ?_) (fun hge => ?_)
  · obtain ⟨b', cur, ha, _⟩ := hs2.sl.addr (by omega)
    refine ⟨by omega, by omega, _, ha, ?_⟩
    refine putDV hs2 (k := k) (by omega) (half_len (by simp; omega) (by simp [hDl])) ha (mkDv nL) (by rw [Int.toNat_natCast, add_at]) fun w4 hs3 f2 => ?_
    rw [half_set (by simp; omega) (by simp [hDl]) (List.getElem_replicate ..)] at hs3
    rw [wrap_i64 (x := (k : Int) + 1) (by omega) (by omega)]
    exact ⟨⟨k + 1, by omega, by omega, hs3, F.trans f2⟩, by omega⟩
  have hke : k = m.dl := by omega
  subst hke
  rw [half_end (by simp) hDl] at hs2
  obtain ⟨x, tx⟩ := blk_fr hk.x hk.t F (by omega)
  have p1 := hk.p1.fr F (by omega) (by omega) fun j hj => by omega
  have p2 := hk.p2.fr F (by omega) (by omega) fun j hj => by omega
  have p3 := hk.p3.fr F (by omega) (by omega) fun j hj => by omega
  have hs1 := hs1.fr F (by omega)
  have Fr := Fr.trans (F.mono fun u (hu : u < 1000 ∧ u ≠ t1 ∧ u ≠ t2) => by omega)
  clear F hk hd
  have gl2 := p2.gl; have gn2 := p2.gn; have ml2 := p2.ml; have mn2 := p2.mn
  have gl3 := p3.gl; have gn3 := p3.gn; have ml3 := p3.ml; have mn3 := p3.mn
  -- the lists
  refine NilF.intro rfl ⟨_, _, _, x.at rfl rfl, ?_⟩
  refine pushT er_sl p2.g (v := siV ⟨m.la, m.ll, m.lc⟩) rfl (by omega) (by omega) fun a' c' w4 g2 _ f2 => ?_
  obtain ⟨x4, tx4⟩ := blk_fr x tx f2 (by omega)
  refine NilF.intro rfl (StF.at rfl x4 (by simp) fun w5 x5 k5 _ => ?_)
  have x5 : Blk w5 b #[siV G1, siV M1, siV ⟨a', G2.l + 1, c'⟩, siV M2, siV G3, siV M3] T_quotalaw05_Book := x5
  have f3 : Fro (fun u => u ≠ 1000) w4 (ext ow3 w3.heap.size 1003) w5 (ext ow3 w3.heap.size 1003) := Fro.of_kp' k5 fun b _ hb' hne => hne (by rw [hb']; exact tx4)
  have f23 := (f2.mono fun u (hu : u ≠ 1003 ∧ u ≠ 1000) => hu.1).trans (f3.mono fun u hu => hu.2)
  have g2 := g2.fr f3 (by omega)
  have m2 := p2.m.fr f23 (by omega)
  have r2 := p2.r.fr f23 fun j hj => by omega
  have s2 := p2.s.fr f23 fun j hj => by omega
  have p1 := p1.fr f23 (by omega) (by omega) fun j hj => by omega
  have p3 := p3.fr f23 (by omega) (by omega) fun j hj => by omega
  have hs1 := hs1.fr f23 (by omega)
  have hs2 := hs2.fr f23 (by omega)
  have Fr := Fr.trans (f23.mono fun u (hu : u < 1000 ∧ u ≠ t1 ∧ u ≠ t2) => by omega)
  rw [map_snoc] at g2
  clear f2 f3 f23 p2 x x4 tx k5
  generalize ext ow3 w3.heap.size 1003 = ow4 at *
  refine NilF.intro rfl ⟨_, _, _, x5.at rfl rfl, ?_⟩
  refine pushT er_sd p3.g (v := siV ⟨m.da, m.dl, m.dc⟩) rfl (by omega) (by omega) fun a'' c'' w6 g3 _ f2 => ?_
  obtain ⟨x6, tx6⟩ := blk_fr x5 tx4 f2 (by omega)
  refine NilF.intro rfl (StF.at rfl x6 (by simp) fun w7 x7 k7 _ => ?_)
  have x7 : Blk w7 b #[siV G1, siV M1, siV ⟨a', G2.l + 1, c'⟩, siV M2, siV ⟨a'', G3.l + 1, c''⟩, siV M3] T_quotalaw05_Book := x7
  have f3 : Fro (fun u => u ≠ 1000) w6 (ext ow4 w5.heap.size 1005) w7 (ext ow4 w5.heap.size 1005) := Fro.of_kp' k7 fun b _ hb' hne => hne (by rw [hb']; exact tx6)
  have f23 := (f2.mono fun u (hu : u ≠ 1005 ∧ u ≠ 1000) => hu.1).trans (f3.mono fun u hu => hu.2)
  have g3 := g3.fr f3 (by omega)
  have m3 := p3.m.fr f23 (by omega)
  have r3 := p3.r.fr f23 fun j hj => by omega
  have s3 := p3.s.fr f23 fun j hj => by omega
  have p1 := p1.fr f23 (by omega) (by omega) fun j hj => by omega
  have g2 := g2.fr f23 (by omega)
  have m2 := m2.fr f23 (by omega)
  have r2 := r2.fr f23 fun j hj => by omega
  have s2 := s2.fr f23 fun j hj => by omega
  have hs1 := hs1.fr f23 (by omega)
  have hs2 := hs2.fr f23 (by omega)
  have Fr := Fr.trans (f23.mono fun u (hu : u < 1000 ∧ u ≠ t1 ∧ u ≠ t2) => by omega)
  rw [map_snoc] at g3
  clear f2 f3 f23 p3 x5 x6 tx4 k7
  generalize ext ow4 w5.heap.size 1005 = ow5 at *
  -- longer: the live ones
  have fd : Fro (fun _ => True) w7 ow5 w7.drew ow5 := Fro.of_kp' (Kp.drew w7 1) fun _ _ hh => hh.elim
  refine ⟨fun w' => ∃ ow', Fro (fun u => u = 1000) w7 ow5 w' ow', ⟨ow5, fd.mono fun _ _ => trivial⟩, NilF.intro rfl ⟨_, _, _, fun w' ⟨ow', f'⟩ => (blk_fr x7 tx6 f' rfl).1.at rfl rfl, ?_⟩⟩
  refine AlF.intro fun b2 w8 hb2e hb2 k4 _ => ?_
  have f4 : Fro (fun _ => True) w7.drew ow5 w8 (ext ow5 w7.drew.heap.size 9) := Fro.of_kp0 9 k4
  have f4 := fd.trans f4
  generalize ext ow5 w7.drew.heap.size 9 = ow6 at *
  refine ⟨⟨_, f4.mono fun _ _ => trivial⟩, ?_⟩
  refine app_both er_lv (hs1.fr f4 trivial) (rd_cells hb2 (xs := (mkLv nL).cs) rfl) (by rw [LV.csl]) (fun hh => by cases hh) (LV.cs1 _) (by omega) (by omega) fun a6 c6 w9 hs6 hs5 _ f5 => ⟨a6, _, c6, rfl, ?_⟩
  have f5 := (f4.mono fun u (_ : u ≠ 20000 + nL) => trivial).trans f5
  generalize ext ow6 w8.heap.size (20000 + nL) = ow7 at *
  refine ⟨⟨_, f5.mono fun u hu => by omega⟩, ?_⟩
  have hm5 := m2.fr f5 (by omega)
  refine AlF.intro fun b3 w10 hb3e hb3 k6 _ => ?_
  have f6 : Fro (fun _ => True) w9 ow7 w10 (ext ow7 w9.heap.size 9) := Fro.of_kp0 9 k6
  have f6' := f5.trans (f6.mono fun u _ => trivial)
  generalize ext ow7 w9.heap.size 9 = ow8 at *
  refine ⟨⟨_, f6'.mono fun u hu => by omega⟩, ?_⟩
  refine app_c er_sl (hm5.fr f6 trivial) (rd_cells hb3 (xs := [siV ⟨a6, m.ll + 1, c6⟩]) rfl) rfl (fun hh => by cases hh) (by intro v hv; simp at hv; subst hv; rfl) (by omega) (by omega) fun a7 c7 w11 hm7 _ f7 => ⟨a7, _, c7, rfl, ?_⟩
  have f7' := (f6'.mono fun u (hu : u ≠ 20000 + nL ∧ u ≠ 1004) => hu.1).trans (f7.mono fun u hu => hu.2)
  have f67 := (f6.mono fun u (hu : u ≠ 1004) => trivial).trans f7
  generalize ext ow8 w10.heap.size 1004 = ow9 at *
  refine ⟨⟨_, f7'.mono fun u hu => by omega⟩, ?_⟩
  obtain ⟨x11, tx11⟩ := blk_fr x7 tx6 f7' (by omega)
  refine NilF.intro rfl (StF.at rfl x11 (by simp) fun w12 x12 k8 _ => ?_)
  have x12 : Blk w12 b #[siV G1, siV M1, siV ⟨a', G2.l + 1, c'⟩, siV ⟨a7, M2.l + 1, c7⟩, siV ⟨a'', G3.l + 1, c''⟩, siV M3] T_quotalaw05_Book := x12
  have f8 : Fro (fun u => u ≠ 1000) w11 ow9 w12 ow9 := Fro.of_kp' k8 fun b _ hb' hne => hne (by rw [hb']; exact tx11)
  have f8' := (f7'.mono fun u (hu : u ≠ 20000 + nL ∧ u ≠ 1004 ∧ u ≠ 1000) => by omega).trans (f8.mono fun u hu => hu.2.2)
  have f68 := (f67.mono fun u (hu : u ≠ 1004 ∧ u ≠ 1000) => hu.1).trans (f8.mono fun u hu => hu.2)
  rw [map_snoc] at hm7
  have p2 : PF LV.cs mkLv T_s_api_Live 20000 1003 1004 w12 ow9 ⟨a', G2.l + 1, c'⟩ ⟨a7, M2.l + 1, c7⟩ (nL + 1) (L2 ++ [⟨m.la, m.ll, m.lc⟩]) (K2 ++ [⟨a6, m.ll + 1, c6⟩]) := by
    refine ⟨g2.fr f8' (by omega), hm7.fr f8 (by omega), by simp [gl2], by rw [gn2], by simp [ml2], by rw [mn2], ?_, ?_⟩
    · refine (r2.fr f8' fun j hj => by omega).snoc ?_ (by dsimp only; omega)
      rw [gl2]
      exact (hs5.fr f68 (by omega)).rdt
    · refine (s2.fr f8' fun j hj => by omega).snoc ?_ (by dsimp only; omega)
      rw [ml2]
      have : flatV LV.cs (List.replicate m.ll (mkLv nL)) ++ (mkLv nL).cs = flatV LV.cs (List.replicate (m.ll + 1) (mkLv nL)) := by
        rw [List.replicate_succ', flatV_app]
        simp [flatV]
      rw [this] at hs6
      exact (hs6.fr f68 (by omega)).rdt
  have p1 := p1.fr f8' (by omega) (by omega) fun j hj => by omega
  have g3 := g3.fr f8' (by omega)
  have m3 := m3.fr f8' (by omega)
  have r3 := r3.fr f8' fun j hj => by omega
  have s3 := s3.fr f8' fun j hj => by omega
  have hs2 := hs2.fr f8' (by omega)
  have Fr := Fr.trans (f8'.mono fun u (hu : u < 1000 ∧ u ≠ t1 ∧ u ≠ t2) => by omega)
  clear g2 m2 r2 s2 hs1 hs5 hs6 hm5 hm7 f4 f5 f6 f6' f7 f7' f67 f8 f8' f68 x7 tx6 x11 fd hb2 hb3
  -- longer: the dirty pages
  have fd : Fro (fun _ => True) w12 ow9 w12.drew ow9 := Fro.of_kp' (Kp.drew w12 1) fun _ _ hh => hh.elim
  refine ⟨fun w' => ∃ ow', Fro (fun u => u = 1000) w12 ow9 w' ow', ⟨ow9, fd.mono fun _ _ => trivial⟩, NilF.intro rfl ⟨_, _, _, fun w' ⟨ow', f'⟩ => (blk_fr x12 tx11 f' rfl).1.at rfl rfl, ?_⟩⟩
  refine AlF.intro fun b2 w13 hb2e hb2 k4 _ => ?_
  have f4 : Fro (fun _ => True) w12.drew ow9 w13 (ext ow9 w12.drew.heap.size 9) := Fro.of_kp0 9 k4
  have f4 := fd.trans f4
  generalize ext ow9 w12.drew.heap.size 9 = ow10 at *
  refine ⟨⟨_, f4.mono fun _ _ => trivial⟩, ?_⟩
  refine app_both er_dv (hs2.fr f4 trivial) (rd_cells hb2 (xs := (mkDv nL).cs) rfl) (by rw [DV.csl]) (fun hh => by cases hh) (DV.cs1 _) (by omega) (by omega) fun a6 c6 w14 hs6 hs5 _ f5 => ⟨a6, _, c6, rfl, ?_⟩
  have f5 := (f4.mono fun u (_ : u ≠ 30000 + nL) => trivial).trans f5
  generalize ext ow10 w13.heap.size (30000 + nL) = ow11 at *
  refine ⟨⟨_, f5.mono fun u hu => by omega⟩, ?_⟩
  have hm5 := m3.fr f5 (by omega)
  refine AlF.intro fun b3 w15 hb3e hb3 k6 _ => ?_
  have f6 : Fro (fun _ => True) w14 ow11 w15 (ext ow11 w14.heap.size 9) := Fro.of_kp0 9 k6
  have f6' := f5.trans (f6.mono fun u _ => trivial)
  generalize ext ow11 w14.heap.size 9 = ow12 at *
  refine ⟨⟨_, f6'.mono fun u hu => by omega⟩, ?_⟩
  refine app_c er_sd (hm5.fr f6 trivial) (rd_cells hb3 (xs := [siV ⟨a6, m.dl + 1, c6⟩]) rfl) rfl (fun hh => by cases hh) (by intro v hv; simp at hv; subst hv; rfl) (by omega) (by omega) fun a8 c8 w16 hm7 _ f7 => ⟨a8, _, c8, rfl, ?_⟩
  have f7' := (f6'.mono fun u (hu : u ≠ 30000 + nL ∧ u ≠ 1006) => hu.1).trans (f7.mono fun u hu => hu.2)
  have f67 := (f6.mono fun u (hu : u ≠ 1006) => trivial).trans f7
  generalize ext ow12 w15.heap.size 1006 = ow13 at *
  refine ⟨⟨_, f7'.mono fun u hu => by omega⟩, ?_⟩
  obtain ⟨x16, tx16⟩ := blk_fr x12 tx11 f7' (by omega)
  refine NilF.intro rfl (StF.at rfl x16 (by simp) fun w17 x17 k8 _ => ?_)
  have x17 : Blk w17 b #[siV G1, siV M1, siV ⟨a', G2.l + 1, c'⟩, siV ⟨a7, M2.l + 1, c7⟩, siV ⟨a'', G3.l + 1, c''⟩, siV ⟨a8, M3.l + 1, c8⟩] T_quotalaw05_Book := x17
  have f8 : Fro (fun u => u ≠ 1000) w16 ow13 w17 ow13 := Fro.of_kp' k8 fun b _ hb' hne => hne (by rw [hb']; exact tx16)
  have f8' := (f7'.mono fun u (hu : u ≠ 30000 + nL ∧ u ≠ 1006 ∧ u ≠ 1000) => by omega).trans (f8.mono fun u hu => hu.2.2)
  have f68 := (f67.mono fun u (hu : u ≠ 1006 ∧ u ≠ 1000) => hu.1).trans (f8.mono fun u hu => hu.2)
  rw [map_snoc] at hm7
  have p3 : PF DV.cs mkDv T_s_api_Dirty 30000 1005 1006 w17 ow13 ⟨a'', G3.l + 1, c''⟩ ⟨a8, M3.l + 1, c8⟩ (nL + 1) (L3 ++ [⟨m.da, m.dl, m.dc⟩]) (K3 ++ [⟨a6, m.dl + 1, c6⟩]) := by
    refine ⟨g3.fr f8' (by omega), hm7.fr f8 (by omega), by simp [gl3], by rw [gn3], by simp [ml3], by rw [mn3], ?_, ?_⟩
    · refine (r3.fr f8' fun j hj => by omega).snoc ?_ (by dsimp only; omega)
      rw [gl3]
      exact (hs5.fr f68 (by omega)).rdt
    · refine (s3.fr f8' fun j hj => by omega).snoc ?_ (by dsimp only; omega)
      rw [ml3]
      have : flatV DV.cs (List.replicate m.dl (mkDv nL)) ++ (mkDv nL).cs = flatV DV.cs (List.replicate (m.dl + 1) (mkDv nL)) := by
        rw [List.replicate_succ', flatV_app]
        simp [flatV]
      rw [this] at hs6
      exact (hs6.fr f68 (by omega)).rdt
  exact h w17 ow13 ⟨_, _, _, _, _, _, _, _, _, _, _, _, x17, tx16, p1.fr f8' (by omega) (by omega) (fun j hj => by omega), p2.fr f8' (by omega) (by omega) (fun j hj => by omega), p3⟩ (Fr.trans (f8'.mono fun u hu => by omega))
end Go.Proofs.Ytjhncijdkmbopaa
