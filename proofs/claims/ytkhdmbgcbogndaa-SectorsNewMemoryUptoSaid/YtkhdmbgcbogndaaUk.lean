/- What is handed out and held: take, apart. Conditions: none. -/
import Derived.Test.YtkhdmbgcbogndaaUj
import Derived.Test.YtkhdmbgcbogndaaUi
set_option linter.unusedVariables false
set_option linter.unusedSimpArgs false
namespace Go.Proofs.Ytkhdmbgcbogndaa
open Go Go.RowKit

theorem er_ss : ElemRow Try.prog T_s_s_uint8 T_s_uint8 (.slice none 0 0) 1 24 := elemRow (by kernel_rfl) (by kernel_rfl) rfl

structure HS (w : World) (ow : Nat → Nat) (hb : Nat) (ga : Option Addr) (gc : Nat) (wa : Option Addr) (wc : Nat) (G W : List SI) (C : Nat → List UInt8) : Prop where
  b : Blk w hb #[.slice ga G.length gc, .slice wa W.length wc] T_quotalaw03_Held
  bt : ow hb = 2
  g : SlT w ow T_s_uint8 1 ga G.length gc (G.map siV) 3
  v : SlT w ow T_s_uint8 1 wa W.length wc (W.map siV) 4
  ge : Fam w ow T_uint8 1 100 G (fun j => bvs (C j))
  ve : ∀ j (h : j < W.length), SlT w ow T_uint8 1 (W[j]).a (W[j]).l (W[j]).c (bvs (C j)) 5
  eq : G.length = W.length
  n : G.length ≤ 1000
  sm : ∀ x ∈ G, x.l ≤ 100000
theorem HS.fr {T : Nat → Prop} {w w' : World} {ow ow' : Nat → Nat} {hb gc wc : Nat} {ga wa : Option Addr} {G W : List SI} {C : Nat → List UInt8} (h : HS w ow hb ga gc wa wc G W C) (f : Fro T w ow w' ow') (h1 : ∀ x, 2 ≤ x → x ≤ 5 → T x) (h2 : ∀ x, x < G.length → T (100 + x)) : HS w' ow' hb ga gc wa wc G W C :=
  ⟨(blk_fr h.b h.bt f (h1 2 (by omega) (by omega))).1, (blk_fr h.b h.bt f (h1 2 (by omega) (by omega))).2, h.g.fr f (h1 3 (by omega) (by omega)), h.v.fr f (h1 4 (by omega) (by omega)), h.ge.fr f h2, fun j hj => (h.ve j hj).fr f (h1 5 (by omega) (by omega)), h.eq, h.n, h.sm⟩
theorem HS.kp0 {w w' : World} {ow : Nat → Nat} {hb gc wc : Nat} {ga wa : Option Addr} {G W : List SI} {C : Nat → List UInt8} (h : HS w ow hb ga gc wa wc G W C) (k : Kp no w w') : HS w' ow hb ga gc wa wc G W C := h.fr (Fro.kp0 k) (fun _ _ _ => trivial) fun _ _ => trivial

section
variable {w : World} {ow : Nat → Nat} {hb gc wc : Nat} {ga wa : Option Addr} {G W : List SI} {C : Nat → List UInt8} {R : Ending → World → Prop}
set_option maxRecDepth 100000 in
theorem take_c {a : Option Addr} {l c : Nat} {bs : List UInt8} (h : HS w ow hb ga gc wa wc G W C) (hx : SlQ w ow T_uint8 1 a l c (bvs bs) (100 + G.length)) (hn : G.length < 1000) (hl : l ≤ 100000)
    (hK : ∀ ga' gc' wa' wc' x w' ow', HS w' ow' hb ga' gc' wa' wc' (G ++ [⟨a, l, c⟩]) (W ++ [x]) (fun j => if j = G.length then bs else C j) → Fro (fun u => u ≠ 2 ∧ u ≠ 3 ∧ u ≠ 4) w ow w' ow' → R (.returned (.tuple #[])) w') :
    GoC Try.prog F_law03_Held_take #[.pointer (some ⟨hb, 0, none⟩), .slice a l c] w R := by
  refine S_law03_Held_take ?_
  unfold W_law03_Held_take
  have hbl : bs.length = l := by have := hx.len1; rwa [bvs_len, Nat.mul_one] at this
  have heq := h.eq
  refine NilF.intro rfl ⟨_, _, _, c0 h.b rfl, pushT er_ss h.g (v := .slice a l c) rfl (by omega) (by omega) fun ga' gc' w2 hg2 k2 f2 => ?_⟩
  obtain ⟨b2, t2⟩ := blk_fr h.b h.bt f2 (by decide)
  have v2 := h.v.fr f2 (by decide)
  have ge2 := h.ge.fr f2 (fun j hj => by omega)
  have ve2 : ∀ j (hj : j < W.length), SlT w2 _ T_uint8 1 (W[j]).a (W[j]).l (W[j]).c (bvs (C j)) 5 := fun j hj => (h.ve j hj).fr f2 (by decide)
  have hx2 := hx.fr f2 (by omega)
  generalize ext ow w.heap.size 3 = ow2 at *
  refine NilF.intro rfl (stb rfl b2 t2 (by simp) fun w3 b3 f3 s3 => ?_)
  have g3 := hg2.fr f3 (by decide)
  have v3 := v2.fr f3 (by decide)
  have ge3 := ge2.fr f3 (fun j hj => by omega)
  have ve3 : ∀ j (hj : j < W.length), SlT w3 ow2 T_uint8 1 (W[j]).a (W[j]).l (W[j]).c (bvs (C j)) 5 := fun j hj => (ve2 j hj).fr f3 (by decide)
  have hx3 := hx2.fr f3 (by omega)
  have kd : Kp no w3 w3.drew := Kp.drew w3 1
  have nb : ¬ Is wa hb := fun hh => by have := v3.tg hb hh; omega
  refine ⟨fun w' => Kp (Is wa) w3 w', kd.of_no, NilF.intro rfl ⟨_, _, _, fun w' kz => cN (kz.blk b3 nb) rfl, ?_⟩⟩
  refine append_new er_u8 (hx3.rd.kp0 kd) (by rw [bvs_len]; omega) hx3.some bvs_one (by omega) (by omega) fun a4 c4 w4 hs4 k4 fr4 _ => ⟨_, _, _, rfl, (kd.trans0 k4).of_no, ?_⟩
  have k34 := kd.trans0 k4
  have f4 : Fro (fun _ => True) w3 ow2 w4 (ext ow2 w3.heap.size 5) := Fro.of_kp0 5 k34
  have x4 : SlT w4 (ext ow2 w3.heap.size 5) T_uint8 1 a4 l c4 (bvs bs) 5 := ⟨hs4, fun j hj => ext_new (fr4 j hj)⟩
  obtain ⟨b4, t4⟩ := blk_fr b3 t2 f4 trivial
  have g4 := g3.fr f4 trivial
  have v4 := v3.fr f4 trivial
  have ge4 := ge3.fr f4 (fun _ _ => trivial)
  have ve4 : ∀ j (hj : j < W.length), SlT w4 _ T_uint8 1 (W[j]).a (W[j]).l (W[j]).c (bvs (C j)) 5 := fun j hj => (ve3 j hj).fr f4 trivial
  have hx4 := hx3.fr f4 trivial
  generalize ext ow2 w3.heap.size 5 = ow4 at *
  -- the second list's push, its class of worlds at hand
  refine AlF.intro fun b1 w5 hb1e hb1 k5 s5 => ⟨(k34.trans0 k5).of_no, ?_⟩
  have f5 : Fro (fun _ => True) w4 ow4 w5 (ext ow4 w4.heap.size 4) := Fro.of_kp0 4 k5
  have v5 : SlT w5 (ext ow4 w4.heap.size 4) T_s_uint8 1 wa W.length wc (W.map siV) 4 := v4.fr f5 trivial
  have hrd : Rd w5 (some ⟨b1, 0, none⟩) [Value.slice a4 l c4] := rd_cells hb1 rfl
  obtain ⟨b5, t5⟩ := blk_fr b4 t4 f5 trivial
  have g5 := g4.fr f5 trivial
  have ge5 := ge4.fr f5 (fun _ _ => trivial)
  have ve5 : ∀ j (hj : j < W.length), SlT w5 _ T_uint8 1 (W[j]).a (W[j]).l (W[j]).c (bvs (C j)) 5 := fun j hj => (ve4 j hj).fr f5 trivial
  have hx5 := hx4.fr f5 trivial
  have x5 := x4.fr f5 trivial
  generalize ext ow4 w4.heap.size 4 = ow5 at *
  refine app_c er_ss v5 hrd rfl (fun h => by cases h) (fun u hu => by rw [List.mem_singleton] at hu; subst hu; rfl) (by omega) (by omega) fun wa' wc' w6 v6 k6 f6 => ⟨_, _, _, rfl, (k34.trans0 k5).of_no.trans0 k6, ?_⟩
  obtain ⟨b6, t6⟩ := blk_fr b5 t5 f6 (by decide)
  have g6 := g5.fr f6 (by decide)
  have ge6 := ge5.fr f6 (fun j hj => by omega)
  have ve6 : ∀ j (hj : j < W.length), SlT w6 _ T_uint8 1 (W[j]).a (W[j]).l (W[j]).c (bvs (C j)) 5 := fun j hj => (ve5 j hj).fr f6 (by decide)
  have hx6 := hx5.fr f6 (by omega)
  have x6 := x5.fr f6 (by decide)
  generalize ext ow5 w5.heap.size 4 = ow6 at *
  refine NilF.intro rfl (stb (add1 hb 1) b6 t6 (by simp) fun w7 b7 f7 s7 => ?_)
  refine hK ga' gc' wa' wc' ⟨a4, l, c4⟩ w7 ow6 ⟨?_, t6, ?_, ?_, ?_, fun j hj => ?_, by simp [heq], by simp; omega, fun x hxm => ?_⟩ (((((f2.mono fun u hu => hu.2.1).trans (f3.mono fun u hu => hu.1)).trans (f4.mono fun _ _ => trivial)).trans (f5.mono fun _ _ => trivial)).trans ((f6.mono fun u hu => hu.2.2).trans (f7.mono fun u hu => hu.1)))
  · rw [List.length_append, List.length_append]
    exact b7
  · rw [List.map_append, List.length_append]
    exact g6.fr f7 (by decide)
  · rw [List.map_append, List.length_append]
    exact v6.fr f7 (by decide)
  · have h7 := (ge6.fr f7 (fun j hj => by omega)).snoc (x := ⟨a, l, c⟩) (xs := bvs bs) (hx6.fr f7 (by omega))
    refine h7.congr fun j hj => ?_
    split <;> rfl
  · by_cases hjw : j = W.length
    · subst hjw
      have e1 : (W ++ [(⟨a4, l, c4⟩ : SI)])[W.length]'(by simp) = ⟨a4, l, c4⟩ := by simp
      rw [e1, if_pos heq.symm]
      exact x6.fr f7 (by decide)
    · have hj' : j < W.length := by simp at hj; omega
      rw [List.getElem_append_left hj', if_neg (by omega)]
      exact (ve6 j hj').fr f7 (by decide)
  · rcases List.mem_append.1 hxm with hxm | hxm
    · exact h.sm x hxm
    · rw [List.mem_singleton] at hxm
      subst hxm
      exact hl

/-- A mark. -/
def mkB (k : Int) : Int := IntKind.wrap .u8 (IntKind.wrap .i64 ((3 : Int) + (IntKind.wrap .i64 ((7 : Int) * k))))
set_option maxRecDepth 100000 in
theorem apart_c (h : HS w ow hb ga gc wa wc G W C) (hK : ∀ w' ow', Fro (fun u => u ≠ 6 ∧ (u < 100 ∨ 100 + G.length ≤ u)) w ow w' ow' → R (.returned (.bool true)) w') : GoC Try.prog F_law03_Held_apart #[.pointer (some ⟨hb, 0, none⟩)] w R := by
  refine S_law03_Held_apart ?_
  unfold W_law03_Held_apart
  have heq := h.eq
  have hn := h.n
  have kw : ∀ k : Nat, k ≤ 100000 → IntKind.wrap .i64 ((k : Int) + 1) = ((k + 1 : Nat) : Int) := fun k hk => by rw [wrap_i64 (by omega) (by omega)]; omega
  refine ⟨fun _ w' => Kp no w w', ?_, ?_⟩
  · -- untouched
    refine loopN (fun s w' => ∃ k : Nat, s.1 = (k : Int) ∧ k ≤ G.length ∧ Kp no w w') (fun s _ => G.length - s.1.toNat) ⟨0, rfl, by omega, Kp.refl _ _⟩ ?_
    rintro ⟨k0, u'⟩ w1 ⟨k, hk0, hk, k1⟩ _
    dsimp only at hk0 ⊢
    subst hk0
    have h1 := h.kp0 k1
    refine NilF.intro rfl ⟨_, _, _, c0 h1.b rfl, cond_d (fun hlt => ?_) (fun hge => k1)⟩
    have hkl : k < G.length := by omega
    rw [kw k (by omega)]
    have kd := k1.trans0 (Kp.drew w1 1)
    have hd := h.kp0 kd
    refine NilF.intro rfl ⟨_, _, _, c0 hd.b rfl, siI hd.g.sl.rd hkl rfl rfl (NilF.intro rfl ⟨_, _, _, cN hd.b rfl, siI hd.v.sl.rd (by omega) rfl rfl ?_⟩)⟩
    have x := hd.ge k hkl
    have y := hd.ve k (by omega)
    have lx := x.len1
    have ly := y.sl.len
    rw [bvs_len, Nat.mul_one] at lx
    rw [bvs_len] at ly
    exact same_c x.rd lx x.some y.sl.rd ly (fun h0 => sl_some' y.sl h0) ⟨_, rfl, cond_f (by simp) ⟨⟨k + 1, rfl, by omega, kd⟩, by simp only [Int.toNat_natCast]; omega⟩⟩
  rintro _ w3 k3 _
  have h3 := h.kp0 k3
  have hG3 : Fam w3 ow T_uint8 1 100 G (fun j => bvs (C j)) := h3.ge
  have lenC : ∀ {w' ow' D}, Fam w' ow' T_uint8 1 100 G D → ∀ j (hj : j < G.length), (D j).length = (G[j]).l := fun {w' ow' D} hf j hj => by have := (hf j hj).len1; rwa [Nat.mul_one] at this
  have hsm : ∀ j (hj : j < G.length), (G[j]).l ≤ 100000 := fun j hj => h.sm _ (List.getElem_mem hj)
  have hgb : ∀ {w' ow'}, Fro (fun u => u < 100 ∨ 100 + G.length ≤ u) w3 ow w' ow' → Blk w' hb #[.slice ga G.length gc, .slice wa W.length wc] T_quotalaw03_Held ∧ Rd w' ga (G.map siV) := fun {w' ow'} f => ⟨(blk_fr h3.b h3.bt f (by omega)).1, (h3.g.fr f (by omega)).sl.rd⟩
  refine ⟨fun _ w' => ∃ (ow' : Nat → Nat) (D : Nat → List Value), Fam w' ow' T_uint8 1 100 G D ∧ Fro (fun u => u < 100 ∨ 100 + G.length ≤ u) w3 ow w' ow' ∧ ∀ j (hj : j < G.length), D j = List.replicate (G[j]).l (.int .u8 (mkB (j : Int))), ?_, ?_⟩
  · -- marked
    refine loopN (fun s w' => ∃ (k : Nat) (ow' : Nat → Nat) (D : Nat → List Value), s.1 = (k : Int) ∧ k ≤ G.length ∧ Fam w' ow' T_uint8 1 100 G D ∧ Fro (fun u => u < 100 ∨ 100 + G.length ≤ u) w3 ow w' ow' ∧ ∀ j (hj : j < G.length), j < k → D j = List.replicate (G[j]).l (.int .u8 (mkB (j : Int)))) (fun s _ => G.length - s.1.toNat)
      ⟨0, ow, _, rfl, by omega, hG3, ⟨Kp.refl _ _, fun _ _ _ => rfl⟩, fun j _ hj => by omega⟩ ?_
    rintro ⟨k0, u'⟩ w4 ⟨k, ow4, D, hk0, hk, hF, f4, hD⟩ _
    dsimp only at hk0 ⊢
    subst hk0
    obtain ⟨hb4, _⟩ := hgb f4
    refine NilF.intro rfl ⟨_, _, _, c0 hb4 rfl, cond_d (fun hlt => ?_) (fun hge => ⟨ow4, D, hF, f4, fun j hj => hD j hj (by omega)⟩)⟩
    have hkl : k < G.length := by omega
    rw [kw k (by omega)]
    refine loopN (fun s w' => ∃ (i : Nat) (ow' : Nat → Nat) (D : Nat → List Value), s.1 = (i : Int) ∧ i ≤ (G[k]).l ∧ Fam w' ow' T_uint8 1 100 G D ∧ Fro (fun u => u < 100 ∨ 100 + G.length ≤ u) w3 ow w' ow' ∧ (∀ j (hj : j < G.length), j < k → D j = List.replicate (G[j]).l (.int .u8 (mkB (j : Int)))) ∧ (D k).take i = List.replicate i (.int .u8 (mkB (k : Int)))) (fun s _ => (G[k]).l - s.1.toNat)
      ⟨0, ow4, D, rfl, by omega, hF, f4, hD, by simp⟩ ?_
    rintro ⟨i0, u''⟩ w5 ⟨i, ow5, D5, hi0, hi, hF5, f5, hD5, hT5⟩ _
    dsimp only at hi0 ⊢
    subst hi0
    obtain ⟨hb5, hr5⟩ := hgb f5
    have hsk := hsm k hkl
    have hl5 := lenC hF5 k hkl
    refine NilF.intro rfl ⟨_, _, _, c0 hb5 rfl, siI hr5 hkl rfl rfl (cond_d (fun hlt2 => ?_) (fun hge2 => ?_))⟩
    · rw [kw i (by omega)]
      have hil : i < (G[k]).l := by omega
      obtain ⟨ba, ha⟩ := (hF5 k hkl).addr (by omega)
      refine NilF.intro rfl ⟨_, _, _, c0 hb5 rfl, siI hr5 hkl rfl rfl ⟨by omega, hlt2, _, ha, ?_⟩⟩
      refine hF5.put hkl (i := i) (by omega) ha (by rw [Int.toNat_natCast, add_at]) fun w6 hF6 f6 => ⟨⟨i + 1, ow5, _, rfl, by omega, hF6, f5.trans (f6.mono fun u hu => by omega), fun j hj hjk => ?_, ?_⟩, by simp only [Int.toNat_natCast]; omega⟩
      · rw [if_neg (by omega)]
        exact hD5 j hj hjk
      · rw [if_pos rfl]
        show ((D5 k).set i (.int .u8 (mkB (k : Int)))).take (i + 1) = _
        rw [take_snoc_get _ i (by rw [List.length_set]; omega), List.getElem_set_self, List.replicate_succ']
        congr 1
        rw [List.take_set_of_le (Nat.le_refl _)]
        exact hT5
    · have hie : i = (G[k]).l := by omega
      subst hie
      rw [List.take_of_length_le (by omega)] at hT5
      exact ⟨⟨k + 1, ow5, D5, rfl, by omega, hF5, f5, fun j hj hjk => by
        by_cases hjk' : j = k
        · subst hjk'; exact hT5
        · exact hD5 j hj (by omega)⟩, by simp only [Int.toNat_natCast]; omega⟩
  rintro _ w7 ⟨ow7, D7, hF7, f7, hD7⟩ _
  refine ⟨fun s w' => ∃ (ow' : Nat → Nat) (M : List SI) (a : Option Addr) (c : Nat) (E : Nat → List Value), s = ((a, G.length, c), ()) ∧ M.length = G.length ∧ SlT w' ow' T_s_uint8 1 a G.length c (M.map siV) 6 ∧ Fam w' ow' T_uint8 1 100 G D7 ∧ Fam w' ow' T_uint8 1 100 M E ∧ Fro (fun u => u ≠ 6 ∧ (u < 100 ∨ 100 + G.length ≤ u)) w3 ow w' ow' ∧ (∀ j (hj : j < M.length) (hg : j < G.length), (M[j]).l = (G[j]).l + 1) ∧ ∀ j (hj : j < G.length), E j = List.replicate ((G[j]).l + 1) (.int .u8 (mkB (j : Int))), ?_, ?_⟩
  · -- grown
    refine loopN (fun s w' => ∃ (k : Nat) (ow' : Nat → Nat) (M : List SI) (a : Option Addr) (c : Nat) (E : Nat → List Value), s = ((a, k, c), (k : Int), ()) ∧ k ≤ G.length ∧ M.length = k ∧ SlT w' ow' T_s_uint8 1 a k c (M.map siV) 6 ∧ Fam w' ow' T_uint8 1 100 G D7 ∧ Fam w' ow' T_uint8 1 100 M E ∧ Fro (fun u => u ≠ 6 ∧ (u < 100 ∨ 100 + G.length ≤ u)) w3 ow w' ow' ∧ (∀ j (hj : j < M.length) (hg : j < G.length), (M[j]).l = (G[j]).l + 1) ∧ ∀ j (hj : j < G.length), j < k → E j = List.replicate ((G[j]).l + 1) (.int .u8 (mkB (j : Int)))) (fun s _ => G.length - s.2.1.toNat)
      ⟨0, ow7, [], none, 0, fun _ => [], rfl, by omega, rfl, slt_nil _ _ _ _ _, hF7, Fam.nil, f7.mono fun u hu => hu.2, fun j hj => by simp at hj, fun j _ hj => by omega⟩ ?_
    rintro s w8 ⟨k, ow8, M, a, c, E, rfl, hk, hMl, hL8, hF8, hM8, f8, hl8, hE8⟩ _
    dsimp only
    obtain ⟨hb8, _⟩ := blk_fr h3.b h3.bt f8 (by omega)
    have hr8 := (h3.g.fr f8 (by omega)).sl.rd
    refine NilF.intro rfl ⟨_, _, _, c0 hb8 rfl, cond_d (fun hlt => ?_) (fun hge => ?_)⟩
    · have hkl : k < G.length := by omega
      rw [kw k (by omega)]
      have hsk := hsm k hkl
      refine NilF.intro rfl ⟨_, _, _, c0 hb8 rfl, siI hr8 hkl rfl rfl (AlF.intro fun b1 w9 hb1e hb1 k9 s9 => ?_)⟩
      have f9 : Fro (fun _ => True) w8 ow8 w9 (ext ow8 w8.heap.size 1) := Fro.of_kp0 1 k9
      have hF9 := hF8.fr f9 (fun _ _ => trivial)
      have hM9 := hM8.fr f9 (fun _ _ => trivial)
      have hL9 := hL8.fr f9 trivial
      generalize ext ow8 w8.heap.size 1 = ow9 at *
      refine hF9.grow er_u8 hM9 hkl hMl (m := 1) (rd_cells (xs := [.int .u8 (mkB (k : Int))]) hb1 rfl) rfl (by omega) (fun h => by cases h) (fun u hu => by rw [List.mem_singleton] at hu; subst hu; rfl) (by omega) (by omega) fun a' c' w10 ow10 hF10 hM10 k10 f10 => ⟨_, _, _, rfl, ?_⟩
      have hL10 := hL9.fr f10 (by omega)
      refine pushT er_ss hL10 (v := .slice a' ((G[k]).l + 1) c') rfl (by omega) (by omega) fun a2 c2 w12 hL12 k12 f12 => ⟨⟨k + 1, _, M ++ [⟨a', (G[k]).l + 1, c'⟩], a2, c2, _, rfl, by omega, by simp [hMl], by rw [List.map_append]; exact hL12, hF10.fr f12 (fun j hj => by omega), hM10.fr f12 (fun j hj => by omega), ((f8.trans (f9.mono fun _ _ => trivial)).trans (f10.mono fun u hu => by omega)).trans (f12.mono fun u hu => hu.1), fun j hj hg => ?_, fun j hj hjk => ?_⟩, by simp only [Int.toNat_natCast]; omega⟩
      · by_cases hjk : j = M.length
        · subst hjk
          have e1 : (M ++ [(⟨a', (G[k]).l + 1, c'⟩ : SI)])[M.length]'(by simp) = ⟨a', (G[k]).l + 1, c'⟩ := by simp
          rw [e1]
          simp only [hMl]
        · have hj' : j < M.length := by simp at hj; omega
          rw [List.getElem_append_left hj']
          exact hl8 j hj' hg
      · by_cases hjk' : j = k
        · subst hjk'
          rw [if_pos rfl, hD7 j hj, List.replicate_succ']
        · rw [if_neg hjk']
          exact hE8 j hj (by omega)
    · have hke : k = G.length := by omega
      subst hke
      exact ⟨ow8, M, a, c, E, rfl, hMl, hL8, hF8, hM8, f8, hl8, fun j hj => hE8 j hj hj⟩
  rintro s w13 ⟨ow13, M, a, c, E, rfl, hMl, hL13, hF13, hM13, f13, hlM, hE⟩ _
  dsimp only
  -- looked at
  have f0 : Fro (fun u => u ≠ 6 ∧ (u < 100 ∨ 100 + G.length ≤ u)) w ow w13 ow13 := ((Fro.kp0 k3).mono fun _ _ => trivial).trans f13
  obtain ⟨hb13, _⟩ := blk_fr h3.b h3.bt f13 (by omega)
  have hr13 := (h3.g.fr f13 (by omega)).sl.rd
  have hm13 := hL13.sl.rd
  have cM : ∀ j (hj : j < G.length) i, i < (G[j]).l + 1 → (E j)[i]? = some (.int .u8 (mkB (j : Int))) := fun j hj i hi => by rw [hE j hj, List.getElem?_replicate, if_pos hi]
  have cG : ∀ j (hj : j < G.length) i, i < (G[j]).l → (D7 j)[i]? = some (.int .u8 (mkB (j : Int))) := fun j hj i hi => by rw [hD7 j hj, List.getElem?_replicate, if_pos hi]
  refine loopN (fun s w' => ∃ k : Nat, s.1 = (k : Int) ∧ k ≤ G.length ∧ Kp no w13 w') (fun s _ => G.length - s.1.toNat) ⟨0, rfl, by omega, Kp.refl _ _⟩ ?_
  rintro ⟨k0, u'⟩ w14 ⟨k, hk0, hk, k14⟩ _
  dsimp only at hk0 ⊢
  subst hk0
  refine cond_d (fun hlt => ?_) (fun hge => hK w14 ow13 (f0.trans ((Fro.kp0 k14).mono fun _ _ => trivial)))
  have hkl : k < G.length := by omega
  have hkm : k < M.length := by omega
  rw [kw k (by omega)]
  have hsk := hsm k hkl
  have hlk := hlM k hkm hkl
  refine loopN (fun s w' => ∃ i : Nat, s.1 = (i : Int) ∧ i ≤ (G[k]).l + 1 ∧ Kp no w13 w') (fun s _ => (G[k]).l + 1 - s.1.toNat) ⟨0, rfl, by omega, k14⟩ ?_
  rintro ⟨i0, u''⟩ w15 ⟨i, hi0, hi, k15⟩ _
  dsimp only at hi0 ⊢
  subst hi0
  have rM := hm13.kp0 k15
  have rG := hr13.kp0 k15
  have bb := k15.blk hb13 id
  refine siI rM hkm rfl hMl ?_
  rw [hlk]
  refine cond_d (fun hlt2 => ?_) (fun hge2 => ⟨⟨k + 1, rfl, by omega, k15⟩, by simp only [Int.toNat_natCast]; omega⟩)
  have hil : i < (G[k]).l + 1 := by omega
  rw [kw i (by omega)]
  have nxt : ∀ q : Nat, ((∃ i' : Nat, ((i + 1 : Nat) : Int) = (i' : Int) ∧ i' ≤ (G[k]).l + 1 ∧ Kp no w13 (w15.drewN q)) ∧ (G[k]).l + 1 - Int.toNat ((i + 1 : Nat) : Int) < (G[k]).l + 1 - Int.toNat (i : Int)) := fun q => ⟨⟨i + 1, rfl, by omega, k15.trans0 (Kp.drew w15 q)⟩, by simp only [Int.toNat_natCast]; omega⟩
  have xM := (hM13 k hkm).rd.kp0 k15
  refine siI rM hkm rfl hMl (rdI xM (cM k hkl i hil) rfl (by rw [hlk]; exact hil) fun b1 o1 h1 c1 => ⟨_, c1, cond_f (by unfold mkB; simp) ?_⟩)
  refine NilF.intro rfl ⟨_, _, _, c0 bb rfl, siI rG hkl rfl rfl (cond_d (fun hlt3 => ?_) (fun hge3 => nxt))⟩
  have xG := (hF13 k hkl).rd.kp0 k15
  refine NilF.intro rfl ⟨_, _, _, c0 bb rfl, siI rG hkl rfl rfl (rdI xG (cG k hkl i (by omega)) rfl (by omega) fun b2 o2 h2 c2 => ⟨_, c2, ?_⟩)⟩
  refine siI rM hkm rfl hMl (rdI xM (cM k hkl i hil) rfl (by rw [hlk]; exact hil) fun b3 o3 h3 c3 => ⟨_, c3, fun q => cond_f (by simp) (nxt q)⟩)
end
end Go.Proofs.Ytkhdmbgcbogndaa
