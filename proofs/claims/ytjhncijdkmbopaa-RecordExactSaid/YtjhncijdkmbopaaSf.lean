/- The statements' Book of layer 5: what was handed out; bytes. Conditions: lists of at most 1000. -/
import Derived.Test.YtjhncijdkmbopaaSe
import Derived.Test.YtjhncijdkmbopaaUj
set_option linter.unusedVariables false
set_option linter.unusedSimpArgs false
namespace Go.Proofs.Ytjhncijdkmbopaa
open Go Go.RowKit

/-- Slices of one thing each, the j-th of mk j, with an owner of its own. -/
def RF {α : Type} (f : α → List Value) (mk : Nat → α) (base : Nat) (w : World) (ow : Nat → Nat) (G : List SI) : Prop := ∀ j (h : j < G.length), RdT w ow (G[j]).a (flatV f (List.replicate (G[j]).l (mk j))) (base + j) ∧ (G[j]).l ≤ 2000000
theorem RF.nil {α : Type} {f : α → List Value} {mk : Nat → α} {base : Nat} {w : World} {ow : Nat → Nat} : RF f mk base w ow [] := fun j hj => absurd hj (by simp)
theorem RF.fr {α : Type} {f : α → List Value} {mk : Nat → α} {base : Nat} {T : Nat → Prop} {w w' : World} {ow ow' : Nat → Nat} {G : List SI} (h : RF f mk base w ow G) (F : Fro T w ow w' ow') (hT : ∀ j, j < G.length → T (base + j)) : RF f mk base w' ow' G :=
  fun j hj => ⟨(h j hj).1.fr F (hT j hj), (h j hj).2⟩
theorem RF.snoc {α : Type} {f : α → List Value} {mk : Nat → α} {base : Nat} {w : World} {ow : Nat → Nat} {G : List SI} (h : RF f mk base w ow G) {x : SI} (hx : RdT w ow x.a (flatV f (List.replicate x.l (mk G.length))) (base + G.length)) (hx2 : x.l ≤ 2000000) : RF f mk base w ow (G ++ [x]) := fun j hj => by
  by_cases hjg : j = G.length
  · subst hjg
    have e : (G ++ [x])[G.length] = x := by simp
    rw [e]
    exact ⟨hx, hx2⟩
  · have hj' : j < G.length := by simp at hj; omega
    rw [List.getElem_append_left hj']
    exact h j hj'
theorem SlT.rdt {w : World} {ow : Nat → Nat} {e : TypeId} {s l c t : Nat} {a : Option Addr} {xs : List Value} (h : SlT w ow e s a l c xs t) : RdT w ow a xs t := ⟨h.sl.rd, fun _ => h.tg⟩

/-- One kind of what was handed out: the slices as they came, and longer by one. -/
structure PF {α : Type} (f : α → List Value) (mk : Nat → α) (e : TypeId) (base tG tM : Nat) (w : World) (ow : Nat → Nat) (G M : SI) (n : Nat) (GL ML : List SI) : Prop where
  g : SlT w ow e 1 G.a G.l G.c (GL.map siV) tG
  m : SlT w ow e 1 M.a M.l M.c (ML.map siV) tM
  gl : GL.length = n
  gn : G.l = n
  ml : ML.length = n
  mn : M.l = n
  r : RF f mk base w ow GL
  s : RF f mk base w ow ML
theorem PF.fr {α : Type} {f : α → List Value} {mk : Nat → α} {e : TypeId} {base tG tM : Nat} {T : Nat → Prop} {w w' : World} {ow ow' : Nat → Nat} {G M : SI} {n : Nat} {GL ML : List SI} (h : PF f mk e base tG tM w ow G M n GL ML) (F : Fro T w ow w' ow') (hG : T tG) (hM : T tM) (hT : ∀ j, j < n → T (base + j)) : PF f mk e base tG tM w' ow' G M n GL ML :=
  ⟨h.g.fr F hG, h.m.fr F hM, h.gl, h.gn, h.ml, h.mn, h.r.fr F fun j hj => hT j (by rw [h.gl] at hj; exact hj), h.s.fr F fun j hj => hT j (by rw [h.ml] at hj; exact hj)⟩

def bv1 (x : UInt8) : List Value := [bv x]
theorem bv1_l (x : UInt8) : (bv1 x).length = 1 := rfl
theorem flat_bv : ∀ L : List UInt8, flatV bv1 L = bvs L
  | [] => rfl
  | x :: L => by rw [flatV, flat_bv L]; rfl
def mkB (j : Nat) : UInt8 := UInt8.ofNat (3 * j + 1)
def mkLv (j : Nat) : LV := ⟨(j : Int) + 1000000, 0, false, false⟩
def mkDv (j : Nat) : DV := ⟨(j : Int) + 1000000, 0⟩
theorem mkB_v {j : Nat} (h : j ≤ 100000) : Value.int .u8 (IntKind.wrap .u8 (IntKind.wrap .i64 (IntKind.wrap .i64 (3 * (j : Int)) + 1))) = bv (mkB j) := by
  rw [wrap_i64 (x := 3 * (j : Int)) (by omega) (by omega), wrap_i64 (by omega) (by omega)]
  have h2 : IntKind.wrap .u8 (3 * (j : Int) + 1) = (3 * (j : Int) + 1) % 256 := by simp [IntKind.wrap, IntKind.signed, IntKind.bits]
  rw [h2]
  unfold bv mkB
  congr 1
theorem mkB_n {j : Nat} (h : j ≤ 100000) : IntKind.wrap .u8 (IntKind.wrap .i64 (IntKind.wrap .i64 (3 * (j : Int)) + 1)) = ((mkB j).toNat : Int) := by
  have := mkB_v h
  unfold bv at this
  injection this

/-- The Book. -/
structure Bk (w : World) (ow : Nat → Nat) (b : Nat) (nB nL : Nat) (G1 M1 G2 M2 G3 M3 : SI) (L1 K1 L2 K2 L3 K3 : List SI) : Prop where
  x : Blk w b #[siV G1, siV M1, siV G2, siV M2, siV G3, siV M3] T_quotalaw05_Book
  t : ow b = 1000
  p1 : PF bv1 mkB T_s_uint8 10000 1001 1002 w ow G1 M1 nB L1 K1
  p2 : PF LV.cs mkLv T_s_api_Live 20000 1003 1004 w ow G2 M2 nL L2 K2
  p3 : PF DV.cs mkDv T_s_api_Dirty 30000 1005 1006 w ow G3 M3 nL L3 K3
theorem Bk.fr {T : Nat → Prop} {w w' : World} {ow ow' : Nat → Nat} {b nB nL : Nat} {G1 M1 G2 M2 G3 M3 : SI} {L1 K1 L2 K2 L3 K3 : List SI} (h : Bk w ow b nB nL G1 M1 G2 M2 G3 M3 L1 K1 L2 K2 L3 K3) (F : Fro T w ow w' ow') (hT : ∀ t, 1000 ≤ t → T t) : Bk w' ow' b nB nL G1 M1 G2 M2 G3 M3 L1 K1 L2 K2 L3 K3 := by
  obtain ⟨x, t⟩ := blk_fr h.x h.t F (hT _ (by omega))
  exact ⟨x, t, h.p1.fr F (hT _ (by omega)) (hT _ (by omega)) fun j _ => hT _ (by omega), h.p2.fr F (hT _ (by omega)) (hT _ (by omega)) fun j _ => hT _ (by omega), h.p3.fr F (hT _ (by omega)) (hT _ (by omega)) fun j _ => hT _ (by omega)⟩
/-- The Book, whatever its lists are. -/
def Bq (w : World) (ow : Nat → Nat) (b : Nat) (nB nL : Nat) : Prop := ∃ G1 M1 G2 M2 G3 M3 L1 K1 L2 K2 L3 K3, Bk w ow b nB nL G1 M1 G2 M2 G3 M3 L1 K1 L2 K2 L3 K3
theorem Bq.fr {T : Nat → Prop} {w w' : World} {ow ow' : Nat → Nat} {b nB nL : Nat} (h : Bq w ow b nB nL) (F : Fro T w ow w' ow') (hT : ∀ t, 1000 ≤ t → T t) : Bq w' ow' b nB nL := by
  obtain ⟨_, _, _, _, _, _, _, _, _, _, _, _, h⟩ := h
  exact ⟨_, _, _, _, _, _, _, _, _, _, _, _, h.fr F hT⟩

theorem er_sb : ElemRow Try.prog T_s_s_uint8 T_s_uint8 (.slice none 0 0) 1 24 := elemRow (by kernel_rfl) (by kernel_rfl) rfl
theorem er_sl : ElemRow Try.prog T_s_s_api_Live T_s_api_Live (.slice none 0 0) 1 24 := elemRow (by kernel_rfl) (by kernel_rfl) rfl
theorem er_sd : ElemRow Try.prog T_s_s_api_Dirty T_s_api_Dirty (.slice none 0 0) 1 24 := elemRow (by kernel_rfl) (by kernel_rfl) rfl

theorem map_snoc (G : List SI) (x : SI) : G.map siV ++ [siV x] = (G ++ [x]).map siV := by rw [List.map_append]; rfl

theorem bbytes_c {w : World} {ow : Nat → Nat} {b nB nL t : Nat} {a : Option Addr} {l c : Nat} {bs : List UInt8} {R : Ending → World → Prop} (hk : Bq w ow b nB nL) (hn : nB ≤ 1000) (hs : SlT w ow T_uint8 1 a l c (bvs bs) t) (ht : t < 1000) (hl : l ≤ 1000000)
    (h : ∀ w' ow', Bq w' ow' b (nB + 1) nL → Fro (fun u => u < 1000 ∧ u ≠ t) w ow w' ow' → R (.returned (.tuple #[])) w') : GoC Try.prog F_law05_Book_bytes #[.pointer (some ⟨b, 0, none⟩), .slice a l c] w R := by
  obtain ⟨G1, M1, G2, M2, G3, M3, L1, K1, L2, K2, L3, K3, hk⟩ := hk
  refine S_law05_Book_bytes ?_
  unfold W_law05_Book_bytes
  have hbl : bs.length = l := by have := hs.sl.1; rw [bvs_len] at this; omega
  obtain ⟨hs, fr⟩ := hs.retag (10000 + nB)
  have hk := hk.fr fr fun u hu => by omega
  have Fr := fr.mono fun u (hu : u < 1000 ∧ u ≠ t) => hu.2
  generalize tag (Is a) (10000 + nB) ow = ow1 at *
  refine NilF.intro rfl ⟨_, _, _, hk.x.at rfl rfl, ?_⟩
  rw [hk.p1.gn]
  refine loopN (fun s w' => ∃ k : Nat, k ≤ l ∧ s.1 = (k : Int) ∧ SlT w' ow1 T_uint8 1 a l c (bvs ((List.replicate l (mkB nB)).take k ++ bs.drop k)) (10000 + nB) ∧ Fro (fun u => u ≠ 10000 + nB) w ow1 w' ow1) (fun s _ => l - s.1.toNat) ⟨0, Nat.zero_le _, rfl, hs, ⟨Kp.refl _ _, fun _ _ _ => rfl⟩⟩ ?_
  rintro ⟨k0, u⟩ w1 ⟨k, hkl, hk0, hs1, F⟩ _
  dsimp only at hk0 ⊢
  subst hk0
  refine cond_d (fun hlt => ?_) (fun hge => ?_)
  · obtain ⟨b', cur, ha, _⟩ := hs1.sl.addr (by omega)
    refine ⟨by omega, by omega, _, ha, ?_⟩
    rw [mkB_v (by omega)]
    refine slt_put hs1 ha (i := k) (by omega) (by rw [Int.toNat_natCast, add_at]) fun w2 hs2 f2 => ?_
    rw [bvs_set, half_set (by rw [List.length_replicate]; omega) (by rw [List.length_replicate, hbl]) (List.getElem_replicate ..)] at hs2
    rw [wrap_i64 (x := (k : Int) + 1) (by omega) (by omega)]
    exact ⟨⟨k + 1, by omega, by omega, hs2, F.trans f2⟩, by omega⟩
  have hke : k = l := by omega
  subst hke
  have e : (List.replicate k (mkB nB)).take k ++ bs.drop k = List.replicate k (mkB nB) := by
    rw [List.drop_eq_nil_of_le (by omega), List.append_nil, List.take_of_length_le (by simp)]
  rw [e] at hs1
  have hb1 := blk_fr hk.x hk.t F (by omega)
  have p1 := hk.p1.fr F (by omega) (by omega) fun j hj => by omega
  have p2 := hk.p2.fr F (by omega) (by omega) fun j hj => by omega
  have p3 := hk.p3.fr F (by omega) (by omega) fun j hj => by omega
  have F1 := Fr.trans (F.mono fun u (hu : u < 1000 ∧ u ≠ t) => by omega)
  clear F Fr fr hs hk
  obtain ⟨x, tx⟩ := hb1
  refine NilF.intro rfl ⟨_, _, _, x.at rfl rfl, ?_⟩
  refine pushT er_sb p1.g (v := siV ⟨a, k, c⟩) rfl (by have := p1.gn; omega) (by have := p1.gn; omega) fun a' c' w2 g2 _ f2 => ?_
  refine NilF.intro rfl (StF.at rfl (blk_fr x tx f2 (by omega)).1 (by simp) fun w3 x3 k3 _ => ?_)
  have x3 : Blk w3 b #[siV ⟨a', G1.l + 1, c'⟩, siV M1, siV G2, siV M2, siV G3, siV M3] T_quotalaw05_Book := x3
  have tx2 := (blk_fr x tx f2 (by omega)).2
  have f3 : Fro (fun u => u ≠ 1000) w2 (ext ow1 w1.heap.size 1001) w3 (ext ow1 w1.heap.size 1001) := Fro.of_kp' k3 fun b _ hb' hne => hne (by rw [hb']; exact tx2)
  have f23 := (f2.mono fun u (hu : u ≠ 1001 ∧ u ≠ 1000) => hu.1).trans (f3.mono fun u hu => hu.2)
  have g3 := g2.fr f3 (by omega)
  have m3 := p1.m.fr f23 (by omega)
  have r3 := p1.r.fr f23 fun j hj => by omega
  have s3 := p1.s.fr f23 fun j hj => by omega
  have p2 := p2.fr f23 (by omega) (by omega) fun j hj => by omega
  have p3 := p3.fr f23 (by omega) (by omega) fun j hj => by omega
  have hs3 := hs1.fr f23 (by omega)
  have F3 := F1.trans (f23.mono fun u (hu : u < 1000 ∧ u ≠ t) => by omega)
  have gl := p1.gl
  have gn := p1.gn
  have ml := p1.ml
  have mn := p1.mn
  clear f2 f3 f23 g2 F1 hs1 x p1
  generalize ext ow1 w1.heap.size 1001 = ow3 at *
  rw [map_snoc] at g3
  have fd : Fro (fun _ => True) w3 ow3 w3.drew ow3 := Fro.of_kp' (Kp.drew w3 1) fun _ _ hh => hh.elim
  refine ⟨fun w' => ∃ ow', Fro (fun u => u = 1000) w3 ow3 w' ow', ⟨ow3, fd.mono fun _ _ => trivial⟩, NilF.intro rfl ⟨_, _, _, fun w' ⟨ow', f'⟩ => (blk_fr x3 tx2 f' rfl).1.at rfl rfl, ?_⟩⟩
  rw [mkB_v (by omega)]
  refine AlF.intro fun b2 w4 hb2e hb2 k4 _ => ?_
  have f4 : Fro (fun _ => True) w3.drew ow3 w4 (ext ow3 w3.drew.heap.size 9) := Fro.of_kp0 9 k4
  have f4 := fd.trans f4
  generalize ext ow3 w3.drew.heap.size 9 = ow4 at *
  refine ⟨⟨_, f4.mono fun _ _ => trivial⟩, ?_⟩
  refine app_both er_u8 (hs3.fr f4 trivial) (rd_cells hb2 (xs := [bv (mkB nB)]) rfl) rfl (fun hh => by cases hh) (by intro v hv; simp at hv; subst hv; rfl) (by omega) (by omega) fun a6 c6 w5 hs6 hs5 _ f5 => ⟨a6, _, c6, rfl, ?_⟩
  have f5 := (f4.mono fun u (_ : u ≠ 10000 + nB) => trivial).trans f5
  generalize ext ow4 w4.heap.size (10000 + nB) = ow5 at *
  refine ⟨⟨_, f5.mono fun u hu => by omega⟩, ?_⟩
  have hm5 := m3.fr f5 (by omega)
  refine AlF.intro fun b3 w6 hb3e hb3 k6 _ => ?_
  have f6 : Fro (fun _ => True) w5 ow5 w6 (ext ow5 w5.heap.size 9) := Fro.of_kp0 9 k6
  have f6' := f5.trans (f6.mono fun u _ => trivial)
  generalize ext ow5 w5.heap.size 9 = ow6 at *
  refine ⟨⟨_, f6'.mono fun u hu => by omega⟩, ?_⟩
  refine app_c er_sb (hm5.fr f6 trivial) (rd_cells hb3 (xs := [siV ⟨a6, k + 1, c6⟩]) rfl) rfl (fun hh => by cases hh) (by intro v hv; simp at hv; subst hv; rfl) (by omega) (by omega) fun a7 c7 w7 hm7 _ f7 => ⟨a7, _, c7, rfl, ?_⟩
  have f7' := (f6'.mono fun u (hu : u ≠ 10000 + nB ∧ u ≠ 1002) => hu.1).trans (f7.mono fun u hu => hu.2)
  have f67 := (f6.mono fun u (hu : u ≠ 1002) => trivial).trans f7
  generalize ext ow6 w6.heap.size 1002 = ow7 at *
  refine ⟨⟨_, f7'.mono fun u hu => by omega⟩, ?_⟩
  refine NilF.intro rfl (StF.at rfl (blk_fr x3 tx2 f7' (by omega)).1 (by simp) fun w8 x8 k8 _ => ?_)
  have tx7 := (blk_fr x3 tx2 f7' (by omega)).2
  have f8 : Fro (fun u => u ≠ 1000) w7 ow7 w8 ow7 := Fro.of_kp' k8 fun b _ hb' hne => hne (by rw [hb']; exact tx7)
  have f8' := (f7'.mono fun u (hu : u ≠ 10000 + nB ∧ u ≠ 1002 ∧ u ≠ 1000) => by omega).trans (f8.mono fun u hu => hu.2.2)
  have f68 := (f67.mono fun u (hu : u ≠ 1002 ∧ u ≠ 1000) => hu.1).trans (f8.mono fun u hu => hu.2)
  rw [map_snoc] at hm7
  refine h w8 ow7 ⟨⟨a', G1.l + 1, c'⟩, ⟨a7, M1.l + 1, c7⟩, G2, M2, G3, M3, L1 ++ [⟨a, k, c⟩], K1 ++ [⟨a6, k + 1, c6⟩], L2, K2, L3, K3, x8, tx7, ⟨g3.fr f8' (by omega), hm7.fr f8 (by omega), by simp [gl], by rw [gn], by simp [ml], by rw [mn], ?_, ?_⟩, p2.fr f8' (by omega) (by omega) fun j hj => by omega, p3.fr f8' (by omega) (by omega) fun j hj => by omega⟩ (F3.trans (f8'.mono fun u hu => by omega))
  · refine (r3.fr f8' fun j hj => by omega).snoc ?_ (by dsimp only; omega)
    rw [flat_bv, gl]
    exact (hs5.fr f68 (by omega)).rdt
  · refine (s3.fr f8' fun j hj => by omega).snoc ?_ (by dsimp only; omega)
    rw [flat_bv, ml]
    have : bvs (List.replicate k (mkB nB)) ++ [bv (mkB nB)] = bvs (List.replicate (k + 1) (mkB nB)) := by
      rw [List.replicate_succ', bvs, bvs, List.map_append]
      rfl
    rw [this] at hs6
    exact (hs6.fr f68 (by omega)).rdt
end Go.Proofs.Ytjhncijdkmbopaa
