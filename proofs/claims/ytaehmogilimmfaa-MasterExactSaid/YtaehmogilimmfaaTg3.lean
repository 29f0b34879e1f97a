/- The disk's Cache: its contract. Conditions: none. -/
import Derived.Test.YtaehmogilimmfaaTg
set_option linter.unusedVariables false
set_option linter.unusedSimpArgs false
namespace Go.Proofs.Ytaehmogilimmfaa
open Go Go.RowKit

theorem take_map {α β : Type} (f : α → β) (l : List α) (k : Nat) (h : k < l.length) : (l.map f).take (k + 1) = (l.map f).take k ++ [f l[k]] := by
  rw [take_snoc_get _ k (by simpa using h)]
  simp
/-- What Cache hands out. -/
structure Ca (w0 w : World) (a : Option Addr) (n c : Nat) (X : List PD) : Prop where
  k : Kp no w0 w
  s : Sl w T_api_Pending 2 a n c (fP X)
  n : X.length = n
  f : Fresh w0 a
  x : ∀ x ∈ X, Sl w T_uint8 1 x.a x.bs.length x.c (bvs x.bs) ∧ Fresh w0 x.a ∧ ∀ j, Is x.a j → ¬ Is a j
  d : X.Pairwise fun x y => ∀ j, Is x.a j → ¬ Is y.a j
section
variable {w : World} {ow : Nat → Nat} {t b : Nat} {v : Dv} {R : Ending → World → Prop}
set_option maxRecDepth 100000 in
theorem cache_c (h : DX w ow t b v) (hq : v.q.length ≤ 1000000) (hK : ∀ a c X w', Ca w w' a v.q.length c X → X.map PD.v = v.q → R (.returned (.slice a v.q.length c)) w') : GoC Try.prog F_sectors_Device_Cache #[.pointer (some ⟨b, 0, none⟩)] w R := by
  obtain ⟨H, Q, ka, kc, h⟩ := h
  have hql : v.q.length = Q.length := by rw [h.l.qv]; simp
  have hok := h.l.ok
  refine S_sectors_Device_Cache ?_
  unfold W_sectors_Device_Cache
  refine ⟨_, _, _, cN h.hb rfl, ?_⟩
  refine loopN (fun s w' => ∃ (k : Nat) (a : Option Addr) (c : Nat) (X : List PD), s = ((a, k, c), (k : Int), ()) ∧ k ≤ Q.length ∧ Ca w w' a k c X ∧ X.map PD.v = v.q.take k) (fun s _ => Q.length - s.2.1.toNat)
    ⟨0, none, 0, [], rfl, by omega, ⟨Kp.refl _ _, Sl.nil _ _ _, rfl, fun k hk => (is_none hk).elim, fun x hx => absurd hx (by simp), List.Pairwise.nil⟩, by simp⟩ ?_
  rintro s w1 ⟨k, a, c, X, rfl, hk, hC, hX⟩ _
  dsimp only
  refine cond_d (fun hlt => ?_) (fun hge => ?_)
  rotate_left
  · have hke : k = Q.length := by omega
    subst hke
    have := hK a c X w1 (by rw [hql]; exact hC) (by rw [hX, ← hql, List.take_length])
    rw [hql] at this
    exact this
  have hkl : k < Q.length := by omega
  have hkw : IntKind.wrap .i64 ((k : Int) + 1) = ((k + 1 : Nat) : Int) := by rw [wrap_i64 (by omega) (by omega)]; omega
  rw [hkw]
  have h1 := h.kp0 hC.k
  refine pdI h1.l.pl.sl.rd hkl rfl rfl ?_
  have hpb := h1.l.pb _ (List.getElem_mem hkl)
  have hvk : v.q.take (k + 1) = v.q.take k ++ [(Q[k]).v] := by rw [h.l.qv]; exact take_map PD.v Q k hkl
  have hqk := hok.q (Q[k]).v (by rw [h.l.qv]; exact List.mem_map_of_mem (List.getElem_mem hkl))
  generalize Q[k] = x at *
  refine AlF.intro fun b1 w2 hb1e hb1 k2 s2 => st2 hb1 fun w4 hb4 k4 s4 => ?_
  have k14 : Kp no w1 w4 := kp_blk k2 (by omega) k4
  have kd : Kp no w4 w4.drew := Kp.drew w4 1
  have la := hC.s.lt
  have nb1 : ¬ Is a b1 := fun hh => by have := la b1 hh; omega
  refine ⟨fun w' => Kp (Is a) w4 w', kd.of_no, _, fun w' kz => c0 (kz.blk hb4 nb1) rfl, _, _, _, fun w' kz => cN (kz.blk hb4 nb1) rfl, ?_⟩
  have hx0 : x.a = none → x.bs.length = 0 := fun h0 => sl_some' hpb.sl h0
  refine clone_c ((hpb.sl.rd.kp0 k14).kp0 kd) rfl hx0 (by have := hqk.2.2; show x.bs.length ≤ _; have e : x.v.2.length = x.bs.length := rfl; omega) fun a4 c4 w5 hs5 k5 fr5 _ => ⟨_, _, _, rfl, (kd.trans0 k5).of_no, ?_⟩
  refine AlF.intro fun b2 w6 hb2e hb2 k6 s6 => ⟨((kd.trans0 k5).trans0 k6).of_no, ?_⟩
  have k46 := (kd.trans0 k5).trans0 k6
  have k16 := k14.trans0 k46
  have sz0 := hC.k.size
  have sz1 := k14.size
  have sz5 := k5.size
  have szd := kd.size
  refine append_own er_pd (hC.s.kp0 k16) (rd_cells (xs := PD.cs ⟨x.sec, a4, c4, x.bs⟩) hb2 rfl) rfl (fun h => by cases h) (fun u hu => by
    simp only [PD.cs, List.mem_cons, List.not_mem_nil, or_false] at hu
    rcases hu with rfl | rfl <;> rfl) (by omega) (by omega) fun a5 c5 w7 hs7 k7 hi7 _ _ => ⟨_, _, _, rfl, k46.of_no.trans0 k7, ?_⟩
  have la4 := hs5.lt
  refine ⟨⟨k + 1, a5, c5, X ++ [⟨x.sec, a4, c4, x.bs⟩], rfl, by omega, ⟨?_, ?_, by simp [hC.n], fun j hj => ?_, fun y hy => ?_, List.pairwise_append.2 ⟨hC.d, List.pairwise_singleton _ _, fun y hy z hz j hj hj' => ?_⟩⟩, ?_⟩, by simp only [Int.toNat_natCast]; omega⟩
  · exact (hC.k.trans0 k16).trans k7 (fun _ _ h => h) fun j hj hh => by have := hC.f j hh; omega
  · have e : fP (X ++ [⟨x.sec, a4, c4, x.bs⟩]) = fP X ++ PD.cs ⟨x.sec, a4, c4, x.bs⟩ := by unfold fP; rw [flatV_app]; simp [flatV]
    rw [e]
    exact hs7
  · rcases hi7 j hj with hh | hh
    · exact hC.f j hh
    · have := k6.size; omega
  · rcases List.mem_append.1 hy with hy | hy
    · obtain ⟨q1, q2, q3⟩ := hC.x y hy
      refine ⟨(q1.kp0 k16).kp k7 q3, q2, fun j hj hh => ?_⟩
      have := q1.lt j hj
      rcases hi7 j hh with h' | h'
      · exact q3 j hj h'
      · have := k6.size; omega
    · rw [List.mem_singleton] at hy
      subst hy
      refine ⟨(hs5.kp0 k6).kp k7 fun j hj hh => ?_, fun j hj => ?_, fun j hj hh => ?_⟩
      · have := fr5 j hj; have := la j hh; omega
      · have := fr5 j hj; omega
      · have q1 := fr5 j hj
        have q2 := la4 j hj
        rcases hi7 j hh with h' | h'
        · have := la j h'; omega
        · have := k6.size; omega
  · rw [List.mem_singleton] at hz
    subst hz
    have := (hC.x y hy).1.lt j hj
    have := fr5 j hj'
    have := k14.size; omega
  · rw [hvk, List.map_append, hX]
    rfl
end
end Go.Proofs.Ytaehmogilimmfaa
