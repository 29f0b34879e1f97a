/- The disk's Cache; bytes of a call; small functions of the statements. Conditions: none. -/
import Derived.Test.YtkhdmbgcbogndaaTg
set_option linter.unusedVariables false
set_option linter.unusedSimpArgs false
namespace Go.Proofs.Ytkhdmbgcbogndaa
open Go Go.RowKit

theorem take_map {α β : Type} (f : α → β) (l : List α) (k : Nat) (h : k < l.length) : (l.map f).take (k + 1) = (l.map f).take k ++ [f l[k]] := by
  rw [take_snoc_get _ k (by simpa using h)]
  simp
/-- What Cache hands out. -/
structure Ca (w0 w : World) (a : Option Addr) (n c : Nat) (X : List PD) : Prop where
  k : Kp no w0 w
  s : Sl w T_api_Pending 2 a n c (fP X)
  n : X.length = n
  f : Fresh w0 a
  x : ∀ x ∈ X, Sl w T_uint8 1 x.a x.bs.length x.c (bvs x.bs) ∧ Fresh w0 x.a ∧ ∀ j, Is x.a j → ¬ Is a j
  d : X.Pairwise fun x y => ∀ j, Is x.a j → ¬ Is y.a j
section
variable {w : World} {ow : Nat → Nat} {t b : Nat} {v : Dv} {R : Ending → World → Prop}
set_option maxRecDepth 100000 in
theorem cache_c (h : DX w ow t b v) (hq : v.q.length ≤ 1000000) (hK : ∀ a c X w', Ca w w' a v.q.length c X → X.map PD.v = v.q → R (.returned (.slice a v.q.length c)) w') : GoC Try.prog F_sectors_Device_Cache #[.pointer (some ⟨b, 0, none⟩)] w R := by
  obtain ⟨H, Q, ka, kc, h⟩ := h
  have hql : v.q.length = Q.length := by rw [h.l.qv]; simp
  have hok := h.l.ok
  refine S_sectors_Device_Cache ?_
  unfold W_sectors_Device_Cache
  refine ⟨_, _, _, cN h.hb rfl, ?_⟩
  refine loopN (fun s w' => ∃ (k : Nat) (a : Option Addr) (c : Nat) (X : List PD), s = ((a, k, c), (k : Int), ()) ∧ k ≤ Q.length ∧ Ca w w' a k c X ∧ X.map PD.v = v.q.take k) (fun s _ => Q.length - s.2.1.toNat)
    ⟨0, none, 0, [], rfl, by omega, ⟨Kp.refl _ _, Sl.nil _ _ _, rfl, fun k hk => (is_none hk).elim, fun x hx => absurd hx (by simp), List.Pairwise.nil⟩, by simp⟩ ?_
  rintro s w1 ⟨k, a, c, X, rfl, hk, hC, hX⟩ _
  dsimp only
  refine cond_d (fun hlt => ?_) (fun hge => ?_)
  rotate_left
  · have hke : k = Q.length := by omega
    subst hke
    have := hK a c X w1 (by rw [hql]; exact hC) (by rw [hX, ← hql, List.take_length])
    rw [hql] at this
    exact this
  have hkl : k < Q.length := by omega
  have hkw : IntKind.wrap .i64 ((k : Int) + 1) = ((k + 1 : Nat) : Int) := by rw [wrap_i64 (by omega) (by omega)]; omega
  rw [hkw]
  have h1 := h.kp0 hC.k
  refine pdI h1.l.pl.sl.rd hkl rfl rfl ?_
  have hpb := h1.l.pb _ (List.getElem_mem hkl)
  have hvk : v.q.take (k + 1) = v.q.take k ++ [(Q[k]).v] := by rw [h.l.qv]; exact take_map PD.v Q k hkl
  have hqk := hok.q (Q[k]).v (by rw [h.l.qv]; exact List.mem_map_of_mem (List.getElem_mem hkl))
  generalize Q[k] = x at *
  refine AlF.intro fun b1 w2 hb1e hb1 k2 s2 => st2 hb1 fun w4 hb4 k4 s4 => ?_
  have k14 : Kp no w1 w4 := kp_blk k2 (by omega) k4
  have kd : Kp no w4 w4.drew := Kp.drew w4 1
  have la := hC.s.lt
  have nb1 : ¬ Is a b1 := fun hh => by have := la b1 hh; omega
  refine ⟨fun w' => Kp (Is a) w4 w', kd.of_no, _, fun w' kz => c0 (kz.blk hb4 nb1) rfl, _, _, _, fun w' kz => cN (kz.blk hb4 nb1) rfl, ?_⟩
  have hx0 : x.a = none → x.bs.length = 0 := fun h0 => sl_some' hpb.sl h0
  refine clone_c ((hpb.sl.rd.kp0 k14).kp0 kd) rfl hx0 (by have := hqk.2.2; show x.bs.length ≤ _; have e : x.v.2.length = x.bs.length := rfl; omega) fun a4 c4 w5 hs5 k5 fr5 _ => ⟨_, _, _, rfl, (kd.trans0 k5).of_no, ?_⟩
  refine AlF.intro fun b2 w6 hb2e hb2 k6 s6 => ⟨((kd.trans0 k5).trans0 k6).of_no, ?_⟩
  have k46 := (kd.trans0 k5).trans0 k6
  have k16 := k14.trans0 k46
  have sz0 := hC.k.size
  have sz1 := k14.size
  have sz5 := k5.size
  have szd := kd.size
  refine append_own er_pd (hC.s.kp0 k16) (rd_cells (xs := PD.cs ⟨x.sec, a4, c4, x.bs⟩) hb2 rfl) rfl (fun h => by cases h) (fun u hu => by
    simp only [PD.cs, List.mem_cons, List.not_mem_nil, or_false] at hu
    rcases hu with rfl | rfl <;> rfl) (by omega) (by omega) fun a5 c5 w7 hs7 k7 hi7 _ _ => ⟨_, _, _, rfl, k46.of_no.trans0 k7, ?_⟩
  have la4 := hs5.lt
  refine ⟨⟨k + 1, a5, c5, X ++ [⟨x.sec, a4, c4, x.bs⟩], rfl, by omega, ⟨?_, ?_, by simp [hC.n], fun j hj => ?_, fun y hy => ?_, List.pairwise_append.2 ⟨hC.d, List.pairwise_singleton _ _, fun y hy z hz j hj hj' => ?_⟩⟩, ?_⟩, by simp only [Int.toNat_natCast]; omega⟩
  · exact (hC.k.trans0 k16).trans k7 (fun _ _ h => h) fun j hj hh => by have := hC.f j hh; omega
  · have e : fP (X ++ [⟨x.sec, a4, c4, x.bs⟩]) = fP X ++ PD.cs ⟨x.sec, a4, c4, x.bs⟩ := by unfold fP; rw [flatV_app]; simp [flatV]
    rw [e]
    exact hs7
  · rcases hi7 j hj with hh | hh
    · exact hC.f j hh
    · have := k6.size; omega
  · rcases List.mem_append.1 hy with hy | hy
    · obtain ⟨q1, q2, q3⟩ := hC.x y hy
      refine ⟨(q1.kp0 k16).kp k7 q3, q2, fun j hj hh => ?_⟩
      have := q1.lt j hj
      rcases hi7 j hh with h' | h'
      · exact q3 j hj h'
      · have := k6.size; omega
    · rw [List.mem_singleton] at hy
      subst hy
      refine ⟨(hs5.kp0 k6).kp k7 fun j hj hh => ?_, fun j hj => ?_, fun j hj hh => ?_⟩
      · have := fr5 j hj; have := la j hh; omega
      · have := fr5 j hj; omega
      · have q1 := fr5 j hj
        have q2 := la4 j hj
        rcases hi7 j hh with h' | h'
        · have := la j h'; omega
        · have := k6.size; omega
  · rw [List.mem_singleton] at hz
    subst hz
    have := (hC.x y hy).1.lt j hj
    have := fr5 j hj'
    have := k14.size; omega
  · rw [hvk, List.map_append, hX]
    rfl
end

/-! ### The bytes of a call -/
def fillN (f : UInt8) (m : Nat) : List UInt8 := (List.range m).map fun k => f + UInt8.ofNat (k / 200)
theorem fillN_len (f : UInt8) (m : Nat) : (fillN f m).length = m := by simp [fillN]
def lenO (n : Int) : Nat := if n > 0 then (min n 1536).toNat else if n < 0 then (max (512 + max n (-512)) 0).toNat else 512
theorem lenO_le (n : Int) : lenO n ≤ 1536 := by
  unfold lenO
  split
  · omega
  · split <;> omega
theorem fill_v (f : UInt8) {k : Nat} (hk : k < 51200) : Value.int .u8 (IntKind.wrap .u8 ((f.toNat : Int) + IntKind.wrap .u8 (IntKind.wrap .i64 (Int.tdiv (k : Int) 200)))) = bv (f + UInt8.ofNat (k / 200)) := by
  have e1 : Int.tdiv (k : Int) 200 = ((k / 200 : Nat) : Int) := rfl
  have e2 : k / 200 < 256 := by omega
  have e4 : IntKind.wrap .u8 ((k / 200 : Nat) : Int) = ((k / 200 : Nat) : Int) := wrap_u8 (by omega) (by omega)
  rw [e1, wrap_i64 (by omega) (by omega), e4]
  have e3 : (f.toNat : Int) + ((k / 200 : Nat) : Int) = ((f.toNat + k / 200 : Nat) : Int) := by omega
  rw [e3, wrap_mod rfl]
  unfold bv
  congr 1
  rw [UInt8.toNat_add, UInt8.toNat_ofNat']
  simp only [IntKind.bits]
  omega
theorem fill_l {w w1 : World} {b1 m : Nat} {f : UInt8} {X : TypeId} {cs : Array Value} {R : Ending → World → Prop} (hm : m ≤ 1536) (hb1 : Blk w1 b1 cs X) (hc : cs[4]? = cs[4]?) (h3 : cs[3]? = some (.int .u8 (f.toNat : Int))) (k1 : Kp no w w1)
    (hK : ∀ a w', Sl w' T_uint8 1 a m m (bvs (fillN f m)) → Kp no w w' → Fresh w a → R (.returned (.slice a m m)) w') :
    RunF Try.prog (Instr.makeSlice T_s_uint8 (.int .i64 (m : Int)) (.int .i64 (m : Int))) w1 fun r4 w11 => ∃ (a5 : Option Addr) (l5 c5 : Nat), r4 = (.slice a5 l5 c5) ∧ (LoopF (S := Int × Unit) ((0 : Int), ()) w11 fun s8_3 w12 Next8 => ∀ _J : Env, (cond (decide (s8_3.1 < (m : Int))) (∃ (n16 : Int), w12.cell? (Addr.add ⟨b1, 0, none⟩ 3) = some (.int .u8 n16) ∧ (NeZ (200 : Int) (IdxF a5 s8_3.1 l5 fun d4 => (StF w12 (d4.add (Int.toNat s8_3.1)) (.int .u8 (IntKind.wrap .u8 (n16 + (IntKind.wrap .u8 (IntKind.wrap .i64 (Int.tdiv s8_3.1 (200 : Int))))))) fun w13 => (Next8 ((IntKind.wrap .i64 (s8_3.1 + (1 : Int))), ()) w13))))) (R (.returned (.slice a5 l5 c5)) w12))) := by
  refine make_u8 (by omega) fun bi w2 cur hbi hcur k2 hbe => ⟨_, _, _, rfl, ?_⟩
  have k02 := k1.trans0 k2
  have hs2 : Sl w2 T_uint8 1 (some ⟨bi, 0, none⟩) m m (bvs (List.replicate m 0)) := by
    refine ⟨by rw [bvs_len, List.length_replicate]; omega, Nat.le_refl _, .inr ⟨bi, cur, rfl, hbi, ?_, ?_⟩⟩
    · have := congrArg List.length hcur
      rw [bvs_len, List.length_replicate] at this
      simpa using this
    · rw [hcur, List.take_of_length_le (by rw [bvs_len, List.length_replicate]; omega)]
  have hfr : Fresh w (some ⟨bi, 0, none⟩) := fun j hj => by obtain ⟨_, he, rfl⟩ := hj; cases he; show w.heap.size ≤ bi; have := k1.size; omega
  have hb2 := k2.blk hb1 id
  have nb : ¬ Is (some ⟨bi, 0, none⟩) b1 := fun hh => by obtain ⟨_, he, h2⟩ := hh; cases he; have := hb1.lt; dsimp only at h2; omega
  refine loopN (fun s w' => ∃ k : Nat, s.1 = (k : Int) ∧ k ≤ m ∧ Sl w' T_uint8 1 (some ⟨bi, 0, none⟩) m m (bvs ((fillN f m).take k ++ (List.replicate m 0).drop k)) ∧ Kp (Is (some ⟨bi, 0, none⟩)) w2 w') (fun s _ => m - s.1.toNat) ⟨0, rfl, by omega, by simpa using hs2, Kp.refl _ _⟩ ?_
  rintro ⟨k0, u⟩ w3 ⟨k, hk0, hk, hs, kk⟩ _
  dsimp only at hk0 ⊢
  subst hk0
  refine cond_d (fun hlt => ?_) (fun hge => ?_)
  · have hkm : k < m := by omega
    have hkw : IntKind.wrap .i64 ((k : Int) + 1) = ((k + 1 : Nat) : Int) := by rw [wrap_i64 (by omega) (by omega)]; omega
    rw [hkw]
    refine ⟨_, cN (kk.blk hb2 nb) h3, by decide, by omega, hlt, _, rfl, ?_⟩
    rw [fill_v f (by omega)]
    refine hs.putv (i := k) (by omega) (by rw [Int.toNat_natCast, add_at, Nat.zero_add]) fun w4 hs4 k4 s4 => ?_
    rw [bvs_set, half_set (by rw [fillN_len]; omega) (by rw [fillN_len, List.length_replicate]) (by simp [fillN])] at hs4
    exact ⟨⟨k + 1, rfl, by omega, hs4, kk.trans0 k4⟩, by simp only [Int.toNat_natCast]; omega⟩
  · have hkm : k = m := by omega
    subst hkm
    rw [List.take_of_length_le (by rw [fillN_len]; omega), List.drop_eq_nil_of_le (by rw [List.length_replicate]; omega), List.append_nil] at hs
    exact hK _ w3 hs (k02.trans kk (fun _ _ h => h) fun j hj hh => by have := hfr j hh; omega) hfr
set_option maxRecDepth 100000 in
theorem filled_c {w : World} {n1 n2 n4 n5 n6 : Int} {q1 : Bool} {f : UInt8} {a1 : Option Addr} {l1 c1 : Nat} {R : Ending → World → Prop}
    (hK : ∀ a w', Sl w' T_uint8 1 a (lenO n4) (lenO n4) (bvs (fillN f (lenO n4))) → Kp no w w' → Fresh w a → R (.returned (.slice a (lenO n4) (lenO n4))) w') :
    GoC Try.prog F_law03_Op_filled #[.agg #[.int .i64 n1, .bool q1, .int .i64 n2, .int .u8 (f.toNat : Int), .int .i64 n4, .slice a1 l1 c1, .int .i64 n5, .int .i64 n6]] w R := by
  refine S_law03_Op_filled ?_
  unfold W_law03_Op_filled
  have hle := lenO_le n4
  refine AlF.intro fun b1 w1 hb1e hb1 k1 s1 => ⟨n4, cN hb1 rfl, cond_d (fun hp => ⟨n4, cN hb1 rfl, n4, cN hb1 rfl, cond_d (fun hn => by omega) (fun hnn => ?_)⟩) (fun hnp => ⟨n4, cN hb1 rfl, cond_d (fun hn => ⟨n4, cN hb1 rfl, ?_⟩) (fun hnn => ?_)⟩)⟩
  · have e : (if (1536 : Int) < n4 then (1536 : Int) else n4) = ((lenO n4 : Nat) : Int) := by unfold lenO; rw [if_pos hp]; split <;> omega
    rw [e]
    exact fill_l hle hb1 rfl rfl k1 hK
  · have e : (if (0 : Int) > (IntKind.wrap .i64 ((512 : Int) + (if (-512 : Int) > n4 then (-512 : Int) else n4))) then (0 : Int) else (IntKind.wrap .i64 ((512 : Int) + (if (-512 : Int) > n4 then (-512 : Int) else n4)))) = ((lenO n4 : Nat) : Int) := by
      have e1 : IntKind.wrap .i64 ((512 : Int) + (if (-512 : Int) > n4 then (-512 : Int) else n4)) = 512 + max n4 (-512) := by rw [wrap_i64 (by split <;> omega) (by split <;> omega)]; split <;> omega
      rw [e1]
      unfold lenO
      rw [if_neg hnp, if_pos hn]
      split <;> omega
    rw [e]
    exact fill_l hle hb1 rfl rfl k1 hK
  · have e : (512 : Int) = ((lenO n4 : Nat) : Int) := by unfold lenO; rw [if_neg hnp, if_neg hnn]; rfl
    rw [e]
    exact fill_l hle hb1 rfl rfl k1 hK
theorem num_c {w : World} {n : Int} {R : Ending → World → Prop} (h : R (.returned (.int .i64 n)) w) : GoC Try.prog F_law03_num #[.int .i64 n] w R := S_law03_num h
theorem same_c {w : World} {a a' : Option Addr} {l l' c c' : Nat} {bs bs' : List UInt8} {R : Ending → World → Prop} (hr : Rd w a (bvs bs)) (hl : bs.length = l) (h0 : a = none → l = 0) (hr' : Rd w a' (bvs bs')) (hl' : bs'.length = l') (h0' : a' = none → l' = 0)
    (h : R (.returned (.bool (decide (bs = bs')))) w) : GoC Try.prog F_law03_same #[.slice a l c, .slice a' l' c'] w R := by
  refine S_law03_same ?_
  unfold W_law03_same
  refine convert_bytes (e := T_uint8) (by kernel_rfl) (by kernel_rfl) (by kernel_rfl) hr hl h0 fun z hz => ⟨z, rfl, convert_bytes (e := T_uint8) (by kernel_rfl) (by kernel_rfl) (by kernel_rfl) hr' hl' h0' fun z' hz' => ⟨z', rfl, ?_⟩⟩
  rw [hz, hz']
  have e : (bs == bs') = decide (bs = bs') := by rw [Bool.eq_iff_iff, beq_iff_eq, decide_eq_true_eq]
  rw [e]
  exact h
theorem brought_c {w : World} {x n : Int} {R : Ending → World → Prop} (hn : 1 ≤ n) (hn2 : n ≤ 1000000) (hx : -9223372036854775808 ≤ x) (hx2 : x ≤ 9223372036854775807) (h : R (.returned (.int .i64 (x % n))) w) : GoC Try.prog F_law03_brought #[.int .i64 x, .int .i64 n] w R := by
  refine S_law03_brought ?_
  unfold W_law03_brought
  have e : x % n = if Int.tmod x n < 0 then Int.tmod x n + n else Int.tmod x n := by
    rw [Int.tmod_eq_emod]
    have h1 := Int.emod_nonneg x (by omega : n ≠ 0)
    have h2 := Int.emod_lt_of_pos x (by omega : 0 < n)
    by_cases hd : n ∣ x
    · have : x % n = 0 := Int.emod_eq_zero_of_dvd hd
      rw [this]
      simp [hd]
    · by_cases h0 : 0 ≤ x
      · simp [h0]
        omega
      · simp only [h0, hd, or_self, if_false]
        have : (n.natAbs : Int) = n := by omega
        have h3 : x % n ≠ 0 := fun h => hd (Int.dvd_of_emod_eq_zero h)
        rw [if_pos (by omega)]
        omega
  rw [e] at h
  refine ⟨by omega, cond_d (fun hlt => ?_) (fun hge => ?_)⟩
  · rw [if_pos hlt] at h
    have h2 := Int.emod_lt_of_pos x (by omega : 0 < n)
    have h1 := Int.emod_nonneg x (by omega : n ≠ 0)
    have e2 : Int.tmod x n + n = x % n := by rw [e, if_pos hlt]
    rw [wrap_i64 (by omega) (by omega)]
    exact h
  · rw [if_neg hge] at h
    exact h
end Go.Proofs.Ytkhdmbgcbogndaa
