/- Layer 4: the document's layout; the statements' awake, layout, small; MasterShapes, MasterLayout: their walks. Conditions: none. -/
import Derived.Test.YtaehmogilimmfaaKe
import Derived.Test.YtaehmogilimmfaaTq
set_option linter.unusedVariables false
set_option linter.unusedSimpArgs false
namespace Go.Proofs.Ytaehmogilimmfaa
open Go Go.RowKit

theorem rmay_c {w : World} {s : Sh} {R : Ending → World → Prop} (h : ∀ w', Kp no w w' → R (.returned (.bool (decide s.may))) w') : GoC Try.prog F_ref04_May #[s.v] w R := by
  refine S_ref04_May ?_
  unfold W_ref04_May
  refine AlF.intro fun b1 w1 hb1e hb1 k1 _ => ?_
  have out : ∀ b : Bool, decide s.may = b → R (.returned (.bool b)) w1 := fun b hb => by subst hb; exact h w1 k1
  unfold Sh.may at out
  refine ⟨_, hb1.at rfl rfl, cond_d (fun h1 => ⟨_, hb1.at rfl rfl, cond_d (fun h2 => ⟨_, hb1.at rfl rfl, cond_d (fun h3 => ⟨_, hb1.at rfl rfl, cond_d (fun h4 => ⟨_, hb1.at rfl rfl, cond_d (fun h5 => ⟨_, hb1.at rfl rfl, out _ ?_⟩) (fun h5 => out _ ?_)⟩) (fun h4 => out _ ?_)⟩) (fun h3 => out _ ?_)⟩) (fun h2 => out _ ?_)⟩) (fun h1 => out _ ?_)⟩
  · exact decide_eq_decide.2 ⟨fun hh => by omega, fun hh => by omega⟩
  all_goals exact decide_eq_false (by omega)
theorem rneed_c {w : World} {s : Sh} {R : Ending → World → Prop} (h : ∀ w', Kp no w w' → R (.returned (.tuple #[.int .i64 (needR s).1, .int .i64 (needR s).2])) w') : GoC Try.prog F_ref04_Need #[s.v] w R := by
  refine S_ref04_Need ?_
  unfold W_ref04_Need
  refine AlF.intro fun b1 w1 hb1e hb1 k1 _ => ⟨_, _, _, ⟨hb1.at rfl rfl, hb1.at rfl rfl, hb1.at rfl rfl, trivial⟩, rmay_c (s := s) fun w2 k2 => ⟨_, rfl, cond_not (cond_d (fun hm => ?_) (fun hm => ?_))⟩⟩
  · have hb := k2.blk hb1 id
    have := h w2 (k1.trans0 k2)
    unfold needR at this
    rw [if_pos hm] at this
    have hm' := hm
    unfold Sh.may at hm'
    refine ⟨_, hb.at rfl rfl, _, hb.at rfl rfl, ?_⟩
    have e : IntKind.wrap .i64 (IntKind.wrap .i64 (5 + IntKind.wrap .i64 (2 * s.pg)) + s.lg) = s.need := by
      unfold Sh.need
      rw [wrap_i64 (x := 2 * s.pg) (by omega) (by omega), wrap_i64 (x := 5 + 2 * s.pg) (by omega) (by omega), wrap_i64 (by omega) (by omega)]
    rw [e]
    exact this
  · have := h w2 (k1.trans0 k2)
    unfold needR at this
    rw [if_neg hm] at this
    exact this
theorem rhome_c {w : World} {s : Sh} {p : Int} {R : Ending → World → Prop} (h : ∀ w', Kp no w w' → R (.returned (.tuple #[.int .i64 (homeR s p).1, .int .i64 (homeR s p).2])) w') : GoC Try.prog F_ref04_Home #[s.v, .int .i64 p] w R := by
  refine S_ref04_Home ?_
  unfold W_ref04_Home
  refine AlF.intro fun b1 w1 hb1e hb1 k1 _ => ⟨_, _, _, ⟨hb1.at rfl rfl, hb1.at rfl rfl, hb1.at rfl rfl, trivial⟩, rmay_c (s := s) fun w2 k2 => ⟨_, rfl, cond_not (cond_d (fun hm => ?_) (fun hm => ?_))⟩⟩
  · have hb := k2.blk hb1 id
    have := h w2 (k1.trans0 k2)
    unfold homeR at this
    rw [if_pos hm] at this
    have hm' := hm
    unfold Sh.may at hm'
    refine cond_d (fun h1 => ?_) (fun h1 => ⟨_, hb.at rfl rfl, cond_d (fun h2 => ?_) (fun h2 => ?_)⟩)
    · rw [if_neg (by omega)] at this; exact this
    · rw [if_neg (by omega)] at this; exact this
    · rw [if_pos (by omega)] at this
      have e : IntKind.wrap .i64 (5 + IntKind.wrap .i64 (2 * p)) = 5 + 2 * p := by
        rw [wrap_i64 (x := 2 * p) (by omega) (by omega), wrap_i64 (by omega) (by omega)]
      rw [e]
      exact this
  · have := h w2 (k1.trans0 k2)
    unfold homeR at this
    rw [if_neg hm] at this
    exact this
theorem rlog_c {w : World} {s : Sh} {R : Ending → World → Prop} (h : ∀ w', Kp no w w' → R (.returned (.tuple #[.int .i64 (logR s).1, .int .i64 (logR s).2])) w') : GoC Try.prog F_ref04_Log #[s.v] w R := by
  refine S_ref04_Log ?_
  unfold W_ref04_Log
  refine AlF.intro fun b1 w1 hb1e hb1 k1 _ => ⟨_, _, _, ⟨hb1.at rfl rfl, hb1.at rfl rfl, hb1.at rfl rfl, trivial⟩, rmay_c (s := s) fun w2 k2 => ⟨_, rfl, cond_not (cond_d (fun hm => ?_) (fun hm => ?_))⟩⟩
  · have hb := k2.blk hb1 id
    have := h w2 (k1.trans0 k2)
    unfold logR at this
    rw [if_pos hm] at this
    have hm' := hm
    unfold Sh.may at hm'
    refine ⟨_, hb.at rfl rfl, ?_⟩
    have e : IntKind.wrap .i64 (5 + IntKind.wrap .i64 (2 * s.pg)) = 5 + 2 * s.pg := by
      rw [wrap_i64 (x := 2 * s.pg) (by omega) (by omega), wrap_i64 (by omega) (by omega)]
    rw [e]
    exact this
  · have := h w2 (k1.trans0 k2)
    unfold logR at this
    rw [if_neg hm] at this
    exact this


/-! ### awake -/
theorem formatR_sm {v : Dv} {s : Sh} {m : Nat} (h : v.Sm m) : (formatR v s).2.Sm (m + 2) := by
  unfold formatR
  repeat' split
  · exact h.mono (by omega)
  · exact h.mono (by omega)
  · exact (Dv.put_sm h).mono (by omega)
  · exact Dv.put_sm (Dv.put_sm h)
theorem pointR_sm {v : Dv} {n : Int} {m : Nat} (h : v.Sm m) : (pointR v n).2.Sm (m + 1) := by
  unfold pointR
  repeat' split
  · exact h.mono (by omega)
  · exact h.mono (by omega)
  · exact h.mono (by omega)
  · exact Dv.put_sm h
theorem new_sm (n : Nat) : (Dv.new n).Sm 0 := ⟨Nat.le_refl _, by simp [Dv.new]⟩
def awS : Sh := ⟨2, 4, 2⟩
def aw1 : Dv := (formatR (Dv.new 13) awS).2
def aw2 : Dv := (pointR aw1 7).2
set_option maxRecDepth 1000000 in
theorem aw1_ok : (formatR (Dv.new 13) awS).1 = 0 := by decide +kernel
set_option maxRecDepth 1000000 in
theorem aw2_ok : (pointR aw1 7).1 = 0 := by decide +kernel
set_option maxRecDepth 1000000 in
theorem aw3_ok : openR aw2 = (awS, 7, 0) := by decide +kernel
theorem err0 {w : World} {v : Value} {z : ByteArray} (h : ErrV w v z 0) : v = .nilIface := by
  rcases h with h | h
  · exact h.2
  · exact absurd rfl h.1

set_option maxRecDepth 100000 in
set_option maxHeartbeats 1000000 in
theorem awake_c {w : World} {R : Ending → World → Prop} (h : ∀ w', Kp no w w' → R (.returned (.bool true)) w') : GoC Try.prog F_law04_awake #[] w R := by
  refine S_law04_awake ?_
  unfold W_law04_awake
  refine AlF.intro fun b1 w1 hb1e hb1 k1 _ => ?_
  refine sh_st awS hb1 fun w4 hb4 k4 => ?_
  have k04 : Kp no w w4 := kp_blk k1 (by omega) k4
  have en : needR awS = (13, 0) := by decide
  have eh : homeR awS 1 = (7, 0) := by decide
  have el : logR awS = (9, 0) := by decide
  have eh2 : (homeR awS 2).2 = 4 := by decide
  refine sh_rd (x := awS) hb4 (need_c (s := awS) fun w5 k5 => ⟨_, _, rfl, ?_⟩)
  have hb5 := k5.blk hb4 id
  refine sh_rd (x := awS) hb5 (home_c (s := awS) (p := 1) fun w6 k6 => ⟨_, _, rfl, ?_⟩)
  have hb6 := k6.blk hb5 id
  refine sh_rd (x := awS) hb6 (log_c (s := awS) fun w7 k7 => ⟨_, _, rfl, ?_⟩)
  have hb7 := k7.blk hb6 id
  refine sh_rd (x := awS) hb7 (home_c (s := awS) (p := 2) fun w8 k8 => ⟨_, _, rfl, ?_⟩)
  have hb8 := k8.blk hb7 id
  have k08 := (((k04.trans0 k5).trans0 k6).trans0 k7).trans0 k8
  rw [en, eh, el, eh2]
  refine cond_f rfl (num_c ⟨_, rfl, cond_f rfl (cond_f rfl (num_c ⟨_, rfl, cond_f rfl (cond_f rfl (num_c ⟨_, rfl, cond_f rfl (num_c ⟨_, rfl, cond_f rfl ?_⟩)⟩))⟩))⟩)
  have o8 : Old w w8 fun _ => 0 := ⟨k08, fun _ _ => rfl⟩
  refine new_c (ow := fun _ => 0) (n := 13) (by omega) (by omega) 100 fun b w9 ow9 h9 k9 hz hge => ⟨_, _, rfl, cond_f rfl ?_⟩
  have f9 : Fro (fun _ => True) w8 (fun _ => 0) w9 ow9 := Fro.new k9 hz
  obtain ⟨x9, t9⟩ := blk_fr hb8 rfl f9 trivial
  have o9 := o8.fr f9 trivial
  refine sh_rd (x := awS) x9 (mformat_c (s := awS) h9 ((new_sm 13).mono (by omega)) fun e w10 ow10 h10 f10 he => ⟨_, rfl, ?_⟩)
  rw [aw1_ok] at he
  have he := err0 he
  subst he
  refine .inl ⟨rfl, cond_f rfl ?_⟩
  obtain ⟨x10, t10⟩ := blk_fr x9 t9 f10 ⟨by omega, by omega, by omega⟩
  have o10 := o9.fr f10 ⟨by omega, by omega, by omega⟩
  have sm1 : aw1.Sm 2 := formatR_sm (new_sm 13)
  refine mpoint_c (v := aw1) (lsn := 7) h10 (sm1.mono (by omega)) fun e w11 ow11 h11 f11 he => ⟨_, rfl, ?_⟩
  rw [aw2_ok] at he
  have he := err0 he
  subst he
  refine .inl ⟨rfl, cond_f rfl ?_⟩
  obtain ⟨x11, t11⟩ := blk_fr x10 t10 f11 ⟨by omega, by omega, by omega⟩
  have o11 := o10.fr f11 ⟨by omega, by omega, by omega⟩
  have sm2 : aw2.Sm 3 := pointR_sm sm1
  refine mopen_c (v := aw2) h11 (sm2.mono (by omega)) fun e w12 k12 he => ?_
  rw [aw3_ok] at he ⊢
  have he := err0 he
  subst he
  refine ⟨_, _, _, _, _, rfl, AlF.intro fun b2 w13 hb13e hb13 k13 _ => sh_st awS hb13 fun w14 hb14 k14 => .inl ⟨rfl, cond_t rfl ?_⟩⟩
  have k1114 : Kp no w11 w14 := kp_blk (k12.trans0 k13) (by have := k12.size; omega) k14
  have x14 := k1114.blk x11 id
  have k014 : Kp no w w14 := o11.kp.trans0 k1114
  refine sh_rd (x := awS) hb14 (sh_rd (x := awS) x14 (cond_t rfl (cond_t rfl (sh_rd (x := awS) x14 (mformat_nil (s := awS) fun e w15 k15 he => ⟨_, rfl, ?_⟩)))))
  refine told_c (z := zF) he ⟨_, rfl, cond_t rfl ?_⟩
  refine mpoint_nil fun e w16 k16 he => ⟨_, rfl, told_c (z := zP) he ⟨_, rfl, ?_⟩⟩
  exact h w16 ((k014.trans0 k15).trans0 k16)

/-! ### layout, small -/
theorem layout_c {w : World} {s : Sh} {p : Int} {R : Ending → World → Prop} (h : ∀ w', Kp no w w' → R (.returned (.bool true)) w') : GoC Try.prog F_law04_layout #[s.v, .int .i64 p] w R := by
  refine S_law04_layout ?_
  unfold W_law04_layout
  refine AlF.intro fun b1 w1 hb1e hb1 k1 _ => ?_
  refine sh_rd (x := s) hb1 (need_c (s := s) fun w2 k2 => ⟨_, _, rfl, ?_⟩)
  have hb2 := k2.blk hb1 id
  refine sh_rd (x := s) hb2 (rneed_c (s := s) fun w3 k3 => ⟨_, _, rfl, ?_⟩)
  have hb3 := k3.blk hb2 id
  refine sh_rd (x := s) hb3 (home_c (s := s) (p := p) fun w4 k4 => ⟨_, _, rfl, ?_⟩)
  have hb4 := k4.blk hb3 id
  refine sh_rd (x := s) hb4 (rhome_c (s := s) (p := p) fun w5 k5 => ⟨_, _, rfl, ?_⟩)
  have hb5 := k5.blk hb4 id
  refine sh_rd (x := s) hb5 (log_c (s := s) fun w6 k6 => ⟨_, _, rfl, ?_⟩)
  have hb6 := k6.blk hb5 id
  refine sh_rd (x := s) hb6 (rlog_c (s := s) fun w7 k7 => ⟨_, _, rfl, ?_⟩)
  have kk := (((((k1.trans0 k2).trans0 k3).trans0 k4).trans0 k5).trans0 k6).trans0 k7
  refine cond_eq (fun _ => num_c ⟨_, rfl, cond_eq (fun _ => cond_eq (fun _ => num_c ⟨_, rfl, cond_eq (fun _ => cond_eq (fun _ => num_c ⟨_, rfl, ?_⟩) (fun hh => absurd rfl hh)) (fun hh => absurd rfl hh)⟩) (fun hh => absurd rfl hh)) (fun hh => absurd rfl hh)⟩) (fun hh => absurd rfl hh)
  rw [beq_self_eq_true]
  exact h w7 kk

theorem tmod_rest {n m : Int} (hm : 0 < m) : Int.tmod (Int.tmod n m + m) m = n % m := by
  have h1 := Int.lt_tmod_of_pos n hm
  rw [Int.tmod_eq_emod_of_nonneg (by omega), Int.add_emod_right]
  have h2 := Int.tmod_add_mul_tdiv n m
  conv => rhs; rw [← h2]
  rw [Int.add_mul_emod_self_left]
theorem rest_c {w : World} {n m : Int} {R : Ending → World → Prop} (hm : 0 < m) (hb : m ≤ 4294967296) (h : R (.returned (.int .i64 (n % m))) w) : GoC Try.prog F_law04_rest #[.int .i64 n, .int .i64 m] w R := by
  refine S_law04_rest ?_
  unfold W_law04_rest
  have h1 := Int.lt_tmod_of_pos n hm
  have h2 := Int.tmod_lt_of_pos n hm
  have e2 : IntKind.wrap .i64 (Int.tmod n m + m) = Int.tmod n m + m := wrap_i64 (by omega) (by omega)
  rw [e2, tmod_rest hm]
  clear e2
  exact ⟨by omega, by omega, h⟩
def smallS (s : Sh) : Sh := ⟨2 + s.pg % 4, 4 + s.lg % 5, 2 + s.fr % 15⟩
theorem small_may (s : Sh) : (smallS s).may := by
  unfold smallS Sh.may
  dsimp only
  omega
theorem small_c {w : World} {s : Sh} {R : Ending → World → Prop} (h : ∀ w', Kp no w w' → R (.returned (smallS s).v) w') : GoC Try.prog F_law04_small #[s.v] w R := by
  refine S_law04_small ?_
  unfold W_law04_small
  refine AlF.intro fun b1 w1 hb1e hb1 k1 _ => AlF.intro fun b2 w2 hb2e hb2 k2 _ => ?_
  have x1 := k2.blk hb1 id
  have lt1 := hb1.lt
  have s1 := k1.size
  have kd : Kp no w2 w2.drew := Kp.drew w2 1
  have S : ∀ w', Kp (fun j => j = b2) w2 w' → Blk w' b1 #[.int .i64 s.pg, .int .i64 s.lg, .int .i64 s.fr] T_api_Shape := fun w' k => k.blk x1 fun hh => by
    have hh : b1 = b2 := hh
    omega
  refine ⟨fun w' => Kp (fun j => j = b2) w2 w', kd.of_no, _, fun w' k => (S w' k).at rfl rfl, _, fun w' k => (S w' k).at rfl rfl, _, fun w' k => (S w' k).at rfl rfl, ?_⟩
  refine rest_c (by omega) (by omega) ⟨_, rfl, kd.of_no, rest_c (by omega) (by omega) ⟨_, rfl, kd.of_no, rest_c (by omega) (by omega) ⟨_, rfl, kd.of_no, ?_⟩⟩⟩
  have e1 : IntKind.wrap .i64 (2 + s.pg % 4) = 2 + s.pg % 4 := wrap_i64 (by omega) (by omega)
  have e2 : IntKind.wrap .i64 (4 + s.lg % 5) = 4 + s.lg % 5 := wrap_i64 (by omega) (by omega)
  have e3 : IntKind.wrap .i64 (2 + s.fr % 15) = 2 + s.fr % 15 := wrap_i64 (by omega) (by omega)
  rw [e1, e2, e3]
  clear e1 e2 e3
  refine sh_st (smallS s) (kd.blk hb2 id) fun w5 hb5 k5 => ⟨kd.of_no.trans0 k5, sh_rd (x := smallS s) hb5 (h w5 (kp_blk ((k1.trans0 k2).trans0 kd) (by omega) k5))⟩

/-! ### MasterShapes -/
set_option maxRecDepth 100000 in
theorem masterShapes_c {w : World} {s : Sh} {p : Int} {R : Ending → World → Prop} (h : ∀ w', Kp no w w' → R (.returned (.bool true)) w') : GoC Try.prog F_law04_MasterShapes #[s.v, .int .i64 p] w R := by
  refine S_law04_MasterShapes ?_
  unfold W_law04_MasterShapes
  refine AlF.intro fun b1 w1 hb1e hb1 k1 _ => ?_
  refine mopen_nil fun e w2 k2 he => ⟨_, _, _, _, _, rfl, AlF.intro fun b2 w3 hb3e hb3 k3 _ => sh_st ⟨0, 0, 0⟩ hb3 fun w4 hb4 k4 => ?_⟩
  have k14 : Kp no w2 w4 := kp_blk k3 (by omega) k4
  refine awake_c fun w5 k5 => ⟨_, rfl, cond_t rfl ?_⟩
  have x5 := ((k2.trans0 k14).trans0 k5).blk hb1 id
  refine sh_rd (x := s) x5 (layout_c (s := s) fun w6 k6 => ⟨_, rfl, cond_t rfl ?_⟩)
  have x6 := k6.blk x5 id
  refine sh_rd (x := s) x6 (small_c (s := s) fun w7 k7 => ⟨_, _, _, rfl, layout_c (s := smallS s) fun w8 k8 => ⟨_, rfl, cond_t rfl ?_⟩⟩)
  have k48 := ((k5.trans0 k6).trans0 k7).trans0 k8
  refine told_c (z := zO) (he.kp0 (k14.trans0 k48)) ⟨_, rfl, ?_⟩
  exact h w8 (((k1.trans0 k2).trans0 k14).trans0 k48)

/-! ### MasterLayout -/
set_option maxRecDepth 100000 in
set_option maxHeartbeats 1000000 in
theorem masterLayout_c {w : World} {s : Sh} {R : Ending → World → Prop} (h : ∀ w', Kp no w w' → R (.returned (.bool true)) w') : GoC Try.prog F_law04_MasterLayout #[s.v] w R := by
  refine S_law04_MasterLayout ?_
  unfold W_law04_MasterLayout
  refine AlF.intro fun b1 w1 hb1e hb1 k1 _ => ?_
  refine awake_c fun w2 k2 => ⟨_, rfl, cond_f rfl ?_⟩
  have x2 := k2.blk hb1 id
  refine sh_rd (x := s) x2 (need_c (s := s) fun w3 k3 => ⟨_, _, rfl, ?_⟩)
  have x3 := k3.blk x2 id
  have k03 := (k1.trans0 k2).trans0 k3
  refine ⟨fun q w' => q.1 = decide s.may ∧ w' = w3, ?_, ?_⟩
  · have out : ∀ b : Bool, decide s.may = b → b = decide s.may ∧ w3 = w3 := fun b hb => ⟨hb.symm, rfl⟩
    unfold Sh.may at out ⊢
    refine ⟨_, x3.at rfl rfl, cond_d (fun h1 => ⟨_, x3.at rfl rfl, cond_d (fun h2 => ⟨_, x3.at rfl rfl, cond_d (fun h3 => ⟨_, x3.at rfl rfl, cond_d (fun h4 => ⟨_, x3.at rfl rfl, cond_d (fun h5 => ⟨_, x3.at rfl rfl, out _ ?_⟩) (fun h5 => out _ ?_)⟩) (fun h4 => out _ ?_)⟩) (fun h3 => out _ ?_)⟩) (fun h2 => out _ ?_)⟩) (fun h1 => out _ ?_)⟩
    · exact decide_eq_decide.2 ⟨fun hh => by omega, fun hh => by omega⟩
    all_goals exact decide_eq_false (by omega)
  rintro ⟨q, u⟩ w' ⟨hq, rfl⟩ _
  dsimp only at hq ⊢
  subst hq
  refine ⟨fun _ w'' => w'' = w', ?_, ?_⟩
  · unfold needR
    by_cases hm : s.may
    · rw [if_pos hm, decide_eq_true hm]
      exact num_c ⟨_, rfl, cond_f rfl (num_c ⟨_, rfl, cond_f rfl rfl⟩)⟩
    · rw [if_neg hm, decide_eq_false hm]
      exact num_c ⟨_, rfl, cond_f rfl (num_c ⟨_, rfl, cond_t rfl (num_c ⟨_, rfl, cond_f rfl (cond_f rfl rfl)⟩)⟩)⟩
  rintro _ w'' rfl _
  refine cond_not (cond_d (fun hm => ?_) (fun hm => ?_))
  rotate_left
  · refine sh_rd (x := s) x3 (home_c (s := s) (p := 0) fun w4 k4 => ⟨_, _, rfl, sh_rd (x := s) (k4.blk x3 id) (log_c (s := s) fun w5 k5 => ⟨_, _, rfl, ?_⟩)⟩)
    unfold homeR logR
    rw [if_neg hm, if_neg hm]
    exact num_c ⟨_, rfl, cond_t rfl (num_c ⟨_, rfl, h w5 ((k03.trans0 k4).trans0 k5)⟩)⟩
  have hm' := hm
  unfold Sh.may at hm'
  refine loopN (fun st w' => ∃ k : Nat, (k : Int) ≤ s.pg ∧ st.1 = 5 + 2 * (k : Int) ∧ st.2.1 = (k : Int) ∧ Kp no w'' w') (fun st _ => (s.pg - st.2.1).toNat) ⟨0, by omega, rfl, rfl, Kp.refl _ _⟩ ?_
  rintro ⟨at_, k0, u⟩ w4 ⟨k, hk, hat, hk0, k4⟩ _
  dsimp only at hat hk0 ⊢
  subst hat hk0
  have x4 := k4.blk x3 id
  refine ⟨_, x4.at rfl rfl, cond_d (fun hlt => ?_) (fun hge => ?_)⟩
  · refine sh_rd (x := s) x4 (home_c (s := s) (p := (k : Int)) fun w5 k5 => ⟨_, _, rfl, ?_⟩)
    unfold homeR
    rw [if_pos hm, if_pos ⟨by omega, hlt⟩]
    refine num_c ⟨_, rfl, cond_f rfl (cond_ne (fun hh => absurd rfl hh) (fun _ => ?_))⟩
    have e1 : IntKind.wrap .i64 (5 + 2 * (k : Int) + 2) = 5 + 2 * ((k + 1 : Nat) : Int) := by rw [wrap_i64 (by omega) (by omega)]; omega
    have e2 : IntKind.wrap .i64 ((k : Int) + 1) = ((k + 1 : Nat) : Int) := by rw [wrap_i64 (by omega) (by omega)]; omega
    rw [e1, e2]
    clear e1 e2
    exact ⟨⟨k + 1, by omega, rfl, rfl, k4.trans0 k5⟩, by omega⟩
  · refine sh_rd (x := s) x4 (log_c (s := s) fun w5 k5 => ⟨_, _, rfl, ?_⟩)
    unfold logR needR
    rw [if_pos hm, if_pos hm]
    have hke : (k : Int) = s.pg := by omega
    refine num_c ⟨_, rfl, cond_t rfl (cond_eq (fun _ => ⟨_, (k5.blk x4 id).at rfl rfl, ?_⟩) (fun hh => absurd (by dsimp only; omega) hh))⟩
    have e1 : IntKind.wrap .i64 (5 + 2 * (k : Int) + s.lg) = s.need := by
      unfold Sh.need
      rw [wrap_i64 (by omega) (by omega)]
      omega
    rw [e1, beq_self_eq_true]
    exact h w5 ((k03.trans0 k4).trans0 k5)

/-! ### Arguments -/
theorem sh_arg {W : World} {v : Value} (h : ArgW Try.prog W T_api_Shape v) : ∃ s : Sh, v = s.v := by
  obtain ⟨cs, rfl, _⟩ := h.arg.struct (s := 3) (by kernel_rfl)
  have hc := h.clw
  have hl := hc.cl.slen (s := 3) (by kernel_rfl)
  have f0 := (hc.field 0 (e := T_int) (o := 0) (s := 1) (by kernel_rfl)).cl
  have f1 := (hc.field 1 (e := T_int) (o := 1) (s := 1) (by kernel_rfl)).cl
  have f2 := (hc.field 2 (e := T_int) (o := 2) (s := 1) (by kernel_rfl)).cl
  generalize he : (Value.agg cs).cells.toList = ls at *
  match ls, hl with
  | [x0, x1, x2], _ =>
    simp only [List.drop_zero, List.drop_succ_cons, List.take_succ_cons, List.take_zero] at f0 f1 f2
    obtain ⟨n0, e0, _⟩ := f0.int (k := .i64) (by kernel_rfl)
    obtain ⟨n1, e1, _⟩ := f1.int (k := .i64) (by kernel_rfl)
    obtain ⟨n2, e2, _⟩ := f2.int (k := .i64) (by kernel_rfl)
    cases e0; cases e1; cases e2
    refine ⟨⟨n0, n1, n2⟩, ?_⟩
    unfold Sh.v
    congr 1
    exact Array.ext' he
theorem int_arg {W : World} {v : Value} (h : ArgW Try.prog W T_int v) : ∃ n, v = .int .i64 n := by
  obtain ⟨n, hv, hw⟩ := h.arg.int (k := .i64) (by kernel_rfl)
  exact ⟨n, hv⟩
theorem masterShapes_walk {W : World} {v0 v1 : Value} (h0 : ArgW Try.prog W T_api_Shape v0) (h1 : ArgW Try.prog W T_int v1) : GoC Try.prog F_law04_MasterShapes #[v0, v1] W fun e W' => e = .returned (.bool true) ∧ Kp no W W' := by
  obtain ⟨s, rfl⟩ := sh_arg h0
  obtain ⟨p, rfl⟩ := int_arg h1
  exact masterShapes_c fun w' k => ⟨rfl, k⟩
theorem masterLayout_walk {W : World} {v0 : Value} (h0 : ArgW Try.prog W T_api_Shape v0) : GoC Try.prog F_law04_MasterLayout #[v0] W fun e W' => e = .returned (.bool true) ∧ Kp no W W' := by
  obtain ⟨s, rfl⟩ := sh_arg h0
  exact masterLayout_c fun w' k => ⟨rfl, k⟩
end Go.Proofs.Ytaehmogilimmfaa
