/- The statement MasterOne: its walk. Conditions: none. -/
import Derived.Test.YtaehmogilimmfaaKh
import Derived.Test.YtaehmogilimmfaaTn2
set_option linter.unusedVariables false
set_option linter.unusedSimpArgs false
namespace Go.Proofs.Ytaehmogilimmfaa
open Go Go.RowKit

theorem crash_sm {v : Dv} {m : Nat} (h : v.Sm m) (keep : List Nat) (torn off : Int) : ((v.crash keep torn off).2.up).Sm m := by
  unfold Dv.crash
  split
  · exact ⟨h.q, h.k⟩
  · exact ⟨Nat.zero_le _, by show (List.length ([] : List Nat)) * 8 ≤ _; simp⟩
theorem before_slot {bs : List UInt8} {st : Nat} {s : Sh} {pt : Int} (h : 1 ≤ st) (e : bs = slotB st s pt) : Before bs (st + 1) := .inr ⟨s, pt, by omega, e⟩

set_option maxRecDepth 100000 in
/-- A disk of that shape, with points. -/
theorem formatted_c {w : World} {s : Sh} {a : Option Addr} {l c : Nat} {L : List Int} {R : Ending → World → Prop} (hr : Rd w a (L.map (Value.int .i64))) (hl : L.length = l) (hs : s.may) (t : Nat) (ht : 10 ≤ t)
    (h : ∀ b v w' ow' n m last, DX w' ow' t b v → Mas v n m s last → Before (v.sect ((m + 1) % 2)) m → v.step = 0 → m ≤ 21 → v.Sm 40 → Old w w' ow' → R (.returned (.tuple #[.pointer (some ⟨b, 0, none⟩), .int .i64 last, .bool true])) w') : GoC Try.prog F_law04_formatted #[s.v, .slice a l c] w R := by
  refine S_law04_formatted ?_
  unfold W_law04_formatted
  have hs' := hs
  unfold Sh.may at hs'
  have o0 : Old w w fun _ => 0 := ⟨Kp.refl _ _, fun _ _ => rfl⟩
  refine AlF.intro fun b1 w1 hb1e hb1 k1 _ => ?_
  refine sh_rd (x := s) hb1 (need_c (s := s) fun w2 k2 => ⟨_, _, rfl, ?_⟩)
  have x2 := k2.blk hb1 id
  have f2 : Fro (fun _ => True) w (fun _ => 0) w2 (ext (fun _ => 0) w.heap.size 3) := Fro.of_kp0 3 (k1.trans0 k2)
  have t2 : ext (fun _ => 0) w.heap.size 3 b1 = 3 := ext_new (by omega)
  have o2 := o0.fr f2 trivial
  generalize ext (fun _ => 0) w.heap.size 3 = ow2 at *
  unfold needR
  rw [if_pos hs]
  have en : s.need = ((s.need.toNat : Nat) : Int) := by unfold Sh.need; omega
  dsimp only
  have hge : 13 ≤ s.need.toNat ∧ s.need.toNat ≤ 5000 := by unfold Sh.need; omega
  generalize hn : s.need.toNat = n at *
  rw [en]
  refine new_c (ow := ow2) (n := n) (by omega) (by omega) t fun b w3 ow3 h3 k3 hz hge3 => ⟨_, _, rfl, num_c ⟨_, rfl, cond_f rfl (num_c ⟨_, rfl, cond_f rfl (cond_f rfl ?_)⟩)⟩⟩
  have f3 : Fro (fun _ => True) w2 ow2 w3 ow3 := Fro.new k3 hz
  obtain ⟨x3, t3⟩ := blk_fr x2 t2 f3 trivial
  have o3 := o2.fr f3 trivial
  obtain ⟨a1, c1, m1, z1⟩ := Mas.new (n := n) hs en
  refine sh_rd (x := s) x3 (mformat_c (s := s) h3 ((new_sm n).mono (by omega)) fun e w4 ow4 h4 f4 he => ⟨_, rfl, ?_⟩)
  rw [a1] at he
  have he := err0 he
  subst he
  have o4 := o3.fr f4 ⟨by omega, by omega, by omega⟩
  have sm1 := formatR_sm (s := s) (new_sm n)
  refine .inl ⟨rfl, cond_f rfl ?_⟩
  generalize (formatR (Dv.new n) s).2 = v1 at *
  refine loopN (fun st w' => ∃ k : Nat, k ≤ l ∧ k ≤ 20 ∧ st.2.1 = (k : Int) ∧ ∃ v' ow' m, DX w' ow' t b v' ∧ Mas v' n m s st.1 ∧ Before (v'.sect ((m + 1) % 2)) m ∧ v'.step = 0 ∧ m ≤ 1 + k ∧ v'.Sm (10 + k) ∧ Old w w' ow') (fun st _ => l - st.2.1.toNat)
    ⟨0, by omega, by omega, rfl, v1, ow4, 1, h4, m1, .inl ⟨rfl, z1⟩, c1, by omega, sm1.mono (by omega), o4⟩ ?_
  rintro ⟨at_, k0, u⟩ w7 ⟨k, hk, hk20, hk0, v', ow7, m, h7, m7, b7, s7, l7, sm7, o7⟩ _
  dsimp only at hk0 m7 ⊢
  subst hk0
  have fin : R (.returned (.tuple #[.pointer (some ⟨b, 0, none⟩), .int .i64 at_, .bool true])) w7 := h b v' w7 ow7 n m at_ h7 m7 b7 s7 (by omega) (sm7.mono (by omega)) o7
  refine cond_d (fun hkl => ?_) (fun _ => fin)
  refine cond_d (fun hk2 => ?_) (fun _ => fin)
  have hkL : k < L.length := by omega
  have cellL : ∀ w', Kp no w w' → ∃ ba, a = some ba ∧ w'.cell? (ba.add (Int.toNat (k : Int))) = some (.int .i64 L[k]) := fun w' kp => by
    obtain ⟨ba, oa, ha, hca⟩ := (hr.kp0 kp) k (.int .i64 L[k]) (by rw [List.getElem?_map, List.getElem?_eq_getElem hkL]; rfl)
    exact ⟨⟨ba, oa, none⟩, ha, by rw [Int.toNat_natCast, add_at]; exact hca⟩
  have wk : IntKind.wrap .i64 ((k : Int) + 1) = ((k + 1 : Nat) : Int) := wk4 (n := 20) (by omega) (by omega)
  rw [wk]
  clear wk
  have skip : ∃ k' : Nat, k' ≤ l ∧ k' ≤ 20 ∧ (((k + 1 : Nat) : Int)) = (k' : Int) ∧ ∃ v' ow' m, DX w7 ow' t b v' ∧ Mas v' n m s at_ ∧ Before (v'.sect ((m + 1) % 2)) m ∧ v'.step = 0 ∧ m ≤ 1 + k' ∧ v'.Sm (10 + k') ∧ Old w w7 ow' :=
    ⟨k + 1, by omega, by omega, rfl, v', ow7, m, h7, m7, b7, s7, by omega, sm7.mono (by omega), o7⟩
  obtain ⟨ba, ha, hca⟩ := cellL w7 o7.kp
  refine ⟨by omega, by omega, ba, ha, L[k], hca, ?_⟩
  refine cond_d (fun hneg => ⟨skip, by simp only [Int.toNat_natCast]; omega⟩) (fun hneg => ?_)
  refine ⟨by omega, by omega, ba, ha, L[k], hca, ?_⟩
  refine cond_d (fun hbig => ⟨skip, by simp only [Int.toNat_natCast]; omega⟩) (fun hbig => ?_)
  refine ⟨by omega, by omega, ba, ha, L[k], hca, ?_⟩
  obtain ⟨p1, p2, p3, p4⟩ := m7.pointed (p := L[k]) s7 (by omega) (by omega)
  have sm8 := pointR_sm (n := L[k]) sm7
  refine mpoint_c h7 (sm7.mono (by omega)) fun e w8 ow8 h8 f8 he => ⟨_, rfl, ?_⟩
  rw [p1] at he
  have he := err0 he
  subst he
  have o8 := o7.fr f8 ⟨by omega, by omega, by omega⟩
  refine .inl ⟨rfl, cond_f rfl ?_⟩
  obtain ⟨bb, hb, hcb⟩ := cellL w8 o8.kp
  refine ⟨by omega, by omega, bb, hb, L[k], hcb, ?_⟩
  exact ⟨⟨k + 1, by omega, by omega, rfl, _, ow8, m + 1, h8, p3, before_slot (by have := m7.ht; omega) p4, p2, by omega, sm8, o8⟩, by simp only [Int.toNat_natCast]; omega⟩

set_option maxRecDepth 100000 in
set_option maxHeartbeats 2000000 in
theorem masterOne_c {w : World} {s : Sh} {a1 a2 a3 : Option Addr} {l1 c1 l2 c2 l3 c3 : Nat} {L M : List Int} {keep : List Nat} {lsn step torn off : Int} {R : Ending → World → Prop}
    (hr : Rd w a1 (L.map (Value.int .i64))) (hl : L.length = l1) (hr3 : Rd w a3 (M.map (Value.int .i64))) (hl3 : M.length = l3) (hk : LossOk w a2 l2 keep torn off)
    (h : ∀ w', Kp no w w' → R (.returned (.bool true)) w') : GoC Try.prog F_law04_MasterOne #[s.v, .slice a1 l1 c1, .int .i64 lsn, .int .i64 step, .agg #[.slice a2 l2 c2, .int .i64 torn, .int .i64 off], .slice a3 l3 c3] w R := by
  refine S_law04_MasterOne ?_
  unfold W_law04_MasterOne
  refine AlF.intro fun b1 w1 hb1e hb1 k1 _ => AlF.intro fun b2 w2 hb2e hb2 k2 _ => ?_
  have z1 := k1.size
  have z2 := k2.size
  have lt1 := hb1.lt
  have lt2 := hb2.lt
  refine sh_rd (x := s) (k2.blk hb1 id) (small_c (s := s) fun w3 k3 => ⟨_, _, _, rfl, AlF.intro fun b3 w4 hb4e hb4 k4 _ => sh_st (smallS s) hb4 fun w5 hb5 k5 => ?_⟩)
  have hm := small_may s
  generalize smallS s = S at *
  have k05 : Kp no w w5 := ((k1.trans0 k2).trans0 k3).trans0 (kp_blk k4 (by omega) k5)
  have k25 : Kp no w2 w5 := k3.trans0 (kp_blk k4 (by omega) k5)
  have x2 := k25.blk hb2 id
  have lt5 := hb5.lt
  have lt2 := x2.lt
  refine sh_rd (x := S) hb5 (formatted_c (s := S) (hr.kp0 k05) hl hm 100 (by omega) fun b v w6 ow6 n m last h6 m6 B6 s6 l6 sm6 o6 => ⟨_, _, _, rfl, cond_f rfl (awake_c fun w7 k7 => ⟨_, rfl, cond_f rfl ?_⟩)⟩)
  have h7 := h6.kp0 k7
  have o7 : Old w5 w7 ow6 := o6.fr (Fro.kp0 k7) trivial
  refine cond_d (fun hneg => ?_) (fun hneg => ?_)
  · refine mpoint_c h7 (sm6.mono (by omega)) fun e w8 ow8 h8 f8 he => ⟨_, rfl, told_c he ⟨_, rfl, ?_⟩⟩
    have e4 : pointR v lsn = (4, v) := by unfold pointR; rw [if_pos (.inl hneg)]
    rw [e4]
    exact h w8 (k05.trans0 (o7.fr f8 ⟨by omega, by omega, by omega⟩).kp)
  refine cond_d (fun hbig => ?_) (fun hbig => ?_)
  · refine mpoint_c h7 (sm6.mono (by omega)) fun e w8 ow8 h8 f8 he => ⟨_, rfl, told_c he ⟨_, rfl, ?_⟩⟩
    have e4 : pointR v lsn = (4, v) := by unfold pointR; rw [if_pos (.inr (by omega))]
    rw [e4]
    exact h w8 (k05.trans0 (o7.fr f8 ⟨by omega, by omega, by omega⟩).kp)
  have hn2 := hk.n
  subst hn2
  have hls : ∀ w' ow', Old w5 w' ow' → Ls w' ow' 100 a2 keep := fun w' ow' o => ⟨(o.rdT (hk.rd.kp0 k05)).mono fun u hu => ⟨by omega, by omega, by omega⟩, hk.lt, by have := hk.ln; omega, hk.nn⟩
  have cl : ∀ w', Blk w' b2 #[.slice a2 keep.length c2, .int .i64 torn, .int .i64 off] T_api_Loss → (w'.cell? ⟨b2, 0, none⟩ = some (.slice a2 keep.length c2) ∧ w'.cell? (Addr.add ⟨b2, 0, none⟩ 1) = some (.int .i64 torn) ∧ w'.cell? (Addr.add ⟨b2, 0, none⟩ 2) = some (.int .i64 off) ∧ True) := fun w' x => ⟨x.at rfl rfl, x.at rfl rfl, x.at rfl rfl, trivial⟩
  have kd : Kp no w7 w7.drew := Kp.drew w7 1
  have h8 := h7.kp0 kd
  have o8 : Old w5 w7.drew ow6 := o7.fr (Fro.kp0 kd) trivial
  have xb2 : ∀ w' ow', Old w5 w' ow' → Blk w' b2 #[.slice a2 keep.length c2, .int .i64 torn, .int .i64 off] T_api_Loss := fun w' ow' o => o.kp.blk x2 id
  refine ⟨fun w' => Blk w' b2 #[.slice a2 keep.length c2, .int .i64 torn, .int .i64 off] T_api_Loss, xb2 _ _ o8, a2, keep.length, c2, torn, off, cl, rest_c (by omega) (by omega) ⟨_, rfl, xb2 _ _ o8, ?_⟩⟩
  have hst : 0 ≤ step % 3 ∧ step % 3 < 3 := by omega
  generalize step % 3 = sp at *
  have wsp : IntKind.wrap .i64 (1 + sp) = 1 + sp := wrap_i64 (by omega) (by omega)
  rw [wsp]
  clear wsp
  refine arm_c h8 (hls _ _ o8) (by omega) fun w9 ow9 h9 f9 => ⟨_, rfl, ?_⟩
  have o9 := o8.fr f9 ⟨by omega, by omega, by omega⟩
  refine ⟨xb2 _ _ o9, ?_⟩
  have ea : v.arm (1 + sp) keep torn off = (0, { v with step := 1 + sp, keep := keep, torn := torn, off := off }) := by
    unfold Dv.arm
    rw [m6.d, if_neg (by simp), if_neg (by omega)]
  have okA := m6.ok.arm (step := 1 + sp) (keep := keep) torn off (by omega) hk.lt
  rw [ea] at h9 okA
  have mA : Mas ({ v with step := 1 + sp, keep := keep, torn := torn, off := off }) n m S last := m6.same okA m6.d m6.q rfl
  have bA : Before (Dv.sect { v with step := 1 + sp, keep := keep, torn := torn, off := off } ((m + 1) % 2)) m := B6
  have sA : (Dv.step { v with step := 1 + sp, keep := keep, torn := torn, off := off }) = 1 + sp := rfl
  have smA : Dv.Sm { v with step := 1 + sp, keep := keep, torn := torn, off := off } 40 := ⟨sm6.q, by have := hk.ln; show keep.length * 8 ≤ _; omega⟩
  generalize ({ v with step := 1 + sp, keep := keep, torn := torn, off := off } : Dv) = vA at *
  obtain ⟨hnum, hs0, hM⟩ := mA.crashed (p := lsn) (keep := keep) (torn := torn) (off := off) bA (by omega) (by omega) (by omega) hk.lt
  have smB := pointR_sm (n := lsn) smA
  refine mpoint_c h9 (smA.mono (by omega)) fun e w10 ow10 h10 f10 he => ⟨_, rfl, ?_⟩
  have o10 := o9.fr f10 ⟨by omega, by omega, by omega⟩
  generalize hvB : (pointR vA lsn).2 = vB at *
  generalize hnB : (pointR vA lsn).1 = nB at *
  refine ⟨fun _ w' => w' = w10, ?_, fun _ w11 hw11 _J => ?_⟩
  · rcases he with ⟨h0, rfl⟩ | ⟨hne, be, rfl, hbe⟩
    · exact .inl ⟨rfl, cond_f rfl rfl⟩
    · refine .inr ⟨_, _, rfl, cond_t rfl (told_c (n := (nB : Int)) (.inr ⟨hne, be, rfl, hbe⟩) ⟨_, rfl, cond_f ?_ rfl⟩)⟩
      have : (nB : Int) = 40 := by omega
      simp [this]
  subst hw11
  refine ⟨a2, keep.length, c2, torn, off, cl _ (xb2 _ _ o10), ?_⟩
  refine crash_c h10 (hls _ _ o10) (by have := smB.q; omega) fun w11 ow11 h11 f11 => ⟨_, rfl, ?_⟩
  refine up_c h11 fun w12 ow12 h12 f12 => ⟨_, rfl, num_c ⟨_, rfl, cond_f rfl ?_⟩⟩
  have o12 := (o10.fr f11 ⟨by omega, by omega, by omega⟩).fr f12 ⟨by omega, by omega, by omega⟩
  have smC := crash_sm smB keep torn off
  generalize ((vB.crash keep torn off).2.up) = vC at *
  obtain ⟨mC, pC, hmC, hMC, hp⟩ : ∃ mC pC, mC ≤ 22 ∧ Mas vC n mC S pC ∧ (pC = lsn ∨ (pC = last ∧ (nB : Int) = 40)) := by
    rcases hM with ⟨h40, hM⟩ | hM
    · exact ⟨m, last, by omega, hM, .inr ⟨rfl, by omega⟩⟩
    · exact ⟨m + 1, lsn, by omega, hM, .inl rfl⟩
  refine mopen_c h12 (smC.mono (by omega)) fun e2 w13 k13 he2 => ⟨_, _, _, _, _, rfl, ?_⟩
  rw [hMC.open] at he2 ⊢
  have he2 := err0 he2
  subst he2
  refine AlF.intro fun b4 w14 hb14e hb14 k14 _ => sh_st S hb14 fun w15 hb15 k15 => ?_
  have z13 := k13.size
  have f15 : Fro (fun _ => True) w12 ow12 w15 (ext ow12 w12.heap.size 3) := Fro.of_kp0 3 (kp_blk (k13.trans0 k14) (by omega) k15)
  have h15 := h12.fr f15 trivial trivial trivial trivial
  have t15 : ext ow12 w12.heap.size 3 b4 = 3 := ext_new (by omega)
  have o15 := o12.fr f15 trivial
  generalize ext ow12 w12.heap.size 3 = ow15 at *
  refine ⟨fun _ w' => w' = w15, ?_, fun _ w16 hw16 _J2 => ?_⟩
  · refine .inl ⟨rfl, cond_f rfl (sh_rd (x := S) hb15 (sh_rd (x := S) (o15.kp.blk hb5 id) (cond_f ?_ ?_)))⟩
    · simp
    · refine cond_ne (fun hne => cond_ne (fun hne2 => ?_) (fun _ => ?_)) (fun _ => rfl)
      · exfalso
        rcases hp with hp | hp
        · exact hne hp
        · exact hne2 hp.1
      · rcases hp with hp | hp
        · exact absurd hp hne
        · rcases he with ⟨h0, rfl⟩ | ⟨hne, be, rfl, hbe⟩
          · omega
          · exact .inr ⟨_, _, rfl, cond_f rfl rfl⟩
  subst hw16
  refine loopN (fun st w' => ∃ k : Nat, k ≤ l3 ∧ k ≤ 5 ∧ st.1 = (k : Int) ∧ ∃ v' ow' m' p', DX w' ow' 100 b v' ∧ Mas v' n m' S p' ∧ v'.step = 0 ∧ m' ≤ 22 + k ∧ v'.Sm (50 + k) ∧ Old w5 w' ow' ∧ (∃ x : Sh, Blk w' b4 #[.int .i64 x.pg, .int .i64 x.lg, .int .i64 x.fr] T_api_Shape) ∧ ow' b4 = 3) (fun st _ => l3 - st.1.toNat)
    ⟨0, by omega, by omega, rfl, vC, ow15, mC, pC, h15, hMC, hs0, by omega, smC.mono (by omega), o15, ⟨S, hb15⟩, t15⟩ ?_
  rintro ⟨j0, u⟩ w16 ⟨j, hj, hj5, hj0, v', ow16, m', p', h16, m16, s16, l16, sm16, o16, ⟨x16, y16⟩, t16⟩ _
  dsimp only at hj0 ⊢
  subst hj0
  refine cond_d (fun hjl => ?_) (fun _ => h _ (k05.trans0 o16.kp))
  refine cond_d (fun hj2 => ?_) (fun _ => h _ (k05.trans0 o16.kp))
  have hjM : j < M.length := by omega
  obtain ⟨ba, oa, ha, hca⟩ := (hr3.kp0 (k05.trans0 o16.kp)) j (.int .i64 M[j]) (by rw [List.getElem?_map, List.getElem?_eq_getElem hjM]; rfl)
  refine ⟨by omega, by omega, _, ha, M[j], by rw [Int.toNat_natCast, add_at]; exact hca, rest_c (by omega) (by omega) ⟨_, rfl, ?_⟩⟩
  have hp : 0 ≤ M[j] % 2147483648 ∧ M[j] % 2147483648 ≤ 2147483647 := by omega
  generalize M[j] % 2147483648 = p at *
  obtain ⟨p1, p2, p3, _⟩ := m16.pointed (p := p) s16 (by omega) hp
  have sm17 := pointR_sm (n := p) sm16
  refine mpoint_c h16 (sm16.mono (by omega)) fun e w17 ow17 h17 f17 he => ⟨_, rfl, ?_⟩
  rw [p1] at he
  have he := err0 he
  subst he
  obtain ⟨y17, t17⟩ := blk_fr y16 t16 f17 ⟨by omega, by omega, by omega⟩
  have o17 := o16.fr f17 ⟨by omega, by omega, by omega⟩
  refine .inl ⟨rfl, cond_f rfl ⟨a2, keep.length, c2, torn, off, cl _ (xb2 _ _ o17), ?_⟩⟩
  generalize (pointR v' p).2 = v17 at *
  obtain ⟨mX, sX⟩ := p3.crash keep torn off
  have smX := crash_sm sm17 keep torn off
  refine crash_c h17 (hls _ _ o17) (by have := sm17.q; omega) fun w18 ow18 h18 f18 => ⟨_, rfl, ?_⟩
  refine up_c h18 fun w19 ow19 h19 f19 => ⟨_, rfl, ?_⟩
  have f18' := f18.trans f19
  obtain ⟨y19, t19⟩ := blk_fr y17 t17 f18' ⟨by omega, by omega, by omega⟩
  have o19 := o17.fr f18' ⟨by omega, by omega, by omega⟩
  generalize ((v17.crash keep torn off).2.up) = vX at *
  refine mopen_c h19 (smX.mono (by omega)) fun e2 w20 k20 he2 => ⟨_, _, _, _, _, rfl, ?_⟩
  rw [mX.open] at he2 ⊢
  have he2 := err0 he2
  subst he2
  have h20 := h19.kp0 k20
  have o20 : Old w5 w20 ow19 := o19.fr (Fro.kp0 k20) trivial
  have y20 := k20.blk y19 id
  refine sh_st S y20 fun w21 y21 k21 => ?_
  have f21 : Fro (fun u => u ≠ 3) w20 ow19 w21 ow19 := Fro.of_kp' k21 fun b' _ hb' hne => hne (by rw [hb']; exact t19)
  have h21 := h20.fr f21 (by omega) (by omega) (by omega) (by omega)
  have o21 := o20.fr f21 (by omega)
  refine .inl ⟨rfl, cond_f rfl (sh_rd (x := S) y21 (sh_rd (x := S) (o21.kp.blk hb5 id) (cond_f (by simp) (cond_ne (fun hne => absurd rfl hne) fun _ => ?_))))⟩
  have wj : IntKind.wrap .i64 ((j : Int) + 1) = ((j + 1 : Nat) : Int) := wk4 (n := 20) (by omega) (by omega)
  rw [wj]
  clear wj
  exact ⟨⟨j + 1, by omega, by omega, rfl, _, ow19, m' + 1, p, h21, mX, sX, by omega, smX.mono (by omega), o21, ⟨S, y21⟩, t19⟩, by simp only [Int.toNat_natCast]; omega⟩

theorem masterOne_walk {W : World} {v0 v1 v2 v3 v4 v5 : Value} (h0 : ArgW Try.prog W T_api_Shape v0) (h1 : ArgW Try.prog W T_s_int v1) (h2 : ArgW Try.prog W T_int v2) (h3 : ArgW Try.prog W T_int v3) (h4 : ArgW Try.prog W T_api_Loss v4) (h5 : ArgW Try.prog W T_s_int v5) : GoC Try.prog F_law04_MasterOne #[v0, v1, v2, v3, v4, v5] W fun e W' => e = .returned (.bool true) ∧ Kp no W W' := by
  obtain ⟨s, rfl⟩ := sh_arg h0
  obtain ⟨a, l, c, L, rfl, hl, hr⟩ := ints_arg h1
  obtain ⟨n, rfl, _⟩ := h2.arg.int (k := .i64) (by kernel_rfl)
  obtain ⟨m, rfl, _⟩ := h3.arg.int (k := .i64) (by kernel_rfl)
  obtain ⟨a2, l2, c2, keep, torn, off, rfl, hk⟩ := loss_open h4
  obtain ⟨a3, l3, c3, M, rfl, hl3, hr3⟩ := ints_arg h5
  exact masterOne_c hr hl hr3 hl3 hk fun w' k => ⟨rfl, k⟩
end Go.Proofs.Ytaehmogilimmfaa
