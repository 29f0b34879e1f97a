/- The contract of the document's Decode of layer 5. Conditions: lengths below 2^46. -/
import Derived.Test.YtjhncijdkmbopaaRp
set_option linter.unusedVariables false
set_option linter.unusedSimpArgs false
namespace Go.Proofs.Ytjhncijdkmbopaa
open Go Go.RowKit

theorem ls_nil (w : World) (ow : Nat → Nat) {r : RV} (hl : r.live = []) (hd : r.dirty = []) : Ls w ow r {} := ⟨by rw [hl]; exact slt_nil _ _ _ _ _, by rw [hd]; exact slt_nil _ _ _ _ _, by rw [hl]; rfl, by rw [hd]; rfl⟩

set_option maxHeartbeats 1000000 in
theorem rdecode_c {w : World} {a : Option Addr} {l c : Nat} {bs : List UInt8} {R : Ending → World → Prop} (hr : Rd w a (bvs bs)) (hl : bs.length = l) (h0 : a = none → l = 0) (hb : l < 140737488355329)
    (h : ∀ m w' ow, Kp no w w' → Old w w' ow → Ls w' ow (decB bs).1 m → R (.returned (.tuple #[.agg ((decB bs).1.ca m), .int .i64 ((decB bs).2 : Int)])) w') : GoC Try.prog F_ref05_Decode #[.slice a l c] w R := by
  subst hl
  refine S_ref05_Decode ?_
  unfold W_ref05_Decode
  refine AlF.intro fun b1 w1 hb1e hb1 k1 hs1 => ?_
  refine refNewReader_c (hr.kp0 k1) rfl h0 (by omega) fun B g w2 hre k2 hB hg => ⟨_, rfl, ?_⟩
  have o0 : Old w w fun _ => 0 := ⟨Kp.refl _ _, fun _ _ => rfl⟩
  have f1 : Fro (fun _ => True) w (fun _ => 0) w1 (ext (fun _ => 0) w.heap.size 1) := Fro.of_kp0 1 k1
  have f2 : Fro (fun _ => True) w1 (ext (fun _ => 0) w.heap.size 1) w2 (ext (ext (fun _ => 0) w.heap.size 1) w1.heap.size 3) := Fro.of_kp0 3 k2
  generalize how : ext (ext (fun _ => 0) w.heap.size 1) w1.heap.size 3 = ow2 at f2
  have t1 : ow2 b1 = 1 := by rw [← how, ext_old (by omega), ext_new (by omega)]
  have old2 : Old w w2 ow2 := (o0.fr f1 trivial).fr f2 trivial
  have x1 : Blk w2 b1 (({} : RV).ca {}) T_api_Record := k2.blk hb1 id
  have hR2 : Rq w2 ow2 B g bs (0, 0) := ⟨hre, fun k hk => by
    rw [← how]
    rcases hk with rfl | hk
    · exact ext_new hB
    · exact ext_new (hg k hk)⟩
  have hfin : ∀ (r : RV) (e : Nat), decB bs = (r, e) → ∀ m w' ow, Kp no w w' → Old w w' ow → Ls w' ow r m → R (.returned (.tuple #[.agg (r.ca m), .int .i64 (e : Int)])) w' := fun r e he m w' ow hk ho hL => by
    have := h m w' ow hk ho (by rw [he]; exact hL)
    rw [he] at this
    exact this
  have e0 : ∀ w' ow, Ls w' ow {} {} := fun w' ow => ls_nil w' ow rfl rfl
  refine hR2.U (M := 18446744073709551615) hb fun w4 hR4 f4 => ⟨_, rfl, ?_⟩
  have hR4 : Rq w4 ow2 B g bs (rdU bs (0, 0) 18446744073709551615).2 := hR4
  obtain ⟨hx4, _⟩ := blk_fr x1 t1 f4 (by omega)
  have old4 := old2.fr f4 (by omega)
  have zero : ∀ (e : Nat), decB bs = ({}, e) → ∀ w'', Blk w'' b1 (({} : RV).ca {}) T_api_Record → Kp (fun k => k = b1) w4 w'' → R (.returned (.tuple #[.agg (({} : RV).ca {}), .int .i64 (e : Int)])) w'' := fun e he w'' hb kk => by
    have f : Fro (fun t => t ≠ 1) w4 ow2 w'' ow2 := Fro.of_kp' kk fun b _ hb' hne => hne (by rw [hb']; exact t1)
    have := old4.fr f (by omega)
    exact hfin _ _ he {} w'' ow2 this.kp this (e0 _ _)
  generalize ha : rdU bs (0, 0) 18446744073709551615 = a3 at *
  have nb1 : b1 ≠ B := fun hh => by
    have := hR4.t3 B (.inl rfl)
    rw [← hh, t1] at this
    omega
  refine bad_c hR4 ⟨_, rfl, cond_d (fun hf => ?_) (fun hf => ?_)⟩
  · refine ⟨fun w' => w'.cell? (Addr.add ⟨B, 0, none⟩ 2) = some (.int .i64 (a3.2.2 : Int)), hR4.err, NilF.intro rfl ⟨_, fun w' hw' => hw', ?_⟩⟩
    have xd : Blk w4.drew b1 (({} : RV).ca {}) T_api_Record := hx4
    refine rec_st xd {} {} fun w5 hb5 k5 => ⟨?_, rec_rd hb5 (zero a3.2.2 ?_ w5 hb5 ((Kp.drew w4 1).of_no.trans0 k5))⟩
    · exact k5.cell (by exact hR4.err) (fun hh => nb1 hh.symm)
    unfold decB
    simp only [ha]
    rw [if_pos (by omega)]
  have hd70 : (a3.1 < 1 ∨ 8 < a3.1) → decB bs = ({}, 70) := fun hh => by
    unfold decB
    simp only [ha]
    rw [if_neg (by omega), if_pos hh]
  refine cond_d (fun hlt => ?_) (fun hge => cond_d (fun hgt => ?_) (fun hle => ?_))
  · exact rec_st hx4 {} {} fun w5 hb5 k5 => rec_rd hb5 (zero 70 (hd70 (by omega)) w5 hb5 k5)
  · exact rec_st hx4 {} {} fun w5 hb5 k5 => rec_rd hb5 (zero 70 (hd70 (by omega)) w5 hb5 k5)
  have hdec : decB bs = (let x := rdRec bs (a3.1 : Int) a3.2; if endE bs x.2 ≠ 0 then ({}, endE bs x.2) else if chkN x.1 ≠ 0 then ({}, chkN x.1) else (x.1, 0)) := by
    unfold decB
    simp only [ha]
    rw [if_neg (by omega), if_neg (by omega)]
  have hk31 : IntKind.wrap .i64 (a3.1 : Int) = (a3.1 : Int) := wr31 (by omega)
  rw [hk31]
  refine rec_cp { kind := (a3.1 : Int) } {} fun b2 w5 h5 => ?_
  have f5 : Fro (fun _ => True) w4 ow2 w5 (ext ow2 w4.heap.size 2) := Fro.of_kp0 2 h5.kp
  have hR5 := hR4.fr f5 trivial
  have bx5 : Bx w w5 (ext ow2 w4.heap.size 2) b1 b2 { kind := (a3.1 : Int) } {} := by
    obtain ⟨a, b⟩ := blk_fr hx4 t1 f5 trivial
    exact ⟨old4.fr f5 trivial, a, b, h5.blk, ext_new h5.nw⟩
  generalize ext ow2 w4.heap.size 2 = ow5 at f5 hR5 bx5
  have hk1 : (1 : Int) ≤ (a3.1 : Int) := by omega
  have hk8 : (a3.1 : Int) ≤ 8 := by omega
  generalize hK : (a3.1 : Int) = kd at *
  refine ⟨fun _ w' => ∃ r m st ow, Bx w w' ow b1 b2 r m ∧ Rq w' ow B g bs st ∧ Ls w' ow r m ∧ m.ll ≤ 1000 ∧ m.dl ≤ 1000 ∧ (rdRec bs kd a3.2).2 = st ∧ (st.2 = 0 → (rdRec bs kd a3.2).1 = r), ?_, ?_⟩
  · -- where nothing but numbers is read
    have done : ∀ (r : RV) (st : Nat × Nat) (w' : World) (ow : Nat → Nat), kd ≠ 8 → rdSgn bs (sof kd) (rdInts bs (mst kd) (iof kd) ({ kind := kd }, a3.2)) = (r, st) → r.kind = kd → r.live = [] → r.dirty = [] → Bx w w' ow b1 b2 r {} → Rq w' ow B g bs st →
        ∃ r m st ow, Bx w w' ow b1 b2 r m ∧ Rq w' ow B g bs st ∧ Ls w' ow r m ∧ m.ll ≤ 1000 ∧ m.dl ≤ 1000 ∧ (rdRec bs kd a3.2).2 = st ∧ (st.2 = 0 → (rdRec bs kd a3.2).1 = r) := fun r st w' ow n8 he hrk hl hd bx hR => by
      have : rdRec bs kd a3.2 = (r, st) := by
        unfold rdRec rdTail
        rw [he, if_neg (by dsimp only; omega)]
      exact ⟨r, {}, st, ow, bx, hR, ls_nil w' ow hl hd, by simp, by simp, by rw [this], fun _ => by rw [this]⟩
    have hM : kd ≠ 8 → mst kd = 2147483647 := fun n8 => by unfold mst; rw [if_neg n8]
    refine ⟨kd, bx5.x2.at rfl rfl, cond_eq (fun e1 => ?_) fun n1 => cond_eq (fun e2 => ?_) fun n2 => ?_⟩
    · have hI : iof kd = [2] := by unfold iof; rw [if_neg (by omega), if_neg (by omega), if_neg (by omega), if_neg (by omega)]
      have hS : sof kd = [] := by unfold sof; rw [if_neg (by omega), if_neg (by omega)]
      refine stepN bx5 hR5 hb 2 (by decide) rfl fun w6 bx6 hR6 => ?_
      exact done _ _ w6 _ (by omega) (by rw [hI, hS, hM (by omega)]; rfl) rfl rfl rfl bx6 hR6
    · have hI : iof kd = [4, 5, 6, 7, 9, 10] := by unfold iof; rw [if_pos e2]
      have hS : sof kd = [11, 12, 13] := by unfold sof; rw [if_pos e2]
      refine stepT bx5 hR5 hb 4 (by decide) (by decide) rfl rfl fun w6 ow6 bx6 hR6 => ?_
      refine stepT bx6 hR6 hb 6 (by decide) (by decide) rfl rfl fun w7 ow7 bx7 hR7 => ?_
      refine stepN bx7 hR7 hb 9 (by decide) rfl fun w8 bx8 hR8 => stepN bx8 hR8 hb 10 (by decide) rfl fun w9 bx9 hR9 => ?_
      refine stepS bx9 hR9 hb 11 (by decide) rfl fun wa bxa hRa => stepS bxa hRa hb 12 (by decide) rfl fun wb bxb hRb => stepS bxb hRb hb 13 (by decide) rfl fun wc bxc hRc => ?_
      exact done _ _ wc _ (by omega) (by rw [hI, hS, hM (by omega)]; rfl) rfl rfl rfl bxc hRc
    · refine ⟨fun s w' => w' = w5 ∧ s.1 = decide (kd = 3 ∨ kd = 4), ?_, ?_⟩
      · refine cond_eq (fun e3 => ⟨rfl, ?_⟩) (fun n3 => ⟨rfl, ?_⟩)
        · rw [decide_eq_true (.inl e3)]
          exact decide_eq_true e3
        · by_cases e4 : kd = 4
          · rw [decide_eq_true (.inr e4)]
            exact decide_eq_true e4
          · rw [decide_eq_false (by omega)]
            exact decide_eq_false e4
      rintro ⟨q, u⟩ w6 ⟨hw6, hq⟩ _
      dsimp only at hq
      subst hq
      rw [hw6]
      refine cond_d (fun e34 => ?_) (fun n34 => ?_)
      · have hI : iof kd = [2, 3, 4, 5, 6, 7, 9] := by unfold iof; rw [if_neg (by omega), if_neg (by omega), if_pos e34]
        have hS : sof kd = [8] := by unfold sof; rw [if_neg (by omega), if_pos e34]
        refine stepN bx5 hR5 hb 2 (by decide) rfl fun w6 bx6 hR6 => stepN bx6 hR6 hb 3 (by decide) rfl fun w7 bx7 hR7 => ?_
        refine stepT bx7 hR7 hb 4 (by decide) (by decide) rfl rfl fun w8 ow8 bx8 hR8 => ?_
        refine stepT bx8 hR8 hb 6 (by decide) (by decide) rfl rfl fun w9 ow9 bx9 hR9 => ?_
        refine stepN bx9 hR9 hb 9 (by decide) rfl fun wa bxa hRa => stepS bxa hRa hb 8 (by decide) rfl fun wb bxb hRb => ?_
        exact done _ _ wb _ (by omega) (by rw [hI, hS, hM (by omega)]; rfl) rfl rfl rfl bxb hRb
      · refine ⟨fun s w' => w' = w5 ∧ s.1 = decide (kd = 5 ∨ kd = 6 ∨ kd = 7), ?_, ?_⟩
        · refine cond_eq (fun e5 => ⟨rfl, ?_⟩) (fun n5 => cond_eq (fun e6 => ⟨rfl, ?_⟩) (fun n6 => ⟨rfl, ?_⟩))
          · rw [decide_eq_true (.inl e5)]
            exact decide_eq_true e5
          · rw [decide_eq_true (.inr (.inl e6))]
            exact decide_eq_true e6
          · by_cases e7 : kd = 7
            · rw [decide_eq_true (.inr (.inr e7))]
              exact decide_eq_true e7
            · rw [decide_eq_false (by omega)]
              exact decide_eq_false e7
        rintro ⟨q, u⟩ w6 ⟨hw6, hq⟩ _
        dsimp only at hq
        subst hq
        rw [hw6]
        refine cond_d (fun e567 => ?_) (fun n567 => ?_)
        · have hI : iof kd = [2, 3] := by unfold iof; rw [if_neg (by omega), if_neg (by omega), if_neg (by omega), if_pos e567]
          have hS : sof kd = [] := by unfold sof; rw [if_neg (by omega), if_neg (by omega)]
          refine stepN bx5 hR5 hb 2 (by decide) rfl fun w6 bx6 hR6 => stepN bx6 hR6 hb 3 (by decide) rfl fun w7 bx7 hR7 => ?_
          exact done _ _ w7 _ (by omega) (by rw [hI, hS, hM (by omega)]; rfl) rfl rfl rfl bx7 hR7
        · have e8 : kd = 8 := by omega
          refine cond_eq (fun _ => ?_) (fun hh => absurd e8 hh)
          have hI : iof kd = [16] := by unfold iof; rw [if_neg (by omega), if_pos e8]
          have hS : sof kd = [] := by unfold sof; rw [if_neg (by omega), if_neg (by omega)]
          have hM8 : mst kd = 2147483648 := by unfold mst; rw [if_pos e8]
          refine rcheckpoint_c hR5 hb fun x hx m L D w6 ow6 hR6 hxe hlv hdv hll hdl hm1 hm2 f6 => ⟨_, _, _, _, _, _, _, rfl, ?_⟩
          have bx6 := bx5.fr f6 (by omega) (by omega) (by omega)
          have hrec : rdRec bs kd a3.2 = x := by
            unfold rdRec rdTail
            rw [hI, hS, hM8, hx]
            rw [if_pos (by exact e8), e8]
            rfl
          refine bx6.st { kind := kd } { m with da := none, dl := 0, dc := 0 } rfl (Nat.le_of_ble_eq_true rfl) rfl fun w7 bx7 f7 => ?_
          refine bx7.st { kind := kd } m rfl (Nat.le_of_ble_eq_true rfl) rfl fun w8 bx8 f8 => ?_
          refine bx8.st { kind := kd, next := ((rdU bs a3.2 2147483648).1 : Int), live := L, dirty := D } m rfl (Nat.le_of_ble_eq_true rfl) rfl fun w9 bx9 f9 => ?_
          refine ⟨_, m, x.2, ow6, bx9, ((hR6.fr f7 (by omega)).fr f8 (by omega)).fr f9 (by omega), ⟨((hlv.fr f7 (by omega)).fr f8 (by omega)).fr f9 (by omega), ((hdv.fr f7 (by omega)).fr f8 (by omega)).fr f9 (by omega), hll, hdl⟩, hm1, hm2, by rw [hrec], fun hz => ?_⟩
          rw [hrec, hxe hz, e8]
  · rintro _ we ⟨r, m, st, ow, bx, hR, hL, hml, hmd, hst, hrr⟩ _
    dsimp only at hdec
    rw [hst] at hdec
    refine hR.E fun wf hRf ff => ⟨rfl, ?_⟩
    have bxg := bx.fr ff (by omega) (by omega) (by omega)
    have hLg := hL.fr ff (by omega) (by omega)
    have nb1 : b1 ≠ B := fun hh => by
      have := hR.t3 B (.inl rfl)
      rw [← hh, bx.t1] at this
      omega
    refine bad_c hRf ⟨_, rfl, cond_d (fun hne => ?_) (fun he => ?_)⟩
    · dsimp only at hne
      refine ⟨fun w' => w'.cell? (Addr.add ⟨B, 0, none⟩ 2) = some (.int .i64 (endE bs st : Int)), hRf.err, NilF.intro rfl ⟨_, fun w' hw' => hw', ?_⟩⟩
      have xd : Blk wf.drew b1 (({} : RV).ca {}) T_api_Record := bxg.x1
      refine rec_st xd {} {} fun wh hbh kh => ⟨?_, rec_rd hbh ?_⟩
      · exact kh.cell (by exact hRf.err) (fun hh => nb1 hh.symm)
      have f : Fro (fun t => t ≠ 1) wf ow wh ow := Fro.of_kp' ((Kp.drew wf 1).of_no.trans0 kh) fun b _ hb' hne => hne (by rw [hb']; exact bxg.t1)
      have ho := bxg.old.fr f (by omega)
      have hd : decB bs = ({}, endE bs st) := by rw [hdec, if_pos hne]
      exact hfin _ _ hd {} wh ow ho.kp ho (e0 _ _)
    have he0 : endE bs st = 0 := by simpa using he
    have hs0 : st.2 = 0 := by
      unfold endE at he0
      split at he0
      · cases he0
      · exact he0
    rw [hrr hs0, if_neg (by omega)] at hdec
    refine rec_rd bxg.x2 (rcheck_c (r := r) (m := m) (hLg.li (by omega) (by omega)) fun wh kh => ⟨_, rfl, ?_⟩)
    have fh : Fro (fun _ => True) wf ow wh ow := Fro.of_kp' kh fun _ _ h => h.elim
    have bxh := bxg.fr fh trivial trivial trivial
    have hLh := hLg.fr fh trivial trivial
    refine cond_ne (fun hne => ?_) (fun he => ?_)
    · refine rec_st bxh.x1 {} {} fun wi hbi ki => rec_rd hbi ?_
      have f : Fro (fun t => t ≠ 1) wh ow wi ow := Fro.of_kp' ki fun b _ hb' hne => hne (by rw [hb']; exact bxh.t1)
      have ho := bxh.old.fr f (by omega)
      have hd : decB bs = ({}, chkN r) := by rw [hdec, if_pos (by omega)]
      exact hfin _ _ hd {} wi ow ho.kp ho (e0 _ _)
    · refine rec_rd bxh.x2 (rec_st bxh.x1 r m fun wi hbi ki => rec_rd hbi ?_)
      have f : Fro (fun t => t ≠ 1) wh ow wi ow := Fro.of_kp' ki fun b _ hb' hne => hne (by rw [hb']; exact bxh.t1)
      have ho := bxh.old.fr f (by omega)
      have hd : decB bs = (r, 0) := by rw [hdec, if_neg (by omega)]
      exact hfin _ _ hd m wi ow ho.kp ho (hLh.fr f (by omega) (by omega))
end Go.Proofs.Ytjhncijdkmbopaa
