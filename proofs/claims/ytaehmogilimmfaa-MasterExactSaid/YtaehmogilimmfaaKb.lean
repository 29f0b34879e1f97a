/- Layer 4: the layout's functions, a slot's bytes, errors. Conditions: none. -/
import Derived.Test.YtaehmogilimmfaaKa
set_option linter.unusedVariables false
set_option linter.unusedSimpArgs false
namespace Go.Proofs.Ytaehmogilimmfaa
open Go Go.RowKit

theorem may_c {w : World} {s : Sh} {R : Ending → World → Prop} (h : ∀ w', Kp no w w' → R (.returned (.bool (decide s.may))) w') : GoC Try.prog F_master_may #[s.v] w R := by
  refine S_master_may ?_
  unfold W_master_may
  refine AlF.intro fun b1 w1 hb1e hb1 k1 _ => ?_
  have out : ∀ b : Bool, decide s.may = b → R (.returned (.bool b)) w1 := fun b hb => by subst hb; exact h w1 k1
  unfold Sh.may at out
  refine ⟨_, hb1.at rfl rfl, cond_d (fun h1 => ⟨_, hb1.at rfl rfl, cond_d (fun h2 => ⟨_, hb1.at rfl rfl, cond_d (fun h3 => ⟨_, hb1.at rfl rfl, cond_d (fun h4 => ⟨_, hb1.at rfl rfl, cond_d (fun h5 => ⟨_, hb1.at rfl rfl, out _ ?_⟩) (fun h5 => out _ ?_)⟩) (fun h4 => out _ ?_)⟩) (fun h3 => out _ ?_)⟩) (fun h2 => out _ ?_)⟩) (fun h1 => out _ ?_)⟩
  · exact decide_eq_decide.2 ⟨fun hh => by omega, fun hh => by omega⟩
  all_goals exact decide_eq_false (by omega)
def needR (s : Sh) : Int × Int := if s.may then (s.need, 0) else (0, 2)
theorem need_c {w : World} {s : Sh} {R : Ending → World → Prop} (h : ∀ w', Kp no w w' → R (.returned (.tuple #[.int .i64 (needR s).1, .int .i64 (needR s).2])) w') : GoC Try.prog F_master_Need #[s.v] w R := by
  refine S_master_Need ?_
  unfold W_master_Need
  refine AlF.intro fun b1 w1 hb1e hb1 k1 _ => ⟨_, _, _, ⟨hb1.at rfl rfl, hb1.at rfl rfl, hb1.at rfl rfl, trivial⟩, may_c (s := s) fun w2 k2 => ⟨_, rfl, cond_not (cond_d (fun hm => ?_) (fun hm => ?_))⟩⟩
  · have hb := k2.blk hb1 id
    have := h w2 (k1.trans0 k2)
    unfold needR at this
    rw [if_pos hm] at this
    have hm' := hm
    unfold Sh.may at hm'
    refine ⟨_, hb.at rfl rfl, _, hb.at rfl rfl, ?_⟩
    have e : IntKind.wrap .i64 (IntKind.wrap .i64 (5 + IntKind.wrap .i64 (2 * s.pg)) + s.lg) = s.need := by
      unfold Sh.need
      rw [wrap_i64 (x := 2 * s.pg) (by omega) (by omega), wrap_i64 (x := 5 + 2 * s.pg) (by omega) (by omega), wrap_i64 (by omega) (by omega)]
    rw [e]
    exact this
  · have := h w2 (k1.trans0 k2)
    unfold needR at this
    rw [if_neg hm] at this
    exact this
def homeR (s : Sh) (p : Int) : Int × Int := if s.may then (if 0 ≤ p ∧ p < s.pg then (5 + 2 * p, 0) else (0, 4)) else (0, 2)
theorem home_c {w : World} {s : Sh} {p : Int} {R : Ending → World → Prop} (h : ∀ w', Kp no w w' → R (.returned (.tuple #[.int .i64 (homeR s p).1, .int .i64 (homeR s p).2])) w') : GoC Try.prog F_master_Home #[s.v, .int .i64 p] w R := by
  refine S_master_Home ?_
  unfold W_master_Home
  refine AlF.intro fun b1 w1 hb1e hb1 k1 _ => ⟨_, _, _, ⟨hb1.at rfl rfl, hb1.at rfl rfl, hb1.at rfl rfl, trivial⟩, may_c (s := s) fun w2 k2 => ⟨_, rfl, cond_not (cond_d (fun hm => ?_) (fun hm => ?_))⟩⟩
  · have hb := k2.blk hb1 id
    have := h w2 (k1.trans0 k2)
    unfold homeR at this
    rw [if_pos hm] at this
    have hm' := hm
    unfold Sh.may at hm'
    refine cond_d (fun h1 => ?_) (fun h1 => ⟨_, hb.at rfl rfl, cond_d (fun h2 => ?_) (fun h2 => ?_)⟩)
    · rw [if_neg (by omega)] at this; exact this
    · rw [if_neg (by omega)] at this; exact this
    · rw [if_pos (by omega)] at this
      have e : IntKind.wrap .i64 (5 + IntKind.wrap .i64 (2 * p)) = 5 + 2 * p := by
        rw [wrap_i64 (x := 2 * p) (by omega) (by omega), wrap_i64 (by omega) (by omega)]
      rw [e]
      exact this
  · have := h w2 (k1.trans0 k2)
    unfold homeR at this
    rw [if_neg hm] at this
    exact this
def logR (s : Sh) : Int × Int := if s.may then (5 + 2 * s.pg, 0) else (0, 2)
theorem log_c {w : World} {s : Sh} {R : Ending → World → Prop} (h : ∀ w', Kp no w w' → R (.returned (.tuple #[.int .i64 (logR s).1, .int .i64 (logR s).2])) w') : GoC Try.prog F_master_Log #[s.v] w R := by
  refine S_master_Log ?_
  unfold W_master_Log
  refine AlF.intro fun b1 w1 hb1e hb1 k1 _ => ⟨_, _, _, ⟨hb1.at rfl rfl, hb1.at rfl rfl, hb1.at rfl rfl, trivial⟩, may_c (s := s) fun w2 k2 => ⟨_, rfl, cond_not (cond_d (fun hm => ?_) (fun hm => ?_))⟩⟩
  · have hb := k2.blk hb1 id
    have := h w2 (k1.trans0 k2)
    unfold logR at this
    rw [if_pos hm] at this
    have hm' := hm
    unfold Sh.may at hm'
    refine ⟨_, hb.at rfl rfl, ?_⟩
    have e : IntKind.wrap .i64 (5 + IntKind.wrap .i64 (2 * s.pg)) = 5 + 2 * s.pg := by
      rw [wrap_i64 (x := 2 * s.pg) (by omega) (by omega), wrap_i64 (by omega) (by omega)]
    rw [e]
    exact this
  · have := h w2 (k1.trans0 k2)
    unfold logR at this
    rw [if_neg hm] at this
    exact this

/-! ### A slot's bytes -/
theorem over_pre {p x : List UInt8} {k i : Nat} (hi : i = p.length) (hx : x.length ≤ k) : over (p ++ List.replicate k 0) i x = (p ++ x) ++ List.replicate (k - x.length) 0 := by
  subst hi
  unfold over
  rw [List.take_left, List.drop_append, List.drop_eq_nil_of_le (by omega), List.nil_append, show p.length + x.length - p.length = x.length by omega, List.drop_replicate]
theorem has_set {cs : Array Value} {l : List UInt8} {i : Nat} {x : UInt8} (h : Has cs (bvs l)) (hi : i < cs.size) : Has (cs.setIfInBounds i (bv x)) (bvs (l.set i x)) := fun j v hv => by
  rw [← bvs_set] at hv
  by_cases hj : i = j
  · subst hj
    rw [Array.getElem?_setIfInBounds_self, if_pos hi]
    rw [List.getElem?_set_self'] at hv
    cases hh : (bvs l)[i]? with
    | none => rw [hh] at hv; cases hv
    | some u => rw [hh] at hv; simpa using hv
  · rw [Array.getElem?_setIfInBounds_ne hj]
    rw [List.getElem?_set_ne hj] at hv
    exact h j v hv
theorem has_list (l : List Value) : Has (List.toArray l) l := fun i v hv => by simpa using hv
theorem wru {n : Int} (h0 : 0 ≤ n) (h1 : n ≤ 18446744073709551615) : IntKind.wrap .u64 n = (n.toNat : Int) := by rw [wrap_u64 (by omega) (by omega)]; omega

set_option maxRecDepth 100000 in
set_option maxHeartbeats 2000000 in
theorem sbytes_c {w : World} {st : Nat} {s : Sh} {pt : Int} {R : Ending → World → Prop} (hst : st < 18446744073709551616) (hs : s.may) (hp : 0 ≤ pt ∧ pt ≤ 2147483647) (h : ∀ w', Kp no w w' → R (.returned (.agg (List.toArray (bvs (slotB st s pt))))) w') :
    GoC Try.prog F_master_slot_bytes #[.agg #[.int .u64 (st : Int), .int .i64 s.pg, .int .i64 s.lg, .int .i64 s.fr, .int .i64 pt]] w R := by
  refine S_master_slot_bytes ?_
  unfold W_master_slot_bytes
  have hs' := hs
  unfold Sh.may at hs'
  refine AlF.intro fun b1 w1 hb1e hb1 k1 _ => AlF.intro fun b2 w2 hb2e hb2 k2 _ => AlF.intro fun b3 w3 hb3e hb3 k3 _ => ?_
  have s1 := k1.size
  have s2 := k2.size
  have x1 := (k2.trans0 k3).blk hb1 id
  have x2 := k3.blk hb2 id
  have lt1 := hb1.lt
  have lt2 := hb2.lt
  have kw : Kp no w w3 := (k1.trans0 k2).trans0 k3
  have e0 : List.replicate 512 (Value.int .u8 (0 : Int)) = bvs (List.replicate 512 0) := by
    unfold bvs
    rw [List.map_replicate]
    rfl
  rw [e0] at hb3 hb2 x2
  have c3 := has_list (bvs (List.replicate 512 0))
  have z3 : (List.toArray (bvs (List.replicate 512 0))).size = 512 := by rw [List.size_toArray, bvs_len, List.length_replicate]
  clear e0
  generalize List.toArray (bvs (List.replicate 512 0)) = cs0 at *
  refine ⟨by omega, by omega, StF.at (i := 0) (by rw [add_at]; rfl) hb3 (by omega) fun w4 hb4 k4 _ => ⟨trivial, trivial, ?_⟩⟩
  have c4 := has_set (x := 77) c3 (i := 0) (by omega)
  have e1 : (List.replicate 512 (0 : UInt8)).set 0 77 = [77] ++ List.replicate 511 0 := rfl
  rw [e1] at c4
  have z4 : (cs0.setIfInBounds 0 (bv 77)).size = 512 := by rw [Array.size_setIfInBounds]; exact z3
  have hb4 : Blk w4 b3 (cs0.setIfInBounds 0 (bv 77)) T_512_uint8 := hb4
  generalize cs0.setIfInBounds 0 (bv 77) = cs4 at *
  clear hb3 c3 e1
  -- five numbers
  have step : ∀ (wa : World) (cs : Array Value) (p : List UInt8) (k i size n : Nat) (R' : Ending → World → Prop), Blk wa b3 cs T_512_uint8 → cs.size = 512 → Has cs (bvs (p ++ List.replicate k 0)) → i = p.length → p.length + k = 512 → size ≤ k → 1 ≤ size → size ≤ 8 → n < 256 ^ size → n < 18446744073709551616 →
      (∀ wb cs', Blk wb b3 cs' T_512_uint8 → cs'.size = 512 → Has cs' (bvs ((p ++ leB8 size n) ++ List.replicate (k - size) 0)) → Kp (fun j => j = b3) wa wb → R' (.returned (.int .i64 0)) wb) →
      GoC Try.prog F_field_Put #[.slice (some (subP ⟨b3, 0, none⟩ 512 0 1)) 512 512, .int .i64 (i : Int), .int .i64 (size : Int), .int .u64 (n : Int)] wa.drew R' := fun wa cs p k i size n R' hb hz hc hi hpk hsk h1 h8 hn hn64 hR => by
    rw [subP0]
    have hd := (Kp.drew wa 1).blk hb id
    refine put_l (bs := p ++ List.replicate k 0) (by simp; omega) (by omega) hd hc h1 h8 (by omega) hn hn64 fun cs' wb hb' hz' hc' kb => ?_
    rw [over_pre hi (by rw [leB8_len]; exact hsk), leB8_len] at hc'
    exact hR wb cs' hb' (by omega) hc' ((Kp.drew wa 1).of_no.trans0 kb)
  have kk : Kp (fun j => j = b3) w3 w4 := k4
  have y1 := kk.blk x1 (by omega)
  refine ⟨_, ((Kp.drew w4 1).blk y1 id).at rfl rfl, step w4 cs4 [77] 511 1 8 st _ hb4 z4 c4 rfl rfl (by omega) (by omega) (by omega) (by omega) hst fun w5 cs5 hb5 z5 c5 k5 => ⟨_, rfl, trivial, trivial, ?_⟩⟩
  have kk := kk.trans0 k5
  have y1 := kk.blk x1 (by omega)
  refine ⟨_, ((Kp.drew w5 1).blk y1 id).at rfl rfl, ?_⟩
  rw [wru (by omega) (by omega)]
  refine step w5 cs5 _ 503 9 1 s.pg.toNat _ hb5 z5 c5 (by simp [leB8_len]) (by simp [leB8_len]) (by omega) (by omega) (by omega) (by omega) (by omega) fun w6 cs6 hb6 z6 c6 k6 => ⟨_, rfl, trivial, trivial, ?_⟩
  have kk := kk.trans0 k6
  have y1 := kk.blk x1 (by omega)
  refine ⟨_, ((Kp.drew w6 1).blk y1 id).at rfl rfl, ?_⟩
  rw [wru (by omega) (by omega)]
  refine step w6 cs6 _ 502 10 2 s.lg.toNat _ hb6 z6 c6 (by simp [leB8_len]) (by simp [leB8_len]) (by omega) (by omega) (by omega) (by omega) (by omega) fun w7 cs7 hb7 z7 c7 k7 => ⟨_, rfl, trivial, trivial, ?_⟩
  have kk := kk.trans0 k7
  have y1 := kk.blk x1 (by omega)
  refine ⟨_, ((Kp.drew w7 1).blk y1 id).at rfl rfl, ?_⟩
  rw [wru (by omega) (by omega)]
  refine step w7 cs7 _ 500 12 1 s.fr.toNat _ hb7 z7 c7 (by simp [leB8_len]) (by simp [leB8_len]) (by omega) (by omega) (by omega) (by omega) (by omega) fun w8 cs8 hb8 z8 c8 k8 => ⟨_, rfl, trivial, trivial, ?_⟩
  have kk := kk.trans0 k8
  have y1 := kk.blk x1 (by omega)
  refine ⟨_, ((Kp.drew w8 1).blk y1 id).at rfl rfl, ?_⟩
  rw [wru (by omega) (by omega)]
  refine step w8 cs8 _ 499 13 4 pt.toNat _ hb8 z8 c8 (by simp [leB8_len]) (by simp [leB8_len]) (by omega) (by omega) (by omega) (by omega) (by omega) fun w9 cs9 hb9 z9 c9 k9 => ⟨_, rfl, by omega, by omega, ?_⟩
  have kk := kk.trans0 k9
  have g1 : cs9[1]? = some (bv (UInt8.ofNat (st % 256))) := c9 1 _ rfl
  refine ⟨((UInt8.ofNat (st % 256)).toNat : Int), hb9.at (o := 1) (by rw [add_at]; rfl) g1, by omega, by omega, StF.at (i := 511) (by rw [add_at]; rfl) hb9 (by omega) fun w10 hb10 k10 _ => ?_⟩
  have c10 := has_set (x := UInt8.ofNat (st % 256)) c9 (i := 511) (by omega)
  have kk := kk.trans0 k10
  have e10 : (((((([77] ++ leB8 8 st) ++ leB8 1 s.pg.toNat) ++ leB8 2 s.lg.toNat) ++ leB8 1 s.fr.toNat) ++ leB8 4 pt.toNat) ++ List.replicate (499 - 4) 0).set 511 (UInt8.ofNat (st % 256)) = slotB st s pt := by
    rw [List.set_append_right _ _ (by simp [leB8_len])]
    have e : (List.replicate (499 - 4) (0 : UInt8)).set (511 - (((((([77] ++ leB8 8 st) ++ leB8 1 s.pg.toNat) ++ leB8 2 s.lg.toNat) ++ leB8 1 s.fr.toNat) ++ leB8 4 pt.toNat)).length) (UInt8.ofNat (st % 256)) = List.replicate 494 0 ++ [UInt8.ofNat (st % 256)] := by
      have : (((((([77] ++ leB8 8 st) ++ leB8 1 s.pg.toNat) ++ leB8 2 s.lg.toNat) ++ leB8 1 s.fr.toNat) ++ leB8 4 pt.toNat)).length = 17 := by simp [leB8_len]
      rw [this]
      have e5 : List.replicate (499 - 4) (0 : UInt8) = List.replicate 494 0 ++ [0] := by rw [show 499 - 4 = 494 + 1 from rfl, List.replicate_succ']
      rw [e5, List.set_append_right _ _ (by rw [List.length_replicate]; omega), List.length_replicate]
      rfl
    rw [e]
    unfold slotB
    simp only [List.append_assoc, List.cons_append, List.nil_append]
  rw [e10] at c10
  have hl512 : (bvs (slotB st s pt)).length = 512 := by rw [bvs_len, slotB_len]
  refine ⟨bvs (slotB st s pt), hl512, cells_blk hb10 c10, hl512, ?_⟩
  have y2 := kk.blk x2 (by omega)
  refine stl_blk y2 (by omega) bvs_one fun w11 cs' hb11 z11 c11 k11 => ?_
  refine ⟨bvs (slotB st s pt), hl512, cells_blk hb11 c11, h w11 ?_⟩
  exact kp_blk (kp_blk kw (by omega) kk) (by omega) k11

/-! ### Errors -/
/-- An error of a call: none, or a Fault. -/
def ErrV (w : World) (v : Value) (z : ByteArray) (n : Int) : Prop := (n = 0 ∧ v = .nilIface) ∨ (n ≠ 0 ∧ ∃ b, v = .iface T_p_api_Fault (.pointer (some ⟨b, 0, none⟩)) ∧ Blk w b #[.string z, .int .i64 0, .iface T_api_Errno (.int .i64 n)] T_api_Fault)
theorem ErrV.kp0 {w w' : World} {v : Value} {z : ByteArray} {n : Int} (h : ErrV w v z n) (k : Kp no w w') : ErrV w' v z n := by
  rcases h with h | ⟨h0, b, hv, hb⟩
  · exact .inl h
  · exact .inr ⟨h0, b, hv, k.blk hb id⟩
theorem fail_c {w : World} {z : ByteArray} {n : Int} {R : Ending → World → Prop} (hn : n ≠ 0) (h : ∀ v w', Kp no w w' → ErrV w' v z n → R (.returned v) w') : GoC Try.prog F_master_fail #[.string z, .int .i64 n] w R := by
  refine S_master_fail ?_
  unfold W_master_fail
  exact AlF.intro fun b1 w1 hb1e hb1 k1 _ => h _ w1 k1 (.inr ⟨hn, b1, rfl, hb1⟩)
/-- An error's Fault is fresh. -/
def ErrF (w : World) (v : Value) : Prop := ∀ b, v = .iface T_p_api_Fault (.pointer (some ⟨b, 0, none⟩)) → w.heap.size ≤ b
theorem ErrF.mono {w w1 : World} {v : Value} (h : ErrF w1 v) (hs : w.heap.size ≤ w1.heap.size) : ErrF w v := fun b hb => Nat.le_trans hs (h b hb)
theorem ErrF.nil (w : World) : ErrF w .nilIface := fun b hb => by cases hb
theorem fail_cF {w : World} {z : ByteArray} {n : Int} {R : Ending → World → Prop} (hn : n ≠ 0) (h : ∀ v w', Kp no w w' → ErrV w' v z n → ErrF w v → R (.returned v) w') : GoC Try.prog F_master_fail #[.string z, .int .i64 n] w R := by
  refine S_master_fail ?_
  unfold W_master_fail
  exact AlF.intro fun b1 w1 hb1e hb1 k1 _ => h _ w1 k1 (.inr ⟨hn, b1, rfl, hb1⟩) fun b hb => by cases hb; omega
theorem told_c {w : World} {v : Value} {z : ByteArray} {n m : Int} {R : Ending → World → Prop} (he : ErrV w v z n) (h : R (.returned (.bool (decide (n = m)))) w) : GoC Try.prog F_law04_told #[v, .string z, .int .i64 m] w R := by
  refine S_law04_told ?_
  unfold W_law04_told
  refine cond_eq (fun hm => ?_) (fun hm => ?_)
  · rcases he with ⟨h0, rfl⟩ | ⟨h0, b, rfl, hb⟩
    · rw [decide_eq_true (by omega)] at h
      exact .inl ⟨rfl, h⟩
    · rw [decide_eq_false (by omega)] at h
      exact .inr ⟨_, _, rfl, h⟩
  · rcases he with ⟨h0, rfl⟩ | ⟨h0, b, rfl, hb⟩
    · rw [decide_eq_false (by omega)] at h
      exact .inl ⟨rfl, h⟩
    · refine .inr ⟨_, _, rfl, .inl ⟨rfl, _, rfl, cond_t rfl (NilF.intro rfl ⟨_, hb.at rfl rfl, cond_t (beq_self_eq_true _) (NilF.intro rfl ⟨_, hb.at rfl rfl, cond_t rfl (NilF.intro rfl ⟨_, hb.at rfl rfl, .inr ⟨_, _, rfl, .inr ⟨rfl, _, rfl, ?_⟩⟩⟩)⟩)⟩)⟩⟩
      have : (n == m) = decide (n = m) := by by_cases hh : n = m <;> simp [hh]
      rw [this]
      exact h
theorem num_c {w : World} {n : Int} {R : Ending → World → Prop} (h : R (.returned (.int .i64 n)) w) : GoC Try.prog F_law04_num #[.int .i64 n] w R := by
  refine S_law04_num ?_
  unfold W_law04_num
  exact h
end Go.Proofs.Ytaehmogilimmfaa
