/- Layer 8: what a call gives up with, and the error that is made of it; places; put and get. Conditions: the disk's queue and its loss's list are short. -/
import Derived.Test.YtalkkhocljehfaaTg
set_option linter.unusedVariables false
set_option linter.unusedSimpArgs false
namespace Go.Proofs.Ytalkkhocljehfaa
open Go Go.RowKit

theorem Blk.at {w : World} {b o : Nat} {cs : Array Value} {T : TypeId} {ad : Addr} {v : Value} (h : Blk w b cs T) (had : ad = ⟨b, o, none⟩) (hv : cs[o]? = some v) : w.cell? ad = some v := by
  subst had
  rw [h.cell]
  exact hv
/-- What a call gives up with. -/
def refV (e : Int) : Value := .iface T_twin_refusal (.agg #[.int .i64 e])
def gaveL (e : Int) : List PanicEntry := [{ v := refV e, recovered := false }]
def Gv (e : Int) (R : Ending → World → Prop) (w : World) : Prop := R (.panicked (gaveL e)) w

theorem need_c {w : World} {q : Bool} {e : Int} {R : Ending → World → Prop} (ht : q = true → R (.returned (.tuple #[])) w) (hf : q = false → Gv e R w) : GoC Try.prog F_twin_need #[.bool q, .int .i64 e] w R := by
  refine S_twin_need ?_
  unfold W_twin_need
  cases q with
  | true => exact cond_f rfl (ht rfl)
  | false => exact cond_t rfl ⟨_, _, rfl, hf rfl⟩
theorem must_c {w : World} {e : Int} {R : Ending → World → Prop} (ht : e = 0 → R (.returned (.tuple #[])) w) (hf : e ≠ 0 → Gv e R w) : GoC Try.prog F_twin_must #[.int .i64 e] w R := by
  refine S_twin_must ?_
  unfold W_twin_must
  exact need_c (fun h => ⟨rfl, ht (by simpa using h)⟩) (fun h => hf (by simpa using h))

/-- An error of a call: none, or a Fault. -/
def ErrV (w : World) (v : Value) (z : ByteArray) (n : Int) : Prop := (n = 0 ∧ v = .nilIface) ∨ (n ≠ 0 ∧ ∃ b, v = .iface T_p_api_Fault (.pointer (some ⟨b, 0, none⟩)) ∧ Blk w b #[.string z, .int .i64 0, .iface T_api_Errno (.int .i64 n)] T_api_Fault)
def ErrF (w : World) (v : Value) : Prop := ∀ b, v = .iface T_p_api_Fault (.pointer (some ⟨b, 0, none⟩)) → w.heap.size ≤ b
theorem ErrV.kp0 {w w' : World} {v : Value} {z : ByteArray} {n : Int} (h : ErrV w v z n) (k : Kp no w w') : ErrV w' v z n := by
  rcases h with h | ⟨h0, b, hv, hb⟩
  · exact .inl h
  · exact .inr ⟨h0, b, hv, k.blk hb id⟩
theorem ErrV.kp {S : Nat → Prop} {w w' : World} {v : Value} {z : ByteArray} {n : Int} (h : ErrV w v z n) (k : Kp S w w') (hs : ∀ b, v = .iface T_p_api_Fault (.pointer (some ⟨b, 0, none⟩)) → ¬ S b) : ErrV w' v z n := by
  rcases h with h | ⟨h0, b, hv, hb⟩
  · exact .inl h
  · exact .inr ⟨h0, b, hv, k.blk hb (hs b hv)⟩
theorem ErrV.fr {T : Nat → Prop} {w w' : World} {ow ow' : Nat → Nat} {e : Value} {z : ByteArray} {n : Int} (h : ErrV w e z n) (hb : ∀ b, e = .iface T_p_api_Fault (.pointer (some ⟨b, 0, none⟩)) → T (ow b)) (f : Fro T w ow w' ow') : ErrV w' e z n :=
  h.kp f.kp fun b hv hh => hh (hb b hv)
theorem ErrF.nil (w : World) : ErrF w .nilIface := fun b hb => by cases hb
theorem ErrF.mono {w w1 : World} {v : Value} (h : ErrF w1 v) (hs : w.heap.size ≤ w1.heap.size) : ErrF w v := fun b hb => Nat.le_trans hs (h b hb)
theorem err0 {w : World} {v : Value} {z : ByteArray} (h : ErrV w v z 0) : v = .nilIface := by
  rcases h with ⟨_, h⟩ | ⟨h, _⟩
  · exact h
  · exact absurd rfl h
/-- told: nothing; what was given up with. -/
theorem told_nil {w : World} {z : ByteArray} {R : Ending → World → Prop} (h : R (.returned .nilIface) w) : GoC Try.prog F_twin_told #[.string z, .nilIface] w R := by
  refine S_twin_told ?_
  unfold W_twin_told
  exact .inl ⟨rfl, cond_t rfl h⟩
theorem told_ref {w : World} {z : ByteArray} {e : Int} {R : Ending → World → Prop} (he : e ≠ 0) (h : ∀ v w', Kp no w w' → ErrV w' v z e → ErrF w v → R (.returned v) w') : GoC Try.prog F_twin_told #[.string z, refV e] w R := by
  refine S_twin_told ?_
  unfold W_twin_told
  refine .inr ⟨_, _, rfl, cond_f rfl (.inr ⟨_, _, rfl, .inl ⟨rfl, e, rfl, ?_⟩⟩)⟩
  refine AlF.intro fun b1 w1 hb1e hb1 k1 _ => StF.at rfl hb1 (by simp) fun w2 hb2 k2 _ => ⟨e, hb2.at rfl rfl, ?_⟩
  have k02 := kp_blk k1 (by omega) k2
  have sz := k02.size
  refine AlF.intro fun b3 w3 hb3e hb3 k3 _ => h _ w3 (k02.trans0 k3) (.inr ⟨he, b3, rfl, hb3⟩) fun b hb => by cases hb; omega
/-- The statements' told. -/
theorem ltold_c {w : World} {v : Value} {z : ByteArray} {n m : Int} {R : Ending → World → Prop} (he : ErrV w v z n) (h : R (.returned (.bool (decide (n = m)))) w) : GoC Try.prog F_law08_told #[v, .string z, .int .i64 m] w R := by
  refine S_law08_told ?_
  unfold W_law08_told
  rcases he with ⟨rfl, rfl⟩ | ⟨h0, b, rfl, hb⟩
  · refine cond_eq (fun hm => .inl ⟨rfl, ?_⟩) (fun hm => .inl ⟨rfl, ?_⟩)
    · have e : decide ((0 : Int) = m) = true := by simp [hm]
      rw [e] at h
      exact h
    · have e : decide ((0 : Int) = m) = false := decide_eq_false fun hh => hm hh.symm
      rw [e] at h
      exact h
  · refine cond_eq (fun hm => .inr ⟨_, _, rfl, ?_⟩) (fun hm => .inr ⟨_, _, rfl, .inl ⟨rfl, _, rfl, cond_f rfl (NilF.intro rfl ⟨z, hb.at rfl rfl, cond_f (by simp) (NilF.intro rfl ⟨0, hb.at rfl rfl, cond_ne (fun hh => absurd rfl hh) (fun _ => NilF.intro rfl ⟨_, hb.at rfl rfl, .inr ⟨_, _, rfl, .inl ⟨rfl, n, rfl, ?_⟩⟩⟩)⟩)⟩)⟩⟩)
    · have e : decide (n = m) = false := decide_eq_false fun hh => h0 (hh.trans hm)
      rw [e] at h
      exact h
    · have e : decide (n = m) = (n == m) := by
        rw [Bool.eq_iff_iff, beq_iff_eq, decide_eq_true_eq]
      rw [e] at h
      exact h

theorem storeAt_run {ty : TypeId} {b : Nat} {x0 y : Value} {w : World} (hi : (Try.prog.info? ty).isSome = true) (hc : Try.prog.cellsOf ty = 1) (hy : y.cells = #[y]) (ho : y.oneCell' = true) (hb : Blk w b #[x0] ty) :
    ∃ w', (Instr.storeAt ty (.pointer (some ⟨b, 0, none⟩)) y).run Try.prog w = .ok () w' ∧ Blk w' b #[y] ty ∧ Kp (fun j => j = b) w w' := by
  have hs : StL w ⟨b, 0, none⟩ 0 [y] fun w' => Blk w' b #[y] ty ∧ Kp (fun j => j = b) w w' :=
    ⟨ho, StF.at (i := 0) rfl hb (by simp) fun w1 hb1 k1 _ => ⟨hb1, k1⟩⟩
  obtain ⟨w', hr, hK⟩ := storeCells_run (P := Try.prog) [y] 0 w hs
  refine ⟨w', ?_, hK⟩
  simp only [Instr.storeAt, Instr.sureAddr, storeVar, Sem.run_bind, Sem.run_pure, Result.andThen_ok, run_sizeOf' hi, hy, hc]
  simpa using hr
def opR : Code → Nat → Oper | .region _ ops _, i => ops.getD i default | _, _ => default
/-! ### The closures that recover -/
def zW : ByteArray := ByteArray.mk #[87, 114, 105, 116, 101]
theorem Write_back {b : Nat} {x0 : Value} {K : World → Prop} {R : Ending → World → Prop} {w : World} (hb : Blk w b #[x0] T_error) (h : ∀ w', Blk w' b #[.nilIface] T_error → Kp (fun j => j = b) w w' → K w') :
    DefE Try.prog F_twin_Write_1 #[.pointer (some ⟨b, 0, none⟩)] .returning K R w := by
  refine defE_rec (id := 0) (d1 := 1) (d2 := 2) (tf := F_twin_told) (ty := T_error) (z := zW) (v := .nilIface) (u1 := .returning) (p1 := opR (codeOf Try.f26) 0) (p2 := opR (codeOf Try.f26) 1) (p3 := opR (codeOf Try.f26) 2) (a1 := #[]) (a2 := #[T_string, T_any])
    (by kernel_rfl) Try.func26 (by kernel_rfl) (by kernel_rfl) (by kernel_rfl) (by kernel_rfl) (by kernel_rfl) (by kernel_rfl) (by kernel_rfl) (by kernel_rfl) (by kernel_rfl) (by kernel_rfl) (by kernel_rfl) (leB (by kernel_rfl)) (leB (by kernel_rfl)) (leB (by kernel_rfl)) (by decide) (by decide) (by decide)
    (fun c₀ cs hm => .inr ⟨by cases c₀; dsimp only at hm; subst hm; rfl, rfl, rfl⟩) (told_nil ?_)
  obtain ⟨w', hr, hb', k'⟩ := storeAt_run (y := .nilIface) (by kernel_rfl) (by kernel_rfl) rfl rfl hb
  exact ⟨w', hr, h w' hb' k'⟩
theorem Write_pan {b : Nat} {x0 : Value} {e : Int} {K : World → Prop} {R : Ending → World → Prop} {w : World} (he : e ≠ 0) (hb : Blk w b #[x0] T_error) (h : ∀ v' w', ErrV w' v' zW e → ErrF w v' → Blk w' b #[v'] T_error → Kp (fun j => j = b) w w' → K w') :
    PanD Try.prog F_twin_Write_1 #[.pointer (some ⟨b, 0, none⟩)] K R (gaveL e) w := by
  refine defE_rec (id := 0) (d1 := 1) (d2 := 2) (tf := F_twin_told) (ty := T_error) (z := zW) (v := refV e) (u1 := .panicking [{ v := refV e, recovered := true }]) (p1 := opR (codeOf Try.f26) 0) (p2 := opR (codeOf Try.f26) 1) (p3 := opR (codeOf Try.f26) 2) (a1 := #[]) (a2 := #[T_string, T_any])
    (by kernel_rfl) Try.func26 (by kernel_rfl) (by kernel_rfl) (by kernel_rfl) (by kernel_rfl) (by kernel_rfl) (by kernel_rfl) (by kernel_rfl) (by kernel_rfl) (by kernel_rfl) (by kernel_rfl) (by kernel_rfl) (leB (by kernel_rfl)) (leB (by kernel_rfl)) (leB (by kernel_rfl)) (by decide) (by decide) (by decide)
    (fun c₀ cs hm => .inl (by cases c₀; dsimp only at hm; subst hm; rfl)) (told_ref he fun v' w1 k1 hv hf => ?_)
  have lt := hb.lt
  have hne : ∀ b', v' = .iface T_p_api_Fault (.pointer (some ⟨b', 0, none⟩)) → ¬ b' = b := fun b' hv' hh => by
    have := hf b' hv'
    omega
  have hy : v'.cells = #[v'] ∧ v'.oneCell' = true := by
    rcases hv with ⟨_, rfl⟩ | ⟨_, b', rfl, _⟩ <;> exact ⟨rfl, rfl⟩
  obtain ⟨w', hr, hb', k'⟩ := storeAt_run (y := v') (by kernel_rfl) (by kernel_rfl) hy.1 hy.2 (k1.blk hb id)
  exact ⟨w', hr, h v' w' (hv.kp k' hne) hf hb' (k1.of_no.trans0 k')⟩
def zR : ByteArray := ByteArray.mk #[82, 101, 97, 100]
theorem Read_back {b : Nat} {x0 : Value} {K : World → Prop} {R : Ending → World → Prop} {w : World} (hb : Blk w b #[x0] T_error) (h : ∀ w', Blk w' b #[.nilIface] T_error → Kp (fun j => j = b) w w' → K w') :
    DefE Try.prog F_twin_Read_1 #[.pointer (some ⟨b, 0, none⟩)] .returning K R w := by
  refine defE_rec (id := 0) (d1 := 1) (d2 := 2) (tf := F_twin_told) (ty := T_error) (z := zR) (v := .nilIface) (u1 := .returning) (p1 := opR (codeOf Try.f33) 0) (p2 := opR (codeOf Try.f33) 1) (p3 := opR (codeOf Try.f33) 2) (a1 := #[]) (a2 := #[T_string, T_any])
    (by kernel_rfl) Try.func33 (by kernel_rfl) (by kernel_rfl) (by kernel_rfl) (by kernel_rfl) (by kernel_rfl) (by kernel_rfl) (by kernel_rfl) (by kernel_rfl) (by kernel_rfl) (by kernel_rfl) (by kernel_rfl) (leB (by kernel_rfl)) (leB (by kernel_rfl)) (leB (by kernel_rfl)) (by decide) (by decide) (by decide)
    (fun c₀ cs hm => .inr ⟨by cases c₀; dsimp only at hm; subst hm; rfl, rfl, rfl⟩) (told_nil ?_)
  obtain ⟨w', hr, hb', k'⟩ := storeAt_run (y := .nilIface) (by kernel_rfl) (by kernel_rfl) rfl rfl hb
  exact ⟨w', hr, h w' hb' k'⟩
theorem Read_pan {b : Nat} {x0 : Value} {e : Int} {K : World → Prop} {R : Ending → World → Prop} {w : World} (he : e ≠ 0) (hb : Blk w b #[x0] T_error) (h : ∀ v' w', ErrV w' v' zR e → ErrF w v' → Blk w' b #[v'] T_error → Kp (fun j => j = b) w w' → K w') :
    PanD Try.prog F_twin_Read_1 #[.pointer (some ⟨b, 0, none⟩)] K R (gaveL e) w := by
  refine defE_rec (id := 0) (d1 := 1) (d2 := 2) (tf := F_twin_told) (ty := T_error) (z := zR) (v := refV e) (u1 := .panicking [{ v := refV e, recovered := true }]) (p1 := opR (codeOf Try.f33) 0) (p2 := opR (codeOf Try.f33) 1) (p3 := opR (codeOf Try.f33) 2) (a1 := #[]) (a2 := #[T_string, T_any])
    (by kernel_rfl) Try.func33 (by kernel_rfl) (by kernel_rfl) (by kernel_rfl) (by kernel_rfl) (by kernel_rfl) (by kernel_rfl) (by kernel_rfl) (by kernel_rfl) (by kernel_rfl) (by kernel_rfl) (by kernel_rfl) (leB (by kernel_rfl)) (leB (by kernel_rfl)) (leB (by kernel_rfl)) (by decide) (by decide) (by decide)
    (fun c₀ cs hm => .inl (by cases c₀; dsimp only at hm; subst hm; rfl)) (told_ref he fun v' w1 k1 hv hf => ?_)
  have lt := hb.lt
  have hne : ∀ b', v' = .iface T_p_api_Fault (.pointer (some ⟨b', 0, none⟩)) → ¬ b' = b := fun b' hv' hh => by
    have := hf b' hv'
    omega
  have hy : v'.cells = #[v'] ∧ v'.oneCell' = true := by
    rcases hv with ⟨_, rfl⟩ | ⟨_, b', rfl, _⟩ <;> exact ⟨rfl, rfl⟩
  obtain ⟨w', hr, hb', k'⟩ := storeAt_run (y := v') (by kernel_rfl) (by kernel_rfl) hy.1 hy.2 (k1.blk hb id)
  exact ⟨w', hr, h v' w' (hv.kp k' hne) hf hb' (k1.of_no.trans0 k')⟩
def zF : ByteArray := ByteArray.mk #[70, 105, 110, 105, 115, 104]
theorem Finish_back {b : Nat} {x0 : Value} {K : World → Prop} {R : Ending → World → Prop} {w : World} (hb : Blk w b #[x0] T_error) (h : ∀ w', Blk w' b #[.nilIface] T_error → Kp (fun j => j = b) w w' → K w') :
    DefE Try.prog F_twin_Finish_1 #[.pointer (some ⟨b, 0, none⟩)] .returning K R w := by
  refine defE_rec (id := 0) (d1 := 1) (d2 := 2) (tf := F_twin_told) (ty := T_error) (z := zF) (v := .nilIface) (u1 := .returning) (p1 := opR (codeOf Try.f36) 0) (p2 := opR (codeOf Try.f36) 1) (p3 := opR (codeOf Try.f36) 2) (a1 := #[]) (a2 := #[T_string, T_any])
    (by kernel_rfl) Try.func36 (by kernel_rfl) (by kernel_rfl) (by kernel_rfl) (by kernel_rfl) (by kernel_rfl) (by kernel_rfl) (by kernel_rfl) (by kernel_rfl) (by kernel_rfl) (by kernel_rfl) (by kernel_rfl) (leB (by kernel_rfl)) (leB (by kernel_rfl)) (leB (by kernel_rfl)) (by decide) (by decide) (by decide)
    (fun c₀ cs hm => .inr ⟨by cases c₀; dsimp only at hm; subst hm; rfl, rfl, rfl⟩) (told_nil ?_)
  obtain ⟨w', hr, hb', k'⟩ := storeAt_run (y := .nilIface) (by kernel_rfl) (by kernel_rfl) rfl rfl hb
  exact ⟨w', hr, h w' hb' k'⟩
theorem Finish_pan {b : Nat} {x0 : Value} {e : Int} {K : World → Prop} {R : Ending → World → Prop} {w : World} (he : e ≠ 0) (hb : Blk w b #[x0] T_error) (h : ∀ v' w', ErrV w' v' zF e → ErrF w v' → Blk w' b #[v'] T_error → Kp (fun j => j = b) w w' → K w') :
    PanD Try.prog F_twin_Finish_1 #[.pointer (some ⟨b, 0, none⟩)] K R (gaveL e) w := by
  refine defE_rec (id := 0) (d1 := 1) (d2 := 2) (tf := F_twin_told) (ty := T_error) (z := zF) (v := refV e) (u1 := .panicking [{ v := refV e, recovered := true }]) (p1 := opR (codeOf Try.f36) 0) (p2 := opR (codeOf Try.f36) 1) (p3 := opR (codeOf Try.f36) 2) (a1 := #[]) (a2 := #[T_string, T_any])
    (by kernel_rfl) Try.func36 (by kernel_rfl) (by kernel_rfl) (by kernel_rfl) (by kernel_rfl) (by kernel_rfl) (by kernel_rfl) (by kernel_rfl) (by kernel_rfl) (by kernel_rfl) (by kernel_rfl) (by kernel_rfl) (leB (by kernel_rfl)) (leB (by kernel_rfl)) (leB (by kernel_rfl)) (by decide) (by decide) (by decide)
    (fun c₀ cs hm => .inl (by cases c₀; dsimp only at hm; subst hm; rfl)) (told_ref he fun v' w1 k1 hv hf => ?_)
  have lt := hb.lt
  have hne : ∀ b', v' = .iface T_p_api_Fault (.pointer (some ⟨b', 0, none⟩)) → ¬ b' = b := fun b' hv' hh => by
    have := hf b' hv'
    omega
  have hy : v'.cells = #[v'] ∧ v'.oneCell' = true := by
    rcases hv with ⟨_, rfl⟩ | ⟨_, b', rfl, _⟩ <;> exact ⟨rfl, rfl⟩
  obtain ⟨w', hr, hb', k'⟩ := storeAt_run (y := v') (by kernel_rfl) (by kernel_rfl) hy.1 hy.2 (k1.blk hb id)
  exact ⟨w', hr, h v' w' (hv.kp k' hne) hf hb' (k1.of_no.trans0 k')⟩
/-! ### Places -/
theorem there_c {w : World} {ow : Nat → Nat} {t b : Nat} {v : Dv} {at_ m : Int} {R : Ending → World → Prop} (h : DX w ow t b v) (hm : 0 ≤ m ∧ m ≤ 3) (hK : R (.returned (.bool (decide (0 ≤ at_ ∧ at_ + m ≤ (v.n : Int))))) w) :
    GoC Try.prog F_twin_there #[.pointer (some ⟨b, 0, none⟩), .int .i64 at_, .int .i64 m] w R := by
  refine S_twin_there ?_
  unfold W_twin_there
  have n2 := h.ok.n2
  refine cond_d (fun h0 => size_c h ⟨_, rfl, cond_d (fun h1 => size_c h ⟨_, rfl, ?_⟩) (fun h1 => ?_)⟩) (fun h0 => ?_)
  · have e : decide (at_ ≤ IntKind.wrap .i64 ((v.n : Int) - m)) = decide (0 ≤ at_ ∧ at_ + m ≤ (v.n : Int)) := by
      rw [wrap_i64 (by omega) (by omega)]
      congr 1
      apply propext
      omega
    rw [e]
    exact hK
  · rw [decide_eq_false (by omega)] at hK
    exact hK
  · rw [decide_eq_false (by omega)] at hK
    exact hK
/-- May a home be written by the twin at that place? -/
def mayP (n : Nat) (at_ h : Int) : Prop := (0 ≤ h ∧ h + 2 ≤ (n : Int)) ∧ (h + 1 < at_ ∨ at_ + 2 < h)
instance (n : Nat) (at_ h : Int) : Decidable (mayP n at_ h) := inferInstanceAs (Decidable (_ ∧ _))
theorem may_c {w : World} {ow : Nat → Nat} {t b : Nat} {v : Dv} {at_ hm : Int} {R : Ending → World → Prop} (h : DX w ow t b v) (ha : 0 ≤ at_ ∧ at_ ≤ 100000) (hK : R (.returned (.bool (decide (mayP v.n at_ hm)))) w) :
    GoC Try.prog F_twin_may #[.pointer (some ⟨b, 0, none⟩), .int .i64 at_, .int .i64 hm] w R := by
  refine S_twin_may ?_
  unfold W_twin_may
  have n2 := h.ok.n2
  refine there_c h (by omega) ⟨_, rfl, cond_d (fun h0 => ?_) (fun h0 => ?_)⟩
  · rw [wrap_i64 (x := hm + 1) (by omega) (by omega), wrap_i64 (x := at_ + 3) (by omega) (by omega), wrap_i64 (by omega) (by omega)]
    refine cond_d (fun h1 => ?_) (fun h1 => ?_)
    · rw [decide_eq_true (by unfold mayP; omega)] at hK
      exact hK
    · have e : decide (hm > at_ + 3 - 1) = decide (mayP v.n at_ hm) := by
        congr 1
        apply propext
        unfold mayP
        omega
      rw [e]
      exact hK
  · rw [decide_eq_false (by unfold mayP; omega)] at hK
    exact hK
theorem running_c {w : World} {ow : Nat → Nat} {t b : Nat} {v : Dv} {R : Ending → World → Prop} (h : DX w ow t b v) (h0 : v.down = false → R (.returned (.tuple #[])) w) (h1 : v.down = true → Gv 40 R w) : GoC Try.prog F_twin_running #[.pointer (some ⟨b, 0, none⟩)] w R := by
  refine S_twin_running ?_
  unfold W_twin_running
  refine need_c (fun _ => ⟨rfl, down_c h ⟨_, rfl, need_c (fun hq => ⟨rfl, h0 (by simpa using hq)⟩) (fun hq => h1 (by simpa using hq))⟩⟩) (fun hq => by cases hq)
theorem running_nil {w : World} {R : Ending → World → Prop} (h1 : Gv 3 R w) : GoC Try.prog F_twin_running #[.pointer none] w R := by
  refine S_twin_running ?_
  unfold W_twin_running
  exact need_c (fun hq => by cases hq) (fun _ => h1)
end Go.Proofs.Ytalkkhocljehfaa
