/- The engine, third part: one operation's weakest precondition, plain regions and regions that draw their order. Conditions: none. -/
import Derived.Test.YtkfdkcclojepnaaGreatVd
namespace Go.Proofs.YtkfdkcclojepnaaGreat
open Go Go.RowKit
section
variable {P : Program}
theorem loadCellsFrom_run {w : World} {a : Addr} : ∀ (vs : List Value) (i : Nat) (acc : Array Value), cellsAre w a i vs → (loadCellsFrom a i vs.length acc).run P w = .ok (acc ++ vs.toArray) w
  | [], i, acc, _ => by simp [loadCellsFrom, pure]
  | v :: vs, i, acc, h => by
    have ih := loadCellsFrom_run vs (i + 1) (acc.push v) h.2
    have hl : (load (a.add i)).run P w = .ok v w := by simp only [load, Sem.run, h.1]
    simp only [List.length_cons, loadCellsFrom, Sem.run_bind, hl, Result.andThen_ok, ih]
    simp
theorem run_isAgg {t : TypeId} {d : TypeDesc} (hd : P.underlying t = some d) (w : World) : (isAgg t).run P w = .ok (match d with | .struct _ | .array _ _ => true | _ => false) w := by
  unfold isAgg
  simp only [Sem.run_bind, run_und hd, Result.andThen_ok]
  cases d <;> rfl
theorem loadAt_run_sc {t : TypeId} {a : Addr} {s : STy} {w : World} {v : Value} (ht : tyOf P t = .sc s) (hu : (P.underlying t).isSome = true) (hc : w.cell? a = some v) :
    (Instr.loadAt t (.pointer (some a))).run P w = .ok v w := by
  obtain ⟨d, hd⟩ := Option.isSome_iff_exists.1 hu
  have hl : (load a).run P w = .ok v w := by simp only [load, Sem.run, hc]
  simp only [Instr.loadAt, Instr.sureAddr, loadVar, Sem.run_bind, Sem.run_pure, Result.andThen_ok, run_isAgg hd]
  cases d <;> first
    | (simp only [tyOf, hd] at ht; cases ht; done)
    | (simp only [tyOf, hd] at ht; revert ht; cases Nat.ble 17 _ <;> (intro hh; cases hh); done)
    | simpa only [Bool.false_eq_true, if_false] using hl
theorem loadAt_run_agg {t : TypeId} {a : Addr} {l : List STy} {w : World} {vs : List Value} (ht : tyOf P t = .agg l) (hi : (P.info? t).isSome = true) (hn : vs.length = P.cellsOf t) (hc : cellsAre w a 0 vs) :
    (Instr.loadAt t (.pointer (some a))).run P w = .ok (.agg vs.toArray) w := by
  have hl := loadCellsFrom_run (P := P) vs 0 #[] hc
  cases hd : P.underlying t with
  | none => simp only [tyOf, hd] at ht; cases ht
  | some d =>
    simp only [Instr.loadAt, Instr.sureAddr, loadVar, Sem.run_bind, Sem.run_pure, Result.andThen_ok, run_isAgg hd]
    cases d <;> first
      | (simp only [tyOf, hd] at ht; cases ht; done)
      | (simp only [if_true, Sem.run_bind, run_sizeOf' hi, Result.andThen_ok, loadCells, ← hn, hl, Sem.run_pure]
         simp)
theorem arr_und {t : TypeId} {m : Nat} (ht : tyOf P t = .arr m) : ∃ n e, P.underlying t = some (.array n e) := by
  unfold tyOf at ht
  split at ht
  · cases ht
  · rename_i n e hd; exact ⟨n, e, hd⟩
  · cases ht
theorem loadAt_run_arr {t : TypeId} {a : Addr} {m : Nat} {w : World} {vs : List Value} (ht : tyOf P t = .arr m) (hi : (P.info? t).isSome = true) (hn : vs.length = P.cellsOf t) (hc : cellsAre w a 0 vs) :
    (Instr.loadAt t (.pointer (some a))).run P w = .ok (.agg vs.toArray) w := by
  have hl := loadCellsFrom_run (P := P) vs 0 #[] hc
  obtain ⟨n, e, hd⟩ := arr_und ht
  simp only [Instr.loadAt, Instr.sureAddr, loadVar, Sem.run_bind, Sem.run_pure, Result.andThen_ok, run_isAgg hd]
  simp only [if_true, Sem.run_bind, run_sizeOf' hi, Result.andThen_ok, loadCells, ← hn, hl, Sem.run_pure]
  simp
theorem storeCells_run {a : Addr} {K : World → Prop} : ∀ (vs : List Value) (i : Nat) (w : World), StL w a i vs K → ∃ w', (storeCells a vs i).run P w = .ok () w' ∧ K w'
  | [], i, w, h => ⟨w, rfl, h⟩
  | v :: vs, i, w, h => by
    obtain ⟨h1, u, hu, hf, h⟩ := h
    obtain ⟨w', hr, hk⟩ := storeCells_run vs (i + 1) _ h
    refine ⟨w', ?_, hk⟩
    simp only [storeCells, Sem.run_bind, run_store _ _ _ _ _ h1, hu, hf, Bool.false_eq_true, if_false, Result.andThen_ok]
    exact hr
theorem wLoad_run {t : TypeId} {x : Value} {w : World} {K : Value → Prop} (h : wLoad P t x w K) : ∃ v, K v ∧ (Instr.loadAt t x).run P w = .ok v w := by
  unfold wLoad at h
  split at h
  case h_2 => exact h.elim
  rename_i p
  rcases p with _ | a
  · exact h.elim
  dsimp only [NilF] at h
  split at h
  · rename_i s ht
    have hu := (cond_false_out h).1
    obtain ⟨v, hc, hk⟩ := exS_out (cond_false_out h).2
    exact ⟨v, hk, loadAt_run_sc ht hu hc⟩
  · rename_i l ht
    obtain ⟨hl, h⟩ := cond_false_out h
    rw [Bool.and_eq_true] at hl
    obtain ⟨vs, hvl, hc, hk⟩ := exL_out h
    exact ⟨_, hk, loadAt_run_agg ht hl.2 (by rw [hvl]; exact eq_of_beq hl.1) hc⟩
  · rename_i m ht
    obtain ⟨hl, h⟩ := cond_false_out h
    rw [Bool.and_eq_true] at hl
    obtain ⟨vs, hvl, hc, hk⟩ := h
    exact ⟨_, hk, loadAt_run_arr ht hl.2 (by rw [hvl]; exact eq_of_beq hl.1) hc⟩
theorem wLoad_runN {t : TypeId} {x : Value} {w : World} {K : Value → Prop} (h : wLoad P t x w K) : ∃ v, K v ∧ ∀ n, (Instr.loadAt t x).run P (w.drewN n) = .ok v (w.drewN n) := by
  unfold wLoad at h
  split at h
  case h_2 => exact h.elim
  rename_i p
  rcases p with _ | a
  · exact h.elim
  dsimp only [NilF] at h
  split at h
  · rename_i s ht
    have hu := (cond_false_out h).1
    obtain ⟨v, hc, hk⟩ := exS_out (cond_false_out h).2
    exact ⟨v, hk, fun n => loadAt_run_sc ht hu (w := w.drewN n) hc⟩
  · rename_i l ht
    obtain ⟨hl, h⟩ := cond_false_out h
    rw [Bool.and_eq_true] at hl
    obtain ⟨vs, hvl, hc, hk⟩ := exL_out h
    have hd : ∀ (n i : Nat) (vs : List Value), cellsAre w a i vs → cellsAre (w.drewN n) a i vs := by
      intro n i vs
      induction vs generalizing i with
      | nil => exact fun _ => trivial
      | cons v vs ih => exact fun h => ⟨h.1, ih _ h.2⟩
    exact ⟨_, hk, fun n => loadAt_run_agg ht hl.2 (by rw [hvl]; exact eq_of_beq hl.1) (hd n 0 vs hc)⟩
  · rename_i m ht
    obtain ⟨hl, h⟩ := cond_false_out h
    rw [Bool.and_eq_true] at hl
    obtain ⟨vs, hvl, hc, hk⟩ := h
    have hd : ∀ (n i : Nat) (vs : List Value), cellsAre w a i vs → cellsAre (w.drewN n) a i vs := by
      intro n i vs
      induction vs generalizing i with
      | nil => exact fun _ => trivial
      | cons v vs ih => exact fun h => ⟨h.1, ih _ h.2⟩
    exact ⟨_, hk, fun n => loadAt_run_arr ht hl.2 (by rw [hvl]; exact eq_of_beq hl.1) (hd n 0 vs hc)⟩
theorem dLoad_run {t : TypeId} {x : Value} {C : World → Prop} {K : Value → Prop} (h : dLoad P t x C K) : ∃ v, K v ∧ ∀ w, C w → (Instr.loadAt t x).run P w = .ok v w := by
  unfold dLoad at h
  split at h
  case h_2 => exact h.elim
  rename_i p
  rcases p with _ | a
  · exact h.elim
  dsimp only [NilF] at h
  split at h
  · rename_i s ht
    have hu := (cond_false_out h).1
    obtain ⟨v, hc, hk⟩ := exS_out (cond_false_out h).2
    exact ⟨v, hk, fun w hw => loadAt_run_sc ht hu (hc w hw)⟩
  · rename_i l ht
    obtain ⟨hl, h⟩ := cond_false_out h
    rw [Bool.and_eq_true] at hl
    obtain ⟨vs, hvl, hc, hk⟩ := exL_out h
    exact ⟨_, hk, fun w hw => loadAt_run_agg ht hl.2 (by rw [hvl]; exact eq_of_beq hl.1) (hc w hw)⟩
  · rename_i m ht
    obtain ⟨hl, h⟩ := cond_false_out h
    rw [Bool.and_eq_true] at hl
    obtain ⟨vs, hvl, hc, hk⟩ := h
    exact ⟨_, hk, fun w hw => loadAt_run_arr ht hl.2 (by rw [hvl]; exact eq_of_beq hl.1) (hc w hw)⟩
theorem callable_run {f : FuncId} (h : callable P f = true) (args : Array Value) (w : World) : (callFunc f args).run P w = .ok (.enter f args) w := by
  unfold callable at h
  split at h
  · cases h
  · rename_i fn hf
    rw [Bool.and_eq_true, Bool.not_eq_true'] at h
    obtain ⟨h1, h2⟩ := h
    have h3 : fn.body.isNone = false := by cases hb : fn.body <;> simp_all
    have hp : (program).run P w = .ok P w := rfl
    simp only [callFunc, Sem.run_bind, hp, Result.andThen_ok, hf, h1, Bool.false_eq_true, if_false, h3, Sem.run_pure]
theorem calleeOf_out {v : Value} {g : FuncId} {fi ca : Array Value} (h : calleeOf v = some (g, fi, ca)) : v = .func (.func g) fi ca := by
  unfold calleeOf at h
  split at h
  · cases h; rfl
  · cases h
theorem dEff_wp {E : Env} {o : Oper} {w : World} {K : Value → World → Prop} {C : List PanicEntry → World → Prop} {a : Act} {next : Act → World → Prop} {Q : Exit → Act → World → Prop}
    (h : dEff P E o w K C) (he : a.eval = ev E) (hk : ∀ v w', K v w' → next (a.put o.dst v) w') (hc : ∀ ch w', C ch w' → Q (.panic ch) a w') : o.wp P a w next Q := by
  have typed : ∀ {s : Sem Value}, runTyped P s o.type w K → (∀ v w', s.run P w = .ok v w' → (execOp a.eval o).run P w = .ok (.value v) w') → o.wp P a w next Q := by
    intro s hs hr
    obtain ⟨v, w', h1, h2⟩ := hs
    obtain ⟨u, hu, hK⟩ := exT_out h2
    unfold Oper.wp
    rw [hr v w' h1]
    exact hk _ _ (hu ▸ hK)
  unfold dEff at h
  split at h
  · rename_i f args ats ho
    split at h
    · rename_i g fi ca hf
      have hfv := calleeOf_out hf
      obtain ⟨hcall, hcs⟩ := h
      unfold Oper.wp
      have : (execOp a.eval o).run P w = .ok (.enter g (fi ++ args.map (ev E) ++ ca)) w := by
        unfold execOp
        simp only [ho, resolve, he, hfv, Deferred.ofValue, Sem.run_bind, Sem.run_pure, Result.andThen_ok, invoke, callable_run hcall]
      rw [this]
      refine Calls.mono hcs fun e w' hh => ?_
      cases e with
      | returned v => obtain ⟨u, hu, hK⟩ := exR_out hh; exact hk _ _ (hu ▸ hK)
      | panicked ch => exact hc _ _ hh
      | outgrown => exact hh.elim
    · exact h.elim
  · rename_i args ats ho
    refine typed h fun v w' hr => ?_
    unfold execOp
    simp only [ho, he, resolve, invoke, builtin, Sem.run_bind, Sem.run_pure, Result.andThen_ok, hr]
  · rename_i args ats ho
    refine typed h fun v w' hr => ?_
    unfold execOp
    simp only [ho, he, resolve, invoke, builtin, Sem.run_bind, Sem.run_pure, Result.andThen_ok, hr]
  · rename_i x ho
    obtain ⟨t, y, hx, hC⟩ := h
    unfold Oper.wp
    have : (execOp a.eval o).run P w = .halt (.panic (.iface t y)) w := by
      unfold execOp
      simp only [ho, he, hx, Instr.panic, Sem.run_bind]
      rfl
    rw [this]
    exact hc _ _ hC
  · rename_i t l c ho
    refine typed h fun v w' hr => ?_
    unfold execOp
    simp only [ho, he]
    exact execV hr
  · rename_i src dst x ho
    refine typed h fun v w' hr => ?_
    unfold execOp
    simp only [ho, he]
    exact execV hr
  · rename_i t x y ho
    split at h
    · rename_i m ht
      split at h
      · rename_i p vs hx hy
        rcases p with _ | ad
        · exact h.elim
        obtain ⟨hl, h⟩ := cond_false_out (show cond _ _ False from h)
        rw [Bool.and_eq_true] at hl
        obtain ⟨hn, h⟩ := h
        obtain ⟨w', hr, hK⟩ := storeCells_run (P := P) vs.toList 0 w h
        have hsz : vs.size = P.cellsOf t := by
          have := eq_of_beq hl.1
          rw [← this, ← hn]
          simp
        unfold Oper.wp
        have : (execOp a.eval o).run P w = .ok .skip w' := by
          unfold execOp
          simp only [ho, he, hx, hy, Instr.storeAt, Instr.sureAddr, storeVar, Sem.run_bind, Sem.run_pure, Result.andThen_ok, run_sizeOf' hl.2, Value.cells, hsz, ne_eq, not_true_eq_false, if_false, hr]
        rw [this]
        exact hk _ _ hK
      · exact h.elim
    · split at h
      · rename_i p hx
        rcases p with _ | ad
        · exact h.elim
        obtain ⟨hl, h⟩ := cond_false_out (show cond _ _ False from h)
        rw [Bool.and_eq_true] at hl
        have hsz : 1 = P.cellsOf t := eq_of_beq hl.1
        have a0 : Addr.add ad 0 = ad := rfl
        have run : ∀ v : Value, ev E y = v → v.cells = #[v] → v.oneCell' = true → StF w ad v (fun w' => K undef w') → o.wp P a w next Q := fun v hy hv h1 hst => by
          obtain ⟨w', hr, hK⟩ := storeCells_run (P := P) [v] 0 w (show StL w ad 0 [v] (fun w' => K undef w') from ⟨h1, hst⟩)
          unfold Oper.wp
          have : (execOp a.eval o).run P w = .ok .skip w' := by
            unfold execOp
            simp only [ho, he, hx, hy, Instr.storeAt, Instr.sureAddr, storeVar, Sem.run_bind, Sem.run_pure, Result.andThen_ok, run_sizeOf' hl.2, hv]
            rw [← hsz]
            simp only [List.size_toArray, List.length_cons, List.length_nil, ne_eq, not_true_eq_false, if_false, Nat.zero_add]
            rw [hr]
            rfl
          rw [this]
          exact hk _ _ hK
        unfold StAny at h
        split at h
        · rename_i hy
          exact run _ hy rfl rfl h
        · rename_i t' x' hy
          exact run _ hy rfl rfl h
        · exact h.elim
      · exact h.elim
    · have hg := Nc_run _ h
      unfold Oper.wp
      rw [he]
      generalize (execOp (ev E) o).run P w = r at *
      cases r with
      | ok nx w' => cases nx <;> first | exact hk _ _ hg | exact hg.elim
      | halt x w' => cases x <;> first | exact hc _ _ hg | exact hg.elim
  · have hg := Nc_run _ h
    unfold Oper.wp
    rw [he]
    generalize (execOp (ev E) o).run P w = r at *
    cases r with
    | ok nx w' => cases nx <;> first | exact hk _ _ hg | exact hg.elim
    | halt x w' => cases x <;> first | exact hc _ _ hg | exact hg.elim
theorem value_wp {E : Env} {o : Oper} {w : World} {v : Value} {a : Act} {next : Act → World → Prop} {Q : Exit → Act → World → Prop}
    (h : (execOp (ev E) o).run P w = .ok (.value v) w) (he : a.eval = ev E) (hk : next (a.put o.dst v) w) : o.wp P a w next Q := by
  unfold Oper.wp
  rw [he, h]
  exact hk
theorem load_exec {E : Env} {o : Oper} {t : TypeId} {x : Operand} (ho : o.op = .load t x) {v : Value} {w : World} (hr : (Instr.loadAt t (ev E x)).run P w = .ok v w) : (execOp (ev E) o).run P w = .ok (.value v) w := by
  unfold execOp
  simp only [ho]
  exact execV hr
theorem dOp_wp {E : Env} {o : Oper} {w : World} {K : Value → World → Prop} {C : List PanicEntry → World → Prop} {a : Act} {next : Act → World → Prop} {Q : Exit → Act → World → Prop}
    (h : dOp P E o w K C) (he : a.eval = ev E) (hk : ∀ v w', K v w' → next (a.put o.dst v) w') (hc : ∀ ch w', C ch w' → Q (.panic ch) a w') : o.wp P a w next Q := by
  unfold dOp at h
  split at h
  · rename_i t x ho
    obtain ⟨v, hK, hr⟩ := wLoad_run h
    exact value_wp (load_exec ho hr) he (hk _ _ hK)
  · cases hp : isPure P o.op <;> rw [hp] at h
    · exact dEff_wp h he hk hc
    · obtain ⟨v, hK, hr⟩ := dPure_run (show dPure P E o fun v => K v w from h)
      exact value_wp (hr w) he (hk _ _ hK)
end
end Go.Proofs.YtkfdkcclojepnaaGreat
