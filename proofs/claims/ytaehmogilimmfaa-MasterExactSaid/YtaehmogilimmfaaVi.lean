/- The engine, seventh part: a function's results, and the call of a function by its denotation. Conditions: none. -/
import Derived.Test.YtaehmogilimmfaaVh
namespace Go.Proofs.Ytaehmogilimmfaa
open Go Go.RowKit

section
variable (P : Program)

/-- The results, one by one. -/
def resL : List ResultVar → Env → World → (List Value → Prop) → Prop
  | [], _, _, K => K []
  | .tmp t :: r, E, w, K => resL r E w fun vs => K (E t :: vs)
  | .cell a t :: r, E, w, K => wLoad P t (E a) w fun v => resL r E w fun vs => K (v :: vs)

def oneOr : List Value → Value
  | [v] => v
  | vs => .tuple vs.toArray

def retE (l : List ResultVar) (R : Ending → World → Prop) (E : Env) (w : World) : Prop := resL P l E w fun vs => R (.returned (oneOr vs)) w
end

section
variable {P : Program}

def resSem (tmps : Array Value) : ResultVar → Sem Value
  | .tmp t => pure (tmps.getD t undef)
  | .cell a t => do loadVar t (← asAddr (tmps.getD a undef))

theorem resL_run {a : Act} {E : Env} (he : ∀ t, a.tmps.getD t undef = E t) {w : World} : ∀ {l : List ResultVar} {K : List Value → Prop}, resL P l E w K → ∃ vs, (l.mapM (resSem a.tmps)).run P w = .ok vs w ∧ K vs
  | [], K, h => ⟨[], rfl, h⟩
  | .tmp t :: r, K, h => by
    obtain ⟨vs, hr, hk⟩ := resL_run he (l := r) h
    refine ⟨_, ?_, hk⟩
    simp only [List.mapM_cons, resSem, Sem.run_bind, Sem.run_pure, Result.andThen_ok, hr, he]
  | .cell c t :: r, K, h => by
    obtain ⟨v, hk, hl⟩ := wLoad_run h
    obtain ⟨vs, hr, hk⟩ := resL_run he (l := r) hk
    refine ⟨_, ?_, hk⟩
    have hv : (do loadVar t (← asAddr (E c)) : Sem Value).run P w = .ok v w := by
      have hx : ∃ ad, E c = .pointer (some ad) := by
        have h' : wLoad P t (E c) w fun v => resL P r E w fun vs => K (v :: vs) := h
        unfold wLoad at h'
        split at h'
        · rename_i p hp
          rcases p with _ | a
          · exact h'.elim
          · exact ⟨a, hp⟩
        · exact h'.elim
      obtain ⟨ad, hx⟩ := hx
      rw [hx] at hl ⊢
      simpa only [Instr.loadAt, Instr.sureAddr, asAddr] using hl
    simp only [List.mapM_cons, resSem, he, Sem.run_bind (x := do loadVar t (← asAddr (E c))), hv, Result.andThen_ok]
    simp only [Sem.run_bind, hr, Result.andThen_ok, Sem.run_pure]

theorem results_run {fn : Func} {l : List ResultVar} (hl : fn.results = l.toArray) {a : Act} {E : Env} (he : ∀ t, a.tmps.getD t undef = E t) {w : World} {K : List Value → Prop} (h : resL P l E w K) :
    ∃ vs, (results fn a.tmps).run P w = .ok (oneOr vs) w ∧ K vs := by
  obtain ⟨vs, hr, hk⟩ := resL_run he h
  refine ⟨vs, ?_, hk⟩
  have hm : (fn.results.mapM (resSem a.tmps)).run P w = .ok vs.toArray w := by
    rw [hl, List.mapM_toArray]
    simp only [Sem.run_map, hr, Result.andThen_ok]
  have hd : results fn a.tmps = (do let vs ← fn.results.mapM (resSem a.tmps); pure (if h : vs.size = 1 then vs[0] else .tuple vs)) := by
    unfold results
    congr 1
  rw [hd]
  simp only [Sem.run_bind, hm, Result.andThen_ok, Sem.run_pure]
  congr 1
  match vs with
  | [] => rfl
  | [v] => rfl
  | v :: u :: r => simp [oneOr]

/-- A call of a function, by its denotation. -/
theorem calls_of_den {A : Ann} {f : FuncId} {fn : Func} {c : Code} {l : List ResultVar} {args : List Value} {w : World} {R : Ending → World → Prop}
    (hm : P.follows .mixedOrders = true) (hf : P.funcs[f]? = some fn) (hb : fn.body = some c) (hl : fn.results = l.toArray) (hok : okC fn.ntmps c = true) (hh : okH c = true) (hn : args.length ≤ fn.ntmps)
    (h : den P A c (retE P l R) (fun _ _ _ => False) (retE P l R) (fun ch w => R (.panicked ch) w) (fun t => args.getD t undef) w) : Calls P f args.toArray w R := by
  refine calls_of_wp hf hb ?_
  have hs : St fn.ntmps { tmps := args.toArray ++ Array.replicate (fn.ntmps - args.toArray.size) undef, defers := [] } (fun t => args.getD t undef) [] := by
    refine ⟨?_, fun t => ?_, rfl⟩
    · simp; omega
    · simp only [Array.getD_eq_getD_getElem?, List.getD_eq_getElem?_getD, Array.getElem?_append, List.size_toArray]
      split
      · simp
      · rename_i ht
        rw [List.getElem?_eq_none (by omega)]
        simp only [Array.getElem?_replicate]
        split <;> rfl
  refine wp_mono (den_wp hm c _ _ _ _ _ _ _ hok hh hs h) fun e a' w' hq => ?_
  cases e with
  | normal =>
    obtain ⟨E', h1, _, h3⟩ := hq
    obtain ⟨vs, hr, hk⟩ := results_run hl h1.at_ h3
    exact ⟨h1.defers, _, hr, hk⟩
  | ret =>
    obtain ⟨E', h1, _, h3⟩ := hq
    obtain ⟨vs, hr, hk⟩ := results_run hl h1.at_ h3
    exact ⟨h1.defers, _, hr, hk⟩
  | panic ch => exact hq
  | exit i => obtain ⟨_, _, _, h3⟩ := hq; exact h3
  | goto l => exact hq
  | outgrown => exact hq.elim
end
end Go.Proofs.Ytaehmogilimmfaa
