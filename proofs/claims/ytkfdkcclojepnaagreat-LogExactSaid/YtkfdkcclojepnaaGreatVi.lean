/- The engine, seventh part: a function's results, and the call of a function by its denotation. Conditions: none. -/
import Derived.Test.YtkfdkcclojepnaaGreatVh
import Derived.Recover
namespace Go.Proofs.YtkfdkcclojepnaaGreat
open Go Go.RowKit
section
variable (P : Program)
def resL : List ResultVar → Env → World → (List Value → Prop) → Prop
  | [], _, _, K => K []
  | .tmp t :: r, E, w, K => resL r E w fun vs => K (E t :: vs)
  | .cell a t :: r, E, w, K => wLoad P t (E a) w fun v => resL r E w fun vs => K (v :: vs)
def oneOr : List Value → Value
  | [v] => v
  | vs => .tuple vs.toArray
def retE (l : List ResultVar) (R : Po) (E : Env) (w : World) : Prop := resL P l E w fun vs => R (.returned (oneOr vs)) w
end
section
variable {P : Program}
def resSem (tmps : Array Value) : ResultVar → Sem Value
  | .tmp t => pure (tmps.getD t undef)
  | .cell a t => do loadVar t (← asAddr (tmps.getD a undef))
theorem resL_run {a : Act} {E : Env} (he : ∀ t, a.tmps.getD t undef = E t) {w : World} : ∀ {l : List ResultVar} {K : List Value → Prop}, resL P l E w K → ∃ vs, (l.mapM (resSem a.tmps)).run P w = .ok vs w ∧ K vs
  | [], K, h => ⟨[], rfl, h⟩
  | .tmp t :: r, K, h => by
    obtain ⟨vs, hr, hk⟩ := resL_run he (l := r) h
    refine ⟨_, ?_, hk⟩
    simp only [List.mapM_cons, resSem, Sem.run_bind, Sem.run_pure, Result.andThen_ok, hr, he]
  | .cell c t :: r, K, h => by
    obtain ⟨v, hk, hl⟩ := wLoad_run h
    obtain ⟨vs, hr, hk⟩ := resL_run he (l := r) hk
    refine ⟨_, ?_, hk⟩
    have hv : (do loadVar t (← asAddr (E c)) : Sem Value).run P w = .ok v w := by
      have hx : ∃ ad, E c = .pointer (some ad) := by
        have h' : wLoad P t (E c) w fun v => resL P r E w fun vs => K (v :: vs) := h
        unfold wLoad at h'
        split at h'
        · rename_i p hp
          rcases p with _ | a
          · exact h'.elim
          · exact ⟨a, hp⟩
        · exact h'.elim
      obtain ⟨ad, hx⟩ := hx
      rw [hx] at hl ⊢
      simpa only [Instr.loadAt, Instr.sureAddr, asAddr] using hl
    simp only [List.mapM_cons, resSem, he, Sem.run_bind (x := do loadVar t (← asAddr (E c))), hv, Result.andThen_ok]
    simp only [Sem.run_bind, hr, Result.andThen_ok, Sem.run_pure]
theorem results_run {fn : Func} {l : List ResultVar} (hl : fn.results = l.toArray) {a : Act} {E : Env} (he : ∀ t, a.tmps.getD t undef = E t) {w : World} {K : List Value → Prop} (h : resL P l E w K) :
    ∃ vs, (results fn a.tmps).run P w = .ok (oneOr vs) w ∧ K vs := by
  obtain ⟨vs, hr, hk⟩ := resL_run he h
  refine ⟨vs, ?_, hk⟩
  have hm : (fn.results.mapM (resSem a.tmps)).run P w = .ok vs.toArray w := by
    rw [hl, List.mapM_toArray]
    simp only [Sem.run_map, hr, Result.andThen_ok]
  have hd : results fn a.tmps = (do let vs ← fn.results.mapM (resSem a.tmps); pure (if h : vs.size = 1 then vs[0] else .tuple vs)) := by
    unfold results
    congr 1
  rw [hd]
  simp only [Sem.run_bind, hm, Result.andThen_ok, Sem.run_pure]
  congr 1
  match vs with
  | [] => rfl
  | [v] => rfl
  | v :: u :: r => simp [oneOr]
theorem st_init {n : Nat} {args : List Value} (hn : args.length ≤ n) : St n { tmps := args.toArray ++ Array.replicate (n - args.toArray.size) undef, defers := [] } (fun t => args.getD t undef) [] := by
  refine ⟨?_, fun t => ?_, rfl⟩
  · simp; omega
  · simp only [Array.getD_eq_getD_getElem?, List.getD_eq_getElem?_getD, Array.getElem?_append, List.size_toArray]
    split
    · simp
    · rename_i ht
      rw [List.getElem?_eq_none (by omega)]
      simp only [Array.getElem?_replicate]
      split <;> rfl
theorem okM_zero : ∀ c : Code, okM 0 c = true := by
  intro c
  induction c with
  | region id ops d => simp [okM]
  | seq a b iha ihb => simp [okM, iha, ihb]
  | cond x a b iha ihb => simp [okM, iha, ihb]
  | block i b ih => simpa [okM] using ih
  | loop b ih => simpa [okM] using ih
  | scope b ih => simpa [okM] using ih
  | _ => rfl
theorem calls_of_den {A : Ann} {f : FuncId} {fn : Func} {c : Code} {l : List ResultVar} {args : List Value} {w : World} {R : Po}
    (hm : P.follows .mixedOrders = true) (hf : P.funcs[f]? = some fn) (hb : fn.body = some c) (hl : fn.results = l.toArray) (hok : okC fn.ntmps c = true) (hh : okH c = true) (hn : args.length ≤ fn.ntmps)
    (h : den P A c (retE P l R) (fun _ _ _ => False) (retE P l R) (fun _ ch w => R (.panicked ch) w) (fun t => args.getD t undef) w) : Calls P f args.toArray w R := by
  refine calls_of_wp hf hb ?_
  have hs : St fn.ntmps { tmps := args.toArray ++ Array.replicate (fn.ntmps - args.toArray.size) undef, defers := [] } (fun t => args.getD t undef) [] := by
    refine ⟨?_, fun t => ?_, rfl⟩
    · simp; omega
    · simp only [Array.getD_eq_getD_getElem?, List.getD_eq_getElem?_getD, Array.getElem?_append, List.size_toArray]
      split
      · simp
      · rename_i ht
        rw [List.getElem?_eq_none (by omega)]
        simp only [Array.getElem?_replicate]
        split <;> rfl
  refine wp_mono (den_wp (rm := 0) hm c _ _ _ _ _ _ _ hok hh (okM_zero c) (fun _ _ _ => rfl) hs h) fun e a' w' hq => ?_
  cases e with
  | normal =>
    obtain ⟨E', h1, _, h3⟩ := hq
    obtain ⟨vs, hr, hk⟩ := results_run hl h1.at_ h3
    exact ⟨h1.defers, _, hr, hk⟩
  | ret =>
    obtain ⟨E', h1, _, h3⟩ := hq
    obtain ⟨vs, hr, hk⟩ := results_run hl h1.at_ h3
    exact ⟨h1.defers, _, hr, hk⟩
  | panic ch => obtain ⟨E', h1, _, h3⟩ := hq; exact ⟨h1.defers, h3⟩
  | exit i => obtain ⟨_, _, _, h3⟩ := hq; exact h3
  | goto l => exact hq
  | outgrown => exact hq.elim
/-! ### Functions that defer one call of a closure, ahead of all else -/
def rmL : List ResultVar → Nat
  | [] => 0
  | .tmp t :: r => 2 ^ t ||| rmL r
  | .cell a _ :: r => 2 ^ a ||| rmL r
theorem resL_congr {w : World} {E E' : Env} : ∀ {l : List ResultVar}, (∀ t, (rmL l).testBit t = true → E t = E' t) → resL P l E w = resL P l E' w
  | [], _ => rfl
  | .tmp t :: r, h => by
    funext K
    have h0 : E t = E' t := h t (by simp [rmL])
    have ih := resL_congr (w := w) (l := r) (E := E) (E' := E') fun u hu => h u (by simp [rmL, hu])
    simp only [resL, h0, ih]
  | .cell a t :: r, h => by
    funext K
    have h0 : E a = E' a := h a (by simp [rmL])
    have ih := resL_congr (w := w) (l := r) (E := E) (E' := E') fun u hu => h u (by simp [rmL, hu])
    simp only [resL, h0, ih]
theorem retE_congr {R : Po} {E E' : Env} {l : List ResultVar} (h : ∀ t, (rmL l).testBit t = true → E t = E' t) : retE P l R E = retE P l R E' := by
  funext w
  unfold retE
  rw [resL_congr h]
def DefE (P : Program) (g : FuncId) (args : Array Value) (u : FrameMode) (K : World → Prop) (R : Po) (w : World) : Prop :=
  callable P g = true ∧ CallsD P g args u w fun
    | .returned _, u', w' => (match settle u' with | .returning => K w' | .panicking ch => R (.panicked ch) w' | .run => False)
    | .panicked chain, u', w' => (match raised u' chain with | .returning => K w' | .panicking ch => R (.panicked ch) w' | .run => False)
    | .outgrown, _, w' => R .outgrown w'
def PanD (P : Program) (g : FuncId) (args : Array Value) (K : World → Prop) (R : Po) : List PanicEntry → World → Prop := fun ch w => DefE P g args (.panicking ch) K R w
theorem leaves_of {fn : Func} {l : List ResultVar} (hl : fn.results = l.toArray) {g : FuncId} {xs : Array Value} {a : Act} {E : Env} (he : ∀ t, a.tmps.getD t undef = E t) {u : FrameMode} (hu : u ≠ .run) {R : Po} {w : World}
    (h : DefE P g xs u (retE P l R E) R w) : Leaves P fn a.tmps R [{ target := .fn (.func g) xs, args := #[] }] u w := by
  obtain ⟨hc, h⟩ := h
  have last : ∀ (u' : FrameMode) (w' : World), (match u' with | .returning => retE P l R E w' | .panicking ch => R (.panicked ch) w' | .run => False) → Leaves P fn a.tmps R [] u' w' := fun u' w' hh => by
    cases u' with
    | run => exact hh
    | panicking ch => exact hh
    | returning =>
      obtain ⟨vs, hr, hk⟩ := results_run hl he hh
      exact ⟨_, hr, hk⟩
  refine leaves_cons (f := g) (args := xs) hu ?_ (h.mono fun e u' w' hh => ?_)
  · have := callable_run hc xs w
    simpa [invoke] using this
  · cases e with
    | returned v => exact last _ _ hh
    | panicked ch => exact last _ _ hh
    | outgrown => exact hh
theorem calls_of_den_defer {A : Ann} {f : FuncId} {fn : Func} {r0 rest : Code} {id1 t : Nat} {cs : List Nat} {g : FuncId} {o1 o2 : Oper} {ats : Array TypeId} {l : List ResultVar} {args : List Value} {w : World} {R : Po}
    (hm : P.follows .mixedOrders = true) (hf : P.funcs[f]? = some fn) (hb : fn.body = some (.seq r0 (.seq (.region id1 #[o1, o2] false) rest)))
    (h1 : o1.op = .makeFunc (.func g) #[] (cs.map Operand.tmp).toArray) (d1 : o1.dst = some t) (g1 : o1.guard = none) (h2 : o2.op = .defer { callee := .value (.tmp t), args := #[], argTypes := ats }) (d2 : o2.dst = none) (g2 : o2.guard = none) (ht : t < fn.ntmps)
    (hl : fn.results = l.toArray) (hok0 : okC fn.ntmps r0 = true) (hh0 : okH r0 = true) (hok : okC fn.ntmps rest = true) (hh : okH rest = true) (hM : okM (rmL l) rest = true) (hn : args.length ≤ fn.ntmps)
    (h : den P A r0 (fun E w => den P A rest (fun E' w' => DefE P g (cs.map E).toArray .returning (retE P l R E') R w') (fun _ _ _ => False) (fun E' w' => DefE P g (cs.map E).toArray .returning (retE P l R E') R w') (fun E' => PanD P g (cs.map E).toArray (retE P l R E') R) (upd E t (.func (.func g) #[] (cs.map E).toArray)) w)
      (fun _ _ _ => False) (fun _ _ => False) (fun _ _ _ => False) (fun t => args.getD t undef) w) : Calls P f args.toArray w R := by
  refine calls_of_wp_defers hf hb ?_
  have hs : St fn.ntmps { tmps := args.toArray ++ Array.replicate (fn.ntmps - args.toArray.size) undef, defers := [] } (fun t => args.getD t undef) [] := by
    refine ⟨?_, fun t => ?_, rfl⟩
    · simp; omega
    · simp only [Array.getD_eq_getD_getElem?, List.getD_eq_getElem?_getD, Array.getElem?_append, List.size_toArray]
      split
      · simp
      · rename_i ht
        rw [List.getElem?_eq_none (by omega)]
        simp only [Array.getElem?_replicate]
        split <;> rfl
  refine wp_seq (wp_mono (den_wp (rm := 0) hm r0 _ _ _ _ _ _ _ hok0 hh0 (okM_zero r0) (fun _ _ _ => rfl) hs h) fun e a' w' hq => ?_)
  cases e with
  | normal =>
    obtain ⟨E, hE, _, h⟩ := hq
    have run1 : (execOp a'.eval o1).run P w' = .ok (.value (.func (.func g) #[] (cs.map E).toArray)) w' := by
      unfold execOp
      simp only [h1, hE.eval, Instr.makeFunc, Sem.run_bind, Sem.run_pure, Result.andThen_ok]
      have hmap : (cs.map Operand.tmp).toArray.map (ev E) = (cs.map E).toArray := by
        apply Array.ext'
        simp [ev, Function.comp_def]
      simp [hmap]
    have hE1 : St fn.ntmps (a'.put o1.dst (.func (.func g) #[] (cs.map E).toArray)) (upd E t (.func (.func g) #[] (cs.map E).toArray)) [] := by
      have hdst : dstOk fn.ntmps o1.dst = true := by rw [d1]; simpa [dstOk] using ht
      have := hE.put hdst (.func (.func g) #[] (cs.map E).toArray)
      rw [d1] at this ⊢
      exact this
    have run2 : (execOp (a'.put o1.dst (.func (.func g) #[] (cs.map E).toArray)).eval o2).run P w' = .ok (.defer { target := .fn (.func g) (cs.map E).toArray, args := #[] }) w' := by
      unfold execOp
      simp only [h2, hE1.eval, resolve, Sem.run_bind, Sem.run_pure]
      simp [ev, upd, Deferred.ofValue]
    refine wp_seq (wp_region_list ?_)
    show wpList P _ _ [o1, o2] a' w'
    unfold wpList
    rw [if_pos (wanted_none g1 _)]
    refine .inl ?_
    unfold Oper.wp
    rw [run1]
    show wpList P _ _ [o2] _ w'
    unfold wpList
    rw [if_pos (wanted_none g2 _)]
    refine .inl ?_
    unfold Oper.wp
    rw [run2, Oper.upon_defer, d2]
    unfold wpList
    have hE2 : St fn.ntmps ({ a'.put o1.dst (.func (.func g) #[] (cs.map E).toArray) with defers := [{ target := .fn (.func g) (cs.map E).toArray, args := #[] }] } : Act) (upd E t (.func (.func g) #[] (cs.map E).toArray)) [{ target := .fn (.func g) (cs.map E).toArray, args := #[] }] := ⟨hE1.size, hE1.at_, rfl⟩
    have hd1 : (a'.put o1.dst (.func (.func g) #[] (cs.map E).toArray)).defers = [] := hE1.defers
    rw [hd1]
    show Code.wp P rest _ ({ a'.put o1.dst (.func (.func g) #[] (cs.map E).toArray) with defers := [{ target := .fn (.func g) (cs.map E).toArray, args := #[] }] } : Act) w'
    refine wp_mono (den_wp (rm := rmL l) hm rest _ _ _ _ _ _ _ hok hh hM (fun E1 E2 hh => ?_) hE2 h) fun e a2 w2 hq => ?_
    · show PanD P g (cs.map E).toArray (retE P l R E1) R = PanD P g (cs.map E).toArray (retE P l R E2) R
      rw [retE_congr hh]
    · cases e with
      | normal =>
        obtain ⟨E', q1, _, q3⟩ := hq
        show Leaves P fn a2.tmps R a2.defers .returning w2
        rw [q1.defers]
        exact leaves_of hl q1.at_ (fun hh => by cases hh) q3
      | ret =>
        obtain ⟨E', q1, _, q3⟩ := hq
        show Leaves P fn a2.tmps R a2.defers .returning w2
        rw [q1.defers]
        exact leaves_of hl q1.at_ (fun hh => by cases hh) q3
      | panic ch =>
        obtain ⟨E', q1, _, q3⟩ := hq
        show Leaves P fn a2.tmps R a2.defers (.panicking ch) w2
        rw [q1.defers]
        exact leaves_of hl q1.at_ (fun hh => by cases hh) q3
      | exit i => obtain ⟨_, _, _, h3⟩ := hq; exact h3.elim
      | goto l => exact hq.elim
      | outgrown => exact hq.elim
  | ret => obtain ⟨_, _, _, h3⟩ := hq; exact h3.elim
  | panic ch => obtain ⟨_, _, _, h3⟩ := hq; exact h3.elim
  | exit i => obtain ⟨_, _, _, h3⟩ := hq; exact h3.elim
  | goto l => exact hq.elim
  | outgrown => exact hq.elim
/-! ### The closure that recovers: 'err = told(call, recover())' -/
theorem wpOpsS_op {ops : Array Oper} {Q : Exit → Act → List Frame → World → Prop} {i : Nat} {rest : List Nat} {o : Oper} {a : Act} {cs : List Frame} {w : World} (ho : ops[i]? = some o) (hg : o.guard = none)
    (h : o.wp P a w (fun a' w' => wpOpsS P ops Q rest a' cs w') (fun e a' w' => Q e a' cs w')) : wpOpsS P ops Q (i :: rest) a cs w := by
  simp only [wpOpsS, ho]
  rw [if_pos (wanted_none hg _)]
  unfold Oper.wp at h
  generalize (execOp a.eval o).run P w = r at *
  split
  · exact h.elim
  · exact h
theorem wpOpsS_rec {ops : Array Oper} {Q : Exit → Act → List Frame → World → Prop} {i : Nat} {rest : List Nat} {o : Oper} {ats : Array TypeId} {a : Act} {cs : List Frame} {w : World} (ho : ops[i]? = some o) (hg : o.guard = none)
    (hop : o.op = .call { callee := .builtin .recover, args := #[], argTypes := ats }) {v : Value} {cs' : List Frame} (hr : recoverD cs = some (v, cs') ∨ (recoverD cs = none ∧ v = .nilIface ∧ cs' = cs))
    (h : wpOpsS P ops Q rest (a.put o.dst v) cs' w) : wpOpsS P ops Q (i :: rest) a cs w := by
  simp only [wpOpsS, ho]
  rw [if_pos (wanted_none hg _)]
  have hx : (execOp a.eval o).run P w = .ok .recover w := by
    unfold execOp
    simp [hop, resolve, invoke, builtin]
  rw [hx]
  rcases hr with hr | ⟨hr, rfl, rfl⟩
  · simp only [hr]
    exact h
  · simp only [hr]
    exact h
/-! ### A closure that begins with recover; what is behind it by its denotation -/
def FinD (u : FrameMode) (K : World → Prop) (R : Po) (w : World) : Prop := match settle u with | .returning => K w | .panicking ch => R (.panicked ch) w | .run => False
def FinP (u : FrameMode) (K : World → Prop) (R : Po) (chain : List PanicEntry) (w : World) : Prop := match raised u chain with | .returning => K w | .panicking ch => R (.panicked ch) w | .run => False
theorem defE_den {A : Ann} {g : FuncId} {fn : Func} {id d1 d2 : Nat} {p1 p2 : Oper} {ats : Array TypeId} {rest : Code} {xs : List Value} {v : Value} {u u1 : FrameMode} {K : World → Prop} {R : Po} {w : World}
    (hmx : P.follows .mixedOrders = true) (hcl : callable P g = true) (hf : P.funcs[g]? = some fn) (hb : fn.body = some (.seq (.region id #[p1, p2] false) rest)) (hres : fn.results = #[])
    (o1 : p1.op = .call { callee := .builtin .recover, args := #[], argTypes := ats }) (e1 : p1.dst = some d1) (g1 : p1.guard = none)
    (o2 : p2.op = .assign (.tmp d1)) (e2 : p2.dst = some d2) (g2 : p2.guard = none) (hd1 : d1 < fn.ntmps) (hd2 : d2 < fn.ntmps) (hn : xs.length ≤ fn.ntmps)
    (hok : okC fn.ntmps rest = true) (hh : okH rest = true)
    (hrec : ∀ (c₀ : Frame) (cs : List Frame), c₀.mode = u → recoverD (c₀ :: cs) = some (v, { c₀ with mode := u1 } :: cs) ∨ (recoverD (c₀ :: cs) = none ∧ v = .nilIface ∧ u1 = u))
    (h : den P A rest (fun _ => FinD u1 K R) (fun _ _ _ => False) (fun _ => FinD u1 K R) (fun _ => FinP u1 K R) (upd (upd (fun t => xs.getD t undef) d1 v) d2 v) w) : DefE P g xs.toArray u K R w := by
  refine ⟨hcl, callsD_of_wpS hf hb fun c₀ cs hm => wpS_seq (wpS_region ?_)⟩
  have hs : St fn.ntmps { tmps := xs.toArray ++ Array.replicate (fn.ntmps - xs.toArray.size) undef, defers := [] } (fun t => xs.getD t undef) [] := st_init hn
  generalize ({ tmps := xs.toArray ++ Array.replicate (fn.ntmps - xs.toArray.size) undef, defers := [] } : Act) = a at *
  show wpOpsS P #[p1, p2] _ [0, 1] a (c₀ :: cs) w
  have hcs : ({ c₀ with mode := u } : Frame) :: cs = c₀ :: cs := by subst hm; rfl
  refine wpOpsS_rec (o := p1) rfl g1 o1 (v := v) (cs' := { c₀ with mode := u1 } :: cs) ?_ ?_
  · rcases hrec c₀ cs hm with hh | ⟨hh, hv, hu⟩
    · exact .inl hh
    · exact .inr ⟨hh, hv, by rw [hu]; exact hcs⟩
  have hs1 := hs.put (d := p1.dst) (by rw [e1]; simpa [dstOk] using hd1) v
  refine wpOpsS_op (o := p2) rfl g2 (value_wp (v := v) ?_ hs1.eval ?_)
  · unfold execOp
    simp only [o2, e1, updo]
    simp [ev, upd]
  have hs2 := hs1.put (d := p2.dst) (by rw [e2]; simpa [dstOk] using hd2) v
  unfold wpOpsS
  have hE : updo (updo (fun t => xs.getD t undef) p1.dst v) p2.dst v = upd (upd (fun t => xs.getD t undef) d1 v) d2 v := by rw [e1, e2]; rfl
  rw [← hE] at h
  refine wpS_of_wp (wp_mono (den_wp (rm := 0) hmx rest _ _ _ _ _ _ _ hok hh (okM_zero rest) (fun _ _ _ => rfl) hs2 h) fun e a' w' hq => ?_)
  cases e with
  | normal =>
    obtain ⟨E', q1, _, q3⟩ := hq
    obtain ⟨vs, hr, _⟩ := results_run (P := P) (fn := fn) (l := []) (by simpa using hres) q1.at_ (w := w') (K := fun _ => True) trivial
    exact ⟨q1.defers, u1, rfl, oneOr vs, hr, q3⟩
  | ret =>
    obtain ⟨E', q1, _, q3⟩ := hq
    obtain ⟨vs, hr, _⟩ := results_run (P := P) (fn := fn) (l := []) (by simpa using hres) q1.at_ (w := w') (K := fun _ => True) trivial
    exact ⟨q1.defers, u1, rfl, oneOr vs, hr, q3⟩
  | panic ch =>
    obtain ⟨E', q1, _, q3⟩ := hq
    exact ⟨q1.defers, u1, rfl, q3⟩
  | exit i => obtain ⟨_, _, _, h3⟩ := hq; exact h3.elim
  | goto l => exact hq.elim
  | outgrown => exact hq.elim
end
end Go.Proofs.YtkfdkcclojepnaaGreat
