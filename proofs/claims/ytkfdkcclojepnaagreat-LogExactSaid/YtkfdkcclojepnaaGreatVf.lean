/- The engine, fourth part: regions, code, functions: 'den' and its soundness. Conditions: none. -/
import Derived.Test.YtkfdkcclojepnaaGreatVe
namespace Go.Proofs.YtkfdkcclojepnaaGreat
open Go Go.RowKit
/-! ### Which temporaries a piece of code writes -/
def bitOf : Option Nat → Nat
  | none => 0
  | some d => 2 ^ d
def asgL : List Oper → Nat
  | [] => 0
  | o :: r => bitOf o.dst ||| asgL r
def asg : Code → Nat
  | .region _ ops _ => asgL ops.toList
  | .seq a b => asg a ||| asg b
  | .cond _ a b => asg a ||| asg b
  | .block _ b => asg b
  | .loop b => asg b
  | .scope b => asg b
  | _ => 0
def okL (n : Nat) (l : List Oper) : Bool := l.all fun o => dstOk n o.dst
def okC (n : Nat) : Code → Bool
  | .region _ ops _ => okL n ops.toList
  | .seq a b => okC n a && okC n b
  | .cond _ a b => okC n a && okC n b
  | .block _ b => okC n b
  | .loop b => okC n b
  | .scope b => okC n b
  | .skip | .exit _ | .ret | .label _ => true
  | _ => false
def Fr (m : Nat) (E E' : Env) : Prop := ∀ t, m.testBit t = false → E' t = E t
theorem Fr.refl (m : Nat) (E : Env) : Fr m E E := fun _ _ => rfl
theorem Fr.trans {m k : Nat} {E E1 E2 : Env} (h : Fr m E E1) (h' : Fr k E1 E2) : Fr (m ||| k) E E2 := fun t ht => by
  rw [Nat.testBit_or, Bool.or_eq_false_iff] at ht
  rw [h' t ht.2, h t ht.1]
theorem Fr.left {m k : Nat} {E E1 : Env} (h : Fr m E E1) : Fr (m ||| k) E E1 := fun t ht => by
  rw [Nat.testBit_or, Bool.or_eq_false_iff] at ht
  exact h t ht.1
theorem Fr.right {m k : Nat} {E E1 : Env} (h : Fr k E E1) : Fr (m ||| k) E E1 := fun t ht => by
  rw [Nat.testBit_or, Bool.or_eq_false_iff] at ht
  exact h t ht.2
theorem Fr.trans1 {m : Nat} {E E1 E2 : Env} (h : Fr m E E1) (h' : Fr m E1 E2) : Fr m E E2 := fun t ht => by rw [h' t ht, h t ht]
theorem Fr.updo (E : Env) (d : Option Nat) (v : Value) : Fr (bitOf d) E (updo E d v) := by
  intro t ht
  cases d with
  | none => rfl
  | some d =>
    simp only [bitOf, Nat.testBit_two_pow, decide_eq_false_iff_not] at ht
    have hb : Nat.beq t d = false := by
      rw [Bool.eq_false_iff]; intro hc; exact ht (Nat.eq_of_beq_eq_true hc).symm
    simp only [Go.Proofs.YtkfdkcclojepnaaGreat.updo, upd, hb, cond_false]
theorem upd_self {E : Env} {d : Nat} {v : Value} (h : E d = v) : upd E d v = E := by
  funext t
  unfold upd
  cases hb : Nat.beq t d
  · rfl
  · rw [Nat.eq_of_beq_eq_true hb, h]; rfl
def dstOf (ops : Array Oper) (j : Nat) : Option Nat := (ops[j]?).bind (·.dst)
section
variable (P : Program)
def dOps (ops : Array Oper) : List Oper → (Env → World → Prop) → (Env → List PanicEntry → World → Prop) → Env → World → Prop
  | [], N, _, E, w => N E w
  | o :: r, N, C, E, w =>
    match o.guard with
    | none => dOp P E o w (fun v w' => dOps ops r N C (updo E o.dst v) w') (C E)
    | some (j, b) =>
      match dstOf ops j with
      | none => False
      | some d =>
        match E d with
        | .bool t => cond t
            (cond b (dOp P (upd E d (.bool true)) o w (fun v w' => dOps ops r N C (updo (upd E d (.bool true)) o.dst v) w') (C E)) (dOps ops r N C (updo (upd E d (.bool true)) o.dst undef) w))
            (cond b (dOps ops r N C (updo (upd E d (.bool false)) o.dst undef) w) (dOp P (upd E d (.bool false)) o w (fun v w' => dOps ops r N C (updo (upd E d (.bool false)) o.dst v) w') (C E)))
        | _ => dOps ops r N C (updo E o.dst undef) w
def dStill (Ld : TypeId → Value → (Value → Prop) → Prop) (E : Env) (o : Oper) (K : Value → Prop) : Prop :=
  match o.op with
  | .load t x => Ld t (ev E x) K
  | op => cond (isPure P op) (dPure P E o K) False
def dQ (Ld : TypeId → Value → (Value → Prop) → Prop) (ops : Array Oper) : List Oper → (Env → Prop) → Env → Prop
  | [], N, E => N E
  | o :: r, N, E =>
    match o.guard with
    | none => dStill P Ld E o fun v => dQ Ld ops r N (updo E o.dst v)
    | some (j, b) =>
      match dstOf ops j with
      | none => False
      | some d =>
        match E d with
        | .bool t => cond t
            (cond b (dStill P Ld (upd E d (.bool true)) o fun v => dQ Ld ops r N (updo (upd E d (.bool true)) o.dst v)) (dQ Ld ops r N (updo (upd E d (.bool true)) o.dst undef)))
            (cond b (dQ Ld ops r N (updo (upd E d (.bool false)) o.dst undef)) (dStill P Ld (upd E d (.bool false)) o fun v => dQ Ld ops r N (updo (upd E d (.bool false)) o.dst v)))
        | _ => dQ Ld ops r N (updo E o.dst undef)
end
section
variable {P : Program}
theorem yielded_of {n : Nat} {a : Act} {E : Env} {D : List Deferred} (h : St n a E D) {ops : Array Oper} {j d : Nat} (hd : dstOf ops j = some d) :
    yielded ops a.tmps j = (match E d with | .bool b => some b | _ => none) := by
  unfold yielded
  have hd' : (ops[j]?).bind (·.dst) = some d := hd
  rw [hd', ← h.at_ d]
  simp only [Option.bind_some]
  by_cases hl : d < a.tmps.size
  · have : a.tmps[d]? = some a.tmps[d] := Array.getElem?_eq_getElem hl
    simp only [this, Array.getD_eq_getD_getElem?, Option.getD_some]
    cases a.tmps[d] <;> rfl
  · have : a.tmps[d]? = none := Array.getElem?_eq_none (Nat.le_of_not_lt hl)
    simp only [this, Array.getD_eq_getD_getElem?, Option.getD_none, undef]
theorem wanted_none {o : Oper} (h : o.guard = none) (y : Nat → Option Bool) : Region.wanted o y = true := by simp [Region.wanted, h]
theorem wanted_some {o : Oper} {j : Nat} {b : Bool} (h : o.guard = some (j, b)) (y : Nat → Option Bool) : Region.wanted o y = (y j == some b) := by simp [Region.wanted, h]
def RPost (n m : Nat) (E : Env) (D : List Deferred) (N : Env → World → Prop) (C : Env → List PanicEntry → World → Prop) : Exit → Act → World → Prop
  | .normal, a, w => ∃ E', St n a E' D ∧ Fr m E E' ∧ N E' w
  | .panic ch, a, w => ∃ E', St n a E' D ∧ Fr m E E' ∧ C E' ch w
  | _, _, _ => False
theorem RPost.step {n m k : Nat} {E E1 : Env} {D : List Deferred} {N : Env → World → Prop} {C : Env → List PanicEntry → World → Prop} (hf : Fr m E E1) {e : Exit} {a : Act} {w : World} (h : RPost n k E1 D N C e a w) : RPost n (m ||| k) E D N C e a w := by
  cases e <;> first
    | exact h
    | (obtain ⟨E', h1, h2, h3⟩ := h; exact ⟨E', h1, hf.trans h2, h3⟩)
theorem wpList_mono {ops : Array Oper} {Q Q' : Exit → Act → World → Prop} (hQ : ∀ e a w, Q e a w → Q' e a w) : ∀ (l : List Oper) (a : Act) (w : World), wpList P ops Q l a w → wpList P ops Q' l a w := by
  intro l
  induction l with
  | nil => exact fun a w h => hQ _ _ _ h
  | cons o r ih =>
    intro a w h
    unfold wpList at h ⊢
    split
    · rename_i hw
      rw [if_pos hw] at h
      rcases h with h | ⟨h, a', w', h'⟩
      · refine .inl ?_
        unfold Oper.wp at *
        generalize (execOp a.eval o).run P w = res at *
        cases res with
        | ok nx w' =>
          cases nx <;> simp only [Oper.upon] at h ⊢ <;> first
            | exact ih _ _ h
            | (refine Calls.mono h fun e w'' hh => ?_
               cases e with
               | returned v => exact ih _ _ hh
               | panicked c => exact hQ _ _ _ hh
               | outgrown => obtain ⟨a', w', h'⟩ := hh; exact ⟨a', w', hQ _ _ _ h'⟩)
            | exact Rows.mono h fun v w'' hh => ih _ _ hh
        | halt x w' => cases x <;> simp only [Oper.upon] at h ⊢; exact hQ _ _ _ h
      · exact .inr ⟨h, a', w', hQ _ _ _ h'⟩
    · rename_i hw
      rw [if_neg hw] at h
      exact ih _ _ h
theorem okL_cons {n : Nat} {o : Oper} {r : List Oper} (h : okL n (o :: r) = true) : dstOk n o.dst = true ∧ okL n r = true := by
  simpa [okL, List.all_cons] using h
theorem dOps_wp {n : Nat} {ops : Array Oper} {D : List Deferred} {N : Env → World → Prop} {C : Env → List PanicEntry → World → Prop} : ∀ (l : List Oper) (E : Env) (a : Act) (w : World),
    okL n l = true → St n a E D → dOps P ops l N C E w → wpList P ops (RPost n (asgL l) E D N C) l a w := by
  intro l
  induction l with
  | nil => intro E a w _ hs h; exact ⟨E, hs, Fr.refl _ _, h⟩
  | cons o r ih =>
    intro E a w hok hs h
    obtain ⟨ho, hr⟩ := okL_cons hok
    have go : ∀ (E0 : Env), E0 = E → dOp P E0 o w (fun v w' => dOps P ops r N C (updo E0 o.dst v) w') (C E) →
        o.wp P a w (wpList P ops (RPost n (asgL (o :: r)) E D N C) r) (RPost n (asgL (o :: r)) E D N C) := by
      rintro E0 rfl hd
      refine dOp_wp hd hs.eval (fun v w' hv => ?_) (fun ch w' hc => ⟨_, hs, Fr.refl _ _, hc⟩)
      exact wpList_mono (fun _ _ _ hq => RPost.step (Fr.updo _ _ _) hq) r _ _ (ih _ _ _ hr (hs.put ho v) hv)
    have skip : ∀ (E0 : Env), E0 = E → dOps P ops r N C (updo E0 o.dst undef) w → wpList P ops (RPost n (asgL (o :: r)) E D N C) r (a.put o.dst undef) w := by
      rintro E0 rfl hd
      exact wpList_mono (fun _ _ _ hq => RPost.step (Fr.updo _ _ _) hq) r _ _ (ih _ _ _ hr (hs.put ho undef) hd)
    unfold dOps at h
    unfold wpList
    split at h
    · rename_i hg
      rw [if_pos (wanted_none hg _)]
      exact .inl (go E rfl h)
    · rename_i j b hg
      split at h
      · exact h.elim
      · rename_i d hd
        rw [wanted_some hg, yielded_of hs hd]
        split at h
        · rename_i t ht
          have eu : upd E d (.bool t) = E := upd_self ht
          cases t <;> cases b
          · exact .inl (go _ eu h)
          · exact skip _ eu h
          · exact skip _ eu h
          · exact .inl (go _ eu h)
        · exact skip _ rfl h
/-! ### Regions that draw their order, of operations that leave the world alone -/
theorem dStill_run {Ld : TypeId → Value → (Value → Prop) → Prop} {C : World → Prop} (hLd : ∀ t x K, Ld t x K → ∃ v, K v ∧ ∀ w, C w → (Instr.loadAt t x).run P w = .ok v w)
    {E : Env} {o : Oper} {K : Value → Prop} (h : dStill P Ld E o K) : ∃ v, K v ∧ ∀ w, C w → (execOp (ev E) o).run P w = .ok (.value v) w := by
  unfold dStill at h
  split at h
  · rename_i t x ho
    obtain ⟨v, hk, hr⟩ := hLd _ _ _ h
    exact ⟨v, hk, fun w hw => load_exec ho (hr w hw)⟩
  · obtain ⟨_, h⟩ := cond_false_out h
    obtain ⟨v, hk, hr⟩ := dPure_run h
    exact ⟨v, hk, fun w _ => hr w⟩
def QPost (n m : Nat) (E : Env) (D : List Deferred) (N : Env → Prop) (a : Act) : Prop := ∃ E', St n a E' D ∧ Fr m E E' ∧ N E'
theorem QPost.step {n m k : Nat} {E E1 : Env} {D : List Deferred} {N : Env → Prop} (hf : Fr m E E1) {a : Act} (h : QPost n k E1 D N a) : QPost n (m ||| k) E D N a := by
  obtain ⟨E', h1, h2, h3⟩ := h; exact ⟨E', h1, hf.trans h2, h3⟩
theorem wpQuiet_mono {ops : Array Oper} {C : World → Prop} {Q Q' : Act → Prop} (hQ : ∀ a, Q a → Q' a) : ∀ (l : List Oper) (a : Act), wpQuiet P ops C Q l a → wpQuiet P ops C Q' l a := by
  intro l
  induction l with
  | nil => exact fun a h => hQ _ h
  | cons o r ih =>
    intro a h
    unfold wpQuiet at h ⊢
    split
    · rename_i hw
      rw [if_pos hw] at h
      exact Oper.quiet_mono (fun a => ih a) h
    · rename_i hw
      rw [if_neg hw] at h
      exact ih _ h
theorem dQ_quiet {n : Nat} {ops : Array Oper} {D : List Deferred} {N : Env → Prop} {Ld : TypeId → Value → (Value → Prop) → Prop} {C : World → Prop}
    (hLd : ∀ t x K, Ld t x K → ∃ v, K v ∧ ∀ w, C w → (Instr.loadAt t x).run P w = .ok v w) : ∀ (l : List Oper) (E : Env) (a : Act),
    okL n l = true → St n a E D → dQ P Ld ops l N E → wpQuiet P ops C (QPost n (asgL l) E D N) l a := by
  intro l
  induction l with
  | nil => intro E a _ hs h; exact ⟨E, hs, Fr.refl _ _, h⟩
  | cons o r ih =>
    intro E a hok hs h
    obtain ⟨ho, hr⟩ := okL_cons hok
    have go : ∀ (E0 : Env), E0 = E → dStill P Ld E0 o (fun v => dQ P Ld ops r N (updo E0 o.dst v)) → o.quiet P a C (wpQuiet P ops C (QPost n (asgL (o :: r)) E D N) r) := by
      rintro E0 rfl hd
      obtain ⟨v, hk, hrun⟩ := dStill_run hLd hd
      refine ⟨v, fun w hw => ?_, wpQuiet_mono (fun _ hq => QPost.step (Fr.updo _ _ _) hq) r _ (ih _ _ hr (hs.put ho v) hk)⟩
      unfold Oper.quietAt
      rw [hs.eval, hrun w hw]
      exact ⟨rfl, rfl⟩
    have skip : ∀ (E0 : Env), E0 = E → dQ P Ld ops r N (updo E0 o.dst undef) → wpQuiet P ops C (QPost n (asgL (o :: r)) E D N) r (a.put o.dst undef) := by
      rintro E0 rfl hd
      exact wpQuiet_mono (fun _ hq => QPost.step (Fr.updo _ _ _) hq) r _ (ih _ _ hr (hs.put ho undef) hd)
    unfold dQ at h
    unfold wpQuiet
    split at h
    · rename_i hg
      rw [if_pos (wanted_none hg _)]
      exact go E rfl h
    · rename_i j b hg
      split at h
      · exact h.elim
      · rename_i d hd
        rw [wanted_some hg, yielded_of hs hd]
        split at h
        · rename_i t ht
          have eu : upd E d (.bool t) = E := upd_self ht
          cases t <;> cases b
          · exact go _ eu h
          · exact skip _ eu h
          · exact skip _ eu h
          · exact go _ eu h
        · exact skip _ rfl h
theorem region_quiet {n id : Nat} {ops : Array Oper} {D : List Deferred} {N : Env → World → Prop} {E : Env} {a : Act} {w : World} {Q : Exit → Act → World → Prop}
    (hm : P.follows .mixedOrders = true) (hB : Region.lexB .any ops = true) (hok : okL n ops.toList = true) (hs : St n a E D)
    (h : dQ P (fun t x K => wLoad P t x w K) ops ops.toList (fun E' => ∀ k, N E' (w.drewN k)) E)
    (hQ : ∀ a' w', RPost n (asgL ops.toList) E D N (fun _ _ _ => False) .normal a' w' → Q .normal a' w') : (Code.region id ops true).wp P Q a w := by
  have hLd : ∀ t x K, wLoad P t x w K → ∃ v, K v ∧ ∀ w', (∃ k, w' = w.drewN k) → (Instr.loadAt t x).run P w' = .ok v w' := by
    intro t x K hl
    obtain ⟨v, hk, hr⟩ := wLoad_runN hl
    refine ⟨v, hk, ?_⟩
    rintro w' ⟨k, rfl⟩
    exact hr k
  refine wp_region_quiet (C := fun w' => ∃ k, w' = w.drewN k) hm hB ⟨1, rfl⟩ (wpQuiet_mono ?_ _ _ (dQ_quiet (C := fun w' => ∃ k, w' = w.drewN k) hLd ops.toList E a hok hs h))
  rintro a' ⟨E', h1, h2, h3⟩ w' ⟨k, rfl⟩
  exact hQ _ _ ⟨E', h1, h2, h3 k⟩
end
end Go.Proofs.YtkfdkcclojepnaaGreat
