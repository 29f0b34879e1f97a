/- The engine, a part between the fifth and the sixth: regions that draw their order, whose last operation waits for all others: behind it no class of worlds is asked. Conditions: none. -/
import Derived.Test.YtkfdkcclojepnaaGreatVg
namespace Go.Proofs.YtkfdkcclojepnaaGreat
open Go Go.RowKit
section
variable {P : Program} {ops : Array Oper} {Q : Exit → Act → World → Prop} {md : Region.Mode} {S : World → Prop}
def wpAnyZ (P : Program) (md : Region.Mode) (ops : Array Oper) (Q : Exit → Act → World → Prop) (S : World → Prop) (z : Nat) : Nat → Array Bool → Act → World → Prop
  | 0, listed, a, w => Region.ready md ops listed = [] ∧ Q .normal a w
  | fuel + 1, listed, a, w =>
    (Region.ready md ops listed = [] → Q .normal a w) ∧
    ∀ i ∈ Region.ready md ops listed, wpOp P ops Q i (fun a' w' => (i = z ∨ S w') ∧ wpAnyZ P md ops Q S z fuel (listed.setIfInBounds i true) a' w') a w
theorem wpAny_of_Z {z : Nat} : ∀ (fuel : Nat) (listed : Array Bool) (a : Act) (w : World), wpAnyZ P md ops Q S z fuel listed a w → wpAny P md ops Q fuel listed a w
  | 0, _, _, _, h => h
  | fuel + 1, _, _, _, h => ⟨h.1, fun i hi => wpOp_mono (fun a' w' h' => wpAny_of_Z fuel _ a' w' h'.2) (h.2 i hi)⟩
theorem wpAnyZ_first {z i : Nat} {oi : Oper} {v : Value} (hs : Region.sinkB md ops z = true) (hc : Region.chainB md ops z = true) (hz : z < ops.size) (hiz : i < z) (hi : ops[i]? = some oi) (hsel : ∀ (j : Nat) (o : Oper) cs b, ops[j]? = some o → o.op ≠ .select cs b)
    (hQ : ∀ c a w, Q (.panic c) (a.put oi.dst v) w → Q (.panic c) a w) :
    ∀ (fuel : Nat) (listed : Array Bool) (a : Act) (w : World), HeadInv md ops z listed →
      (∀ j oj, ops[j]? = some oj → j ≠ i → listed.getD j true = false → (∀ e ∈ oj.after, Region.binds md e = true → e.on ≠ i) → oi.apart ops oj = true) →
      i ∈ Region.ready md ops listed → YieldsIf P ops S oi v a → S w →
      wpAnyZ P md ops Q S z fuel (listed.setIfInBounds i true) (a.put oi.dst v) w → wpAnyZ P md ops Q S z (fuel + 1) listed a w := by
  intro fuel
  induction fuel with
  | zero =>
    intro listed a w _ _ hr hy hS H
    refine ⟨fun h => (by rw [h] at hr; cases hr), fun j hj => ?_⟩
    by_cases hji : j = i
    · subst hji; exact hy.wpOp hi hS ⟨.inr hS, H⟩
    · have := ready_mono hj hji
      rw [H.1] at this
      cases this
  | succ fuel ih =>
    intro listed a w inv hfree hr hy hS H
    have hun := (mem_ready.1 hr).1
    refine ⟨fun h => (by rw [h] at hr; cases hr), fun j hj => ?_⟩
    have hjz : j < z := by
      rcases Nat.lt_or_ge j z with h | h
      · exact h
      · exact absurd hj (tail_waits hs hc hz inv _ i rfl hiz hun j h)
    by_cases hji : j = i
    · subst hji; exact hy.wpOp hi hS ⟨.inr hS, H⟩
    · have h1 := H.2 j (ready_mono hj hji)
      obtain ⟨hjun, oj, hoj, hall⟩ := mem_ready.1 hj
      have hnot : ∀ e ∈ oj.after, Region.binds md e = true → e.on ≠ i := fun e he hb heq => by
        have h1 := hall e he hb
        rw [heq, getD_both hun] at h1
        cases h1
      have h2 := wpOp_putIf hoj (hfree j oj hoj hji hjun hnot) (fun cs b => hsel i oi cs b hi) (fun cs b => hsel j oj cs b hoj) hQ hy h1
      have hfree' : ∀ k ok, ops[k]? = some ok → k ≠ i → (listed.setIfInBounds j true).getD k true = false →
          (∀ e ∈ ok.after, Region.binds md e = true → e.on ≠ i) → oi.apart ops ok = true := fun k ok hk hki hun hno => by
        refine hfree k ok hk hki ?_ hno
        by_cases hjk : j = k
        · subst hjk; exact hjun
        · rw [getD_set_ne true hjk] at hun; exact hun
      refine wpOp_mono (fun a' w' h3 => ?_) h2
      have hS' : S w' := by
        rcases h3.2.1 with h | h
        · omega
        · exact h
      refine ⟨.inr hS', ih (listed.setIfInBounds j true) a' w' (inv.set hj hjz) hfree' (ready_mono hr (Ne.symm hji)) h3.1 hS' ?_⟩
      rw [Array.setIfInBounds_comm _ _ hji]
      exact h3.2.2
theorem wpAnyZ_done {z : Nat} {listed : Array Bool} {a : Act} {w : World} (hr : Region.ready md ops listed = []) (h : Q .normal a w) :
    ∀ fuel, wpAnyZ P md ops Q S z fuel listed a w
  | 0 => ⟨hr, h⟩
  | _ + 1 => ⟨fun _ => h, fun i hi => by rw [hr] at hi; cases hi⟩
end
section
variable (P : Program)
def pickStillZ (z : Nat) (ops : Array Oper) (listed : Array Bool) (rs : List Nat) : Option Nat :=
  rs.find? fun i => Nat.blt i z && (Region.free .any ops listed i && (match ops[i]? with | some o => isStillOp P o.op | none => false))
def dZ (z : Nat) (S : World → Prop) (ops : Array Oper) (N : Env → World → Prop) (C : List PanicEntry → World → Prop) : Nat → Array Bool → Env → World → Prop
  | 0, listed, E, w => match Region.ready .any ops listed with | [] => N E w | _ => False
  | k + 1, listed, E, w =>
    match Region.ready .any ops listed with
    | [] => N E w
    | rs =>
      match pickStillZ P z ops listed rs with
      | some i =>
        match ops[i]? with
        | none => False
        | some o => guarded ops o E (fun E => dStill P (fun t x K => dLoad P t x S K) E o fun v => dZ z S ops N C k (listed.setIfInBounds i true) (updo E o.dst v) w)
            (fun E => dZ z S ops N C k (listed.setIfInBounds i true) (updo E o.dst undef) w)
      | none => allOf rs fun i =>
        match ops[i]? with
        | none => False
        | some o => guarded ops o E (fun E => dOp P E o w (fun v w' => cond (Nat.beq i z) (dZ z S ops N C k (listed.setIfInBounds i true) (updo E o.dst v) w') (S w' ∧ dZ z S ops N C k (listed.setIfInBounds i true) (updo E o.dst v) w')) C)
            (fun E => dZ z S ops N C k (listed.setIfInBounds i true) (updo E o.dst undef) w)
end
section
variable {P : Program}
theorem dZ_held {z n : Nat} {ops : Array Oper} {D : List Deferred} {N : Env → World → Prop} {C : List PanicEntry → World → Prop} {S : World → Prop} (hs1 : Region.sinkB .any ops z = true) (hc1 : Region.chainB .any ops z = true) (hz : z + 1 = ops.size) (hsel : Region.noSelect ops = true) (hok : okL n ops.toList = true) {E0 : Env} :
    ∀ (k : Nat) (listed : Array Bool) (E : Env) (a : Act) (w : World), (HeadInv .any ops z listed ∧ S w ∨ Region.ready .any ops listed = []) → St n a E D → Fr (asgL ops.toList) E0 E → dZ P z S ops N C k listed E w →
      wpAnyZ P .any ops (RPost n (asgL ops.toList) E0 D N (fun _ => C)) S z k listed a w := by
  intro k
  induction k with
  | zero =>
    intro listed E a w _ hs hf h
    unfold dZ at h
    split at h
    · rename_i hr; exact ⟨hr, E, hs, hf, h⟩
    · exact h.elim
  | succ k ih =>
    intro listed E a w hin hs hf h
    have mem : ∀ {i : Nat} {o : Oper}, ops[i]? = some o → o ∈ ops.toList := fun {i o} hi => by
      rw [← Array.getElem?_toList] at hi
      exact List.mem_of_getElem? hi
    unfold dZ at h
    split at h
    · rename_i hr
      exact wpAnyZ_done hr ⟨E, hs, hf, h⟩ _
    · rename_i rs hne
      obtain ⟨inv, hS⟩ := hin.resolve_right fun h0 => hne h0
      split at h
      · rename_i i hp
        have hmem := List.mem_of_find?_eq_some hp
        have hfr := List.find?_some hp
        rw [Bool.and_eq_true, Bool.and_eq_true] at hfr
        have hiz : i < z := by have := hfr.1; exact Nat.le_of_ble_eq_true this
        split at h
        · exact h.elim
        · rename_i o hi
          have hpan : ∀ (v : Value) c a w, RPost n (asgL ops.toList) E0 D N (fun _ => C) (.panic c) (a.put o.dst v) w → RPost n (asgL ops.toList) E0 D N (fun _ => C) (.panic c) a w := by
            intro v c a w hq
            exact RPost.put_back (mem hi) hq
          rcases guarded_out hs h with ⟨hw, hd⟩ | ⟨hw, hd⟩
          · obtain ⟨v, hk, hrun⟩ := dStill_run (C := S) (fun t x K => dLoad_run) hd
            refine wpAnyZ_first hs1 hc1 (by omega) hiz hi (Region.noSelect_spec hsel) (hpan v) _ _ _ _ inv (Region.free_spec hi hfr.2.1) hmem (.inl ⟨hw, fun w' hw' => ?_⟩) hS (ih _ _ _ _ (.inl ⟨inv.set hmem hiz, hS⟩) (hs.put (okL_mem hok (mem hi)) v) (hf.trans1 (Fr_mem (mem hi) _ _)) hk)
            rw [hs.eval]
            exact hrun w' hw'
          · exact wpAnyZ_first hs1 hc1 (by omega) hiz hi (Region.noSelect_spec hsel) (hpan undef) _ _ _ _ inv (Region.free_spec hi hfr.2.1) hmem (.inr ⟨hw, rfl⟩) hS (ih _ _ _ _ (.inl ⟨inv.set hmem hiz, hS⟩) (hs.put (okL_mem hok (mem hi)) undef) (hf.trans1 (Fr_mem (mem hi) _ _)) hd)
      · refine ⟨fun h0 => absurd h0 fun h0 => hne h0, fun i hi => ?_⟩
        have hi' := allOf_out h i hi
        have nxt : ∀ w', (i = z ∨ S w') → HeadInv .any ops z (listed.setIfInBounds i true) ∧ S w' ∨ Region.ready .any ops (listed.setIfInBounds i true) = [] := by
          intro w' hw'
          by_cases hiz : i = z
          · right
            subst hiz
            cases hr : Region.ready .any ops (listed.setIfInBounds i true) with
            | nil => rfl
            | cons j r =>
              have hj : j ∈ Region.ready .any ops (listed.setIfInBounds i true) := by rw [hr]; exact List.mem_cons_self ..
              obtain ⟨hjun, oj, hoj, hall⟩ := mem_ready.1 hj
              have hjl : j < ops.size := (Array.getElem?_eq_some_iff.1 hoj).1
              by_cases hji : i = j
              · subst hji
                have hil : i < listed.size := by rw [inv.size]; omega
                simp [hil] at hjun
              · rw [getD_set_ne true hji] at hjun
                exact absurd hi (tail_waits hs1 hc1 (by omega) inv _ j rfl (by omega) hjun i (Nat.le_refl _))
          · obtain ⟨_, oi, hoi, _⟩ := mem_ready.1 hi
            have hil : i < ops.size := (Array.getElem?_eq_some_iff.1 hoi).1
            exact .inl ⟨inv.set hi (by omega), hw'.resolve_left hiz⟩
        unfold wpOp
        split at hi'
        · exact hi'.elim
        · rename_i o ho
          simp only [ho]
          rcases guarded_out hs hi' with ⟨hw, hd⟩ | ⟨hw, hd⟩
          · rw [if_pos hw]
            refine .inl (dOp_wp hd hs.eval (fun v w' hv => ?_) fun ch w' hc => ⟨E, hs, hf, hc⟩)
            cases hb : Nat.beq i z <;> rw [hb] at hv
            · exact ⟨.inr hv.1, ih _ _ _ _ (nxt w' (.inr hv.1)) (hs.put (okL_mem hok (mem ho)) v) (hf.trans1 (Fr_mem (mem ho) _ _)) hv.2⟩
            · have hiz : i = z := Nat.eq_of_beq_eq_true hb
              exact ⟨.inl hiz, ih _ _ _ _ (nxt w' (.inl hiz)) (hs.put (okL_mem hok (mem ho)) v) (hf.trans1 (Fr_mem (mem ho) _ _)) hv⟩
          · rw [if_neg (by rw [hw]; exact Bool.false_ne_true)]
            exact ⟨.inr hS, ih _ _ _ _ (nxt w (.inr hS)) (hs.put (okL_mem hok (mem ho)) undef) (hf.trans1 (Fr_mem (mem ho) _ _)) hd⟩
def lastB (ops : Array Oper) : Bool := Nat.blt 0 ops.size && (Region.sinkB .any ops (ops.size - 1) && Region.chainB .any ops (ops.size - 1))
theorem region_last {n id : Nat} {ops : Array Oper} {D : List Deferred} {N : Env → World → Prop} {C : List PanicEntry → World → Prop} {E : Env} {a : Act} {w : World}
    (hm : P.follows .mixedOrders = true) (hB : lastB ops = true) (hsel : Region.noSelect ops = true) (hok : okL n ops.toList = true) (hs : St n a E D)
    (h : HeldF w fun S => dZ P (ops.size - 1) S ops N C ops.size (Array.replicate ops.size false) E w.drew) : (Code.region id ops true).wp P (RPost n (asgL ops.toList) E D N (fun _ => C)) a w := by
  obtain ⟨S, hS, h⟩ := h
  unfold lastB at hB
  rw [Bool.and_eq_true, Bool.and_eq_true] at hB
  have h0 : 0 < ops.size := Nat.le_of_ble_eq_true hB.1
  have inv0 : HeadInv .any ops (ops.size - 1) (Array.replicate ops.size false) :=
    ⟨by simp, fun j oj _ hl => (by rw [getD_replicate_false] at hl; cases hl), fun t _ ht => getD_in (by simpa using ht) (getD_replicate_false _ _)⟩
  exact wp_region_any hm (wpAny_of_Z _ _ _ _ (dZ_held hB.2.1 hB.2.2 (by omega) hsel hok _ _ _ _ _ (.inl ⟨inv0, hS⟩) hs (Fr.refl _ _) h))
end
end Go.Proofs.YtkfdkcclojepnaaGreat
