/- The engine, fifth part: regions that draw their order and hold calls or writes, the reads being held by a class of worlds. Conditions: none. -/
import Derived.Test.YtkfdkcclojepnaaGreatVf
import Derived.StillTail
namespace Go.Proofs.YtkfdkcclojepnaaGreat
open Go Go.RowKit
def allOf : List Nat → (Nat → Prop) → Prop
  | [], _ => True
  | [i], f => f i
  | i :: r, f => f i ∧ allOf r f
theorem allOf_out : ∀ {l : List Nat} {f : Nat → Prop}, allOf l f → ∀ i ∈ l, f i
  | [], _, _, i, hi => by cases hi
  | [j], f, h, i, hi => by
    simp only [List.mem_singleton] at hi
    exact hi ▸ h
  | j :: k :: r, f, h, i, hi => by
    rcases List.mem_cons.1 hi with rfl | hi
    · exact h.1
    · exact allOf_out h.2 i hi
section
variable (P : Program)
def isStillOp (op : Op) : Bool := isLoad op || isPure P op
def pickStill (ops : Array Oper) (listed : Array Bool) (rs : List Nat) : Option Nat :=
  rs.find? fun i => Region.free .any ops listed i && (match ops[i]? with | some o => isStillOp P o.op | none => false)
def guarded (ops : Array Oper) (o : Oper) (E : Env) (go skip : Env → Prop) : Prop :=
  match o.guard with
  | none => go E
  | some (j, b) =>
    match dstOf ops j with
    | none => False
    | some d =>
      match E d with
      | .bool t => cond t (cond b (go (upd E d (.bool true))) (skip (upd E d (.bool true)))) (cond b (skip (upd E d (.bool false))) (go (upd E d (.bool false))))
      | _ => skip E
def dH (S : World → Prop) (ops : Array Oper) (N : Env → World → Prop) (C : List PanicEntry → World → Prop) : Nat → Array Bool → Env → World → Prop
  | 0, listed, E, w => match Region.ready .any ops listed with | [] => N E w | _ => False
  | k + 1, listed, E, w =>
    match Region.ready .any ops listed with
    | [] => N E w
    | rs =>
      match pickStill P ops listed rs with
      | some i =>
        match ops[i]? with
        | none => False
        | some o => guarded ops o E (fun E => dStill P (fun t x K => dLoad P t x S K) E o fun v => dH S ops N C k (listed.setIfInBounds i true) (updo E o.dst v) w)
            (fun E => dH S ops N C k (listed.setIfInBounds i true) (updo E o.dst undef) w)
      | none => allOf rs fun i =>
        match ops[i]? with
        | none => False
        | some o => guarded ops o E (fun E => dOp P E o w (fun v w' => S w' ∧ dH S ops N C k (listed.setIfInBounds i true) (updo E o.dst v) w') C)
            (fun E => dH S ops N C k (listed.setIfInBounds i true) (updo E o.dst undef) w)
def pickPure (ops : Array Oper) (listed : Array Bool) (rs : List Nat) : Option Nat :=
  rs.find? fun i => Region.free .any ops listed i && (match ops[i]? with | some o => isPure P o.op | none => false)
def dP (ops : Array Oper) (N : Env → World → Prop) (C : List PanicEntry → World → Prop) : Nat → Array Bool → Env → World → Prop
  | 0, listed, E, w => match Region.ready .any ops listed with | [] => N E w | _ => False
  | k + 1, listed, E, w =>
    match Region.ready .any ops listed with
    | [] => N E w
    | rs =>
      match pickPure P ops listed rs with
      | some i =>
        match ops[i]? with
        | none => False
        | some o => guarded ops o E (fun E => dStill P (fun _ _ _ => False) E o fun v => dP ops N C k (listed.setIfInBounds i true) (updo E o.dst v) w)
            (fun E => dP ops N C k (listed.setIfInBounds i true) (updo E o.dst undef) w)
      | none => allOf rs fun i =>
        match ops[i]? with
        | none => False
        | some o => guarded ops o E (fun E => dOp P E o w (fun v w' => dP ops N C k (listed.setIfInBounds i true) (updo E o.dst v) w') C)
            (fun E => dP ops N C k (listed.setIfInBounds i true) (updo E o.dst undef) w)
def HeldF (w : World) (B : (World → Prop) → Prop) : Prop := ∃ S : World → Prop, S w.drew ∧ B S
end
section
variable {P : Program}
theorem Fr_mem {l : List Oper} {o : Oper} (ho : o ∈ l) (E : Env) (v : Value) : Fr (asgL l) E (updo E o.dst v) := by
  induction l with
  | nil => cases ho
  | cons x r ih =>
    rcases List.mem_cons.1 ho with rfl | ho
    · exact (Fr.updo _ _ _).left
    · exact (ih ho).right
theorem okL_mem {n : Nat} {l : List Oper} {o : Oper} (h : okL n l = true) (ho : o ∈ l) : dstOk n o.dst = true := by
  unfold okL at h
  exact (List.all_eq_true.1 h) o ho
theorem guarded_out {n : Nat} {ops : Array Oper} {o : Oper} {E : Env} {a : Act} {D : List Deferred} {go skip : Env → Prop} (hs : St n a E D) (h : guarded ops o E go skip) :
    (Region.wanted o (yielded ops a.tmps) = true ∧ go E) ∨ (Region.wanted o (yielded ops a.tmps) = false ∧ skip E) := by
  unfold guarded at h
  split at h
  · rename_i hg; exact .inl ⟨wanted_none hg _, h⟩
  · rename_i j b hg
    split at h
    · exact h.elim
    · rename_i d hd
      rw [wanted_some hg, yielded_of hs hd]
      split at h
      · rename_i t ht
        have eu : upd E d (.bool t) = E := upd_self ht
        rw [ht]
        cases t <;> cases b
        · exact .inl ⟨rfl, eu ▸ h⟩
        · exact .inr ⟨rfl, eu ▸ h⟩
        · exact .inr ⟨rfl, eu ▸ h⟩
        · exact .inl ⟨rfl, eu ▸ h⟩
      · rename_i hne
        refine .inr ⟨?_, h⟩
        cases hE : E d <;> first | rfl | exact (hne _ hE).elim
theorem RPost.put_back {n : Nat} {ops : Array Oper} {E0 : Env} {D : List Deferred} {N : Env → World → Prop} {C : List PanicEntry → World → Prop} {o : Oper} {v : Value} {c : List PanicEntry} {a : Act} {w : World} (ho : o ∈ ops.toList)
    (hq : RPost n (asgL ops.toList) E0 D N (fun _ => C) (.panic c) (a.put o.dst v) w) : RPost n (asgL ops.toList) E0 D N (fun _ => C) (.panic c) a w := by
  obtain ⟨E', h1, h2, h3⟩ := hq
  refine ⟨fun t => a.tmps.getD t undef, ⟨?_, fun _ => rfl, ?_⟩, fun t ht => ?_, h3⟩
  · have := h1.size
    cases hd : o.dst <;> rw [hd] at this <;> simpa [Act.put] using this
  · have := h1.defers
    cases hd : o.dst <;> rw [hd] at this <;> exact this
  · rw [← h2 t ht, ← h1.at_ t]
    have hb : (bitOf o.dst).testBit t = false := by
      have key : ∀ l : List Oper, o ∈ l → (asgL l).testBit t = false → (bitOf o.dst).testBit t = false := by
        intro l
        induction l with
        | nil => intro ho; cases ho
        | cons x r ih =>
          intro ho hl
          simp only [asgL, Nat.testBit_or, Bool.or_eq_false_iff] at hl
          rcases List.mem_cons.1 ho with rfl | ho
          · exact hl.1
          · exact ih ho hl.2
      exact key _ ho ht
    cases hd : o.dst with
    | none => rfl
    | some d =>
      have hne : d ≠ t := fun hh => by
        subst hh
        rw [hd] at hb
        simp [bitOf] at hb
      simp only [Act.put, Array.getD_eq_getD_getElem?]
      rw [Array.getElem?_setIfInBounds_ne hne]
theorem dH_held {n : Nat} {ops : Array Oper} {D : List Deferred} {N : Env → World → Prop} {C : List PanicEntry → World → Prop} {S : World → Prop} (hsel : Region.noSelect ops = true) (hok : okL n ops.toList = true) {E0 : Env} :
    ∀ (k : Nat) (listed : Array Bool) (E : Env) (a : Act) (w : World), S w → St n a E D → Fr (asgL ops.toList) E0 E → dH P S ops N C k listed E w →
      wpAnyH P .any ops (RPost n (asgL ops.toList) E0 D N (fun _ => C)) S k listed a w := by
  intro k
  induction k with
  | zero =>
    intro listed E a w _ hs hf h
    unfold dH at h
    split at h
    · rename_i hr; exact ⟨hr, E, hs, hf, h⟩
    · exact h.elim
  | succ k ih =>
    intro listed E a w hS hs hf h
    have mem : ∀ {i : Nat} {o : Oper}, ops[i]? = some o → o ∈ ops.toList := fun {i o} hi => by
      rw [← Array.getElem?_toList] at hi
      exact List.mem_of_getElem? hi
    unfold dH at h
    split at h
    · rename_i hr
      exact wpAnyH_done hr ⟨E, hs, hf, h⟩ _
    · rename_i rs hne
      split at h
      · rename_i i hp
        have hmem := List.mem_of_find?_eq_some hp
        have hfr := List.find?_some hp
        rw [Bool.and_eq_true] at hfr
        split at h
        · exact h.elim
        · rename_i o hi
          have hpan : ∀ (v : Value) c a w, RPost n (asgL ops.toList) E0 D N (fun _ => C) (.panic c) (a.put o.dst v) w → RPost n (asgL ops.toList) E0 D N (fun _ => C) (.panic c) a w := by
            intro v c a w hq
            exact RPost.put_back (mem hi) hq
          rcases guarded_out hs h with ⟨hw, hd⟩ | ⟨hw, hd⟩
          · obtain ⟨v, hk, hrun⟩ := dStill_run (C := S) (fun t x K => dLoad_run) hd
            refine wpAnyH_take hi hsel hfr.1 (by simpa using hmem) (hpan v) (.inl ⟨hw, fun w' hw' => ?_⟩) hS (ih _ _ _ _ hS (hs.put (okL_mem hok (mem hi)) v) (hf.trans1 (Fr_mem (mem hi) _ _)) hk)
            rw [hs.eval]
            exact hrun w' hw'
          · exact wpAnyH_take hi hsel hfr.1 (by simpa using hmem) (hpan undef) (.inr ⟨hw, rfl⟩) hS (ih _ _ _ _ hS (hs.put (okL_mem hok (mem hi)) undef) (hf.trans1 (Fr_mem (mem hi) _ _)) hd)
      · refine wpAnyH_all rfl (fun h0 => hne h0) fun i hi => ?_
        have hi' := allOf_out h i hi
        unfold wpOp
        split at hi'
        · exact hi'.elim
        · rename_i o ho
          simp only [ho]
          rcases guarded_out hs hi' with ⟨hw, hd⟩ | ⟨hw, hd⟩
          · rw [if_pos hw]
            refine .inl (dOp_wp hd hs.eval (fun v w' hv => ⟨hv.1, ih _ _ _ _ hv.1 (hs.put (okL_mem hok (mem ho)) v) (hf.trans1 (Fr_mem (mem ho) _ _)) hv.2⟩) fun ch w' hc => ⟨E, hs, hf, hc⟩)
          · rw [if_neg (by rw [hw]; exact Bool.false_ne_true)]
            exact ⟨hS, ih _ _ _ _ hS (hs.put (okL_mem hok (mem ho)) undef) (hf.trans1 (Fr_mem (mem ho) _ _)) hd⟩
theorem dP_any {n : Nat} {ops : Array Oper} {D : List Deferred} {N : Env → World → Prop} {C : List PanicEntry → World → Prop} (hsel : Region.noSelect ops = true) (hok : okL n ops.toList = true) {E0 : Env} :
    ∀ (k : Nat) (listed : Array Bool) (E : Env) (a : Act) (w : World), St n a E D → Fr (asgL ops.toList) E0 E → dP P ops N C k listed E w →
      wpAnyH P .any ops (RPost n (asgL ops.toList) E0 D N (fun _ => C)) (fun _ => True) k listed a w := by
  intro k
  induction k with
  | zero =>
    intro listed E a w hs hf h
    unfold dP at h
    split at h
    · rename_i hr; exact ⟨hr, E, hs, hf, h⟩
    · exact h.elim
  | succ k ih =>
    intro listed E a w hs hf h
    have mem : ∀ {i : Nat} {o : Oper}, ops[i]? = some o → o ∈ ops.toList := fun {i o} hi => by
      rw [← Array.getElem?_toList] at hi
      exact List.mem_of_getElem? hi
    unfold dP at h
    split at h
    · rename_i hr
      exact wpAnyH_done hr ⟨E, hs, hf, h⟩ _
    · rename_i rs hne
      split at h
      · rename_i i hp
        have hmem := List.mem_of_find?_eq_some hp
        have hfr := List.find?_some hp
        rw [Bool.and_eq_true] at hfr
        split at h
        · exact h.elim
        · rename_i o hi
          have hpan : ∀ (v : Value) c a w, RPost n (asgL ops.toList) E0 D N (fun _ => C) (.panic c) (a.put o.dst v) w → RPost n (asgL ops.toList) E0 D N (fun _ => C) (.panic c) a w := by
            intro v c a w hq
            exact RPost.put_back (mem hi) hq
          rcases guarded_out hs h with ⟨hw, hd⟩ | ⟨hw, hd⟩
          · obtain ⟨v, hk, hrun⟩ := dStill_run (C := fun _ => True) (fun t x K hl => hl.elim) hd
            refine wpAnyH_take hi hsel hfr.1 (by simpa using hmem) (hpan v) (.inl ⟨hw, fun w' hw' => ?_⟩) trivial (ih _ _ _ _ (hs.put (okL_mem hok (mem hi)) v) (hf.trans1 (Fr_mem (mem hi) _ _)) hk)
            rw [hs.eval]
            exact hrun w' hw'
          · exact wpAnyH_take hi hsel hfr.1 (by simpa using hmem) (hpan undef) (.inr ⟨hw, rfl⟩) trivial (ih _ _ _ _ (hs.put (okL_mem hok (mem hi)) undef) (hf.trans1 (Fr_mem (mem hi) _ _)) hd)
      · refine wpAnyH_all rfl (fun h0 => hne h0) fun i hi => ?_
        have hi' := allOf_out h i hi
        unfold wpOp
        split at hi'
        · exact hi'.elim
        · rename_i o ho
          simp only [ho]
          rcases guarded_out hs hi' with ⟨hw, hd⟩ | ⟨hw, hd⟩
          · rw [if_pos hw]
            refine .inl (dOp_wp hd hs.eval (fun v w' hv => ⟨trivial, ih _ _ _ _ (hs.put (okL_mem hok (mem ho)) v) (hf.trans1 (Fr_mem (mem ho) _ _)) hv⟩) fun ch w' hc => ⟨E, hs, hf, hc⟩)
          · rw [if_neg (by rw [hw]; exact Bool.false_ne_true)]
            exact ⟨trivial, ih _ _ _ _ (hs.put (okL_mem hok (mem ho)) undef) (hf.trans1 (Fr_mem (mem ho) _ _)) hd⟩
theorem region_any {n id : Nat} {ops : Array Oper} {D : List Deferred} {N : Env → World → Prop} {C : List PanicEntry → World → Prop} {E : Env} {a : Act} {w : World}
    (hm : P.follows .mixedOrders = true) (hsel : Region.noSelect ops = true) (hok : okL n ops.toList = true) (hs : St n a E D)
    (h : dP P ops N C ops.size (Array.replicate ops.size false) E w.drew) : (Code.region id ops true).wp P (RPost n (asgL ops.toList) E D N (fun _ => C)) a w :=
  wp_region_held hm (dP_any hsel hok _ _ _ _ _ hs (Fr.refl _ _) h)
theorem region_held {n id : Nat} {ops : Array Oper} {D : List Deferred} {N : Env → World → Prop} {C : List PanicEntry → World → Prop} {E : Env} {a : Act} {w : World}
    (hm : P.follows .mixedOrders = true) (hsel : Region.noSelect ops = true) (hok : okL n ops.toList = true) (hs : St n a E D)
    (h : HeldF w fun S => dH P S ops N C ops.size (Array.replicate ops.size false) E w.drew) : (Code.region id ops true).wp P (RPost n (asgL ops.toList) E D N (fun _ => C)) a w := by
  obtain ⟨S, hS, h⟩ := h
  exact wp_region_held hm (dH_held hsel hok _ _ _ _ _ hS hs (Fr.refl _ _) h)
theorem wpStill_mono {ops : Array Oper} {w : World} {Q Q' : Act → Prop} (hQ : ∀ a, Q a → Q' a) : ∀ (l : List Oper) (a : Act), wpStill P ops w Q l a → wpStill P ops w Q' l a := by
  intro l
  induction l with
  | nil => exact fun a h => hQ _ h
  | cons o r ih =>
    intro a h
    unfold wpStill at h ⊢
    split
    · rename_i hw
      rw [if_pos hw] at h
      exact Oper.still_mono (fun a => ih a) h
    · rename_i hw
      rw [if_neg hw] at h
      exact ih _ h
theorem dQ_still {n : Nat} {ops : Array Oper} {D : List Deferred} {N : Env → Prop} {w : World} : ∀ (l : List Oper) (E : Env) (a : Act),
    okL n l = true → St n a E D → dQ P (fun t x K => wLoad P t x w K) ops l N E → wpStill P ops w (QPost n (asgL l) E D N) l a := by
  intro l
  induction l with
  | nil => intro E a _ hs h; exact ⟨E, hs, Fr.refl _ _, h⟩
  | cons o r ih =>
    intro E a hok hs h
    obtain ⟨ho, hr⟩ := okL_cons hok
    have go : ∀ (E0 : Env), E0 = E → dStill P (fun t x K => wLoad P t x w K) E0 o (fun v => dQ P (fun t x K => wLoad P t x w K) ops r N (updo E0 o.dst v)) → o.still P a w (wpStill P ops w (QPost n (asgL (o :: r)) E D N) r) := by
      rintro E0 rfl hd
      obtain ⟨v, hk, hrun⟩ := dStill_run (C := fun w' => w' = w) (fun t x K hl => by
        obtain ⟨v, hk, hr⟩ := wLoad_run hl
        exact ⟨v, hk, fun w' hw' => by subst hw'; exact hr⟩) hd
      unfold Oper.still
      rw [hs.eval, hrun w rfl]
      exact ⟨rfl, wpStill_mono (fun _ hq => QPost.step (Fr.updo _ _ _) hq) r _ (ih _ _ hr (hs.put ho v) hk)⟩
    have skip : ∀ (E0 : Env), E0 = E → dQ P (fun t x K => wLoad P t x w K) ops r N (updo E0 o.dst undef) → wpStill P ops w (QPost n (asgL (o :: r)) E D N) r (a.put o.dst undef) := by
      rintro E0 rfl hd
      exact wpStill_mono (fun _ hq => QPost.step (Fr.updo _ _ _) hq) r _ (ih _ _ hr (hs.put ho undef) hd)
    unfold dQ at h
    unfold wpStill
    split at h
    · rename_i hg
      rw [if_pos (wanted_none hg _)]
      exact go E rfl h
    · rename_i j b hg
      split at h
      · exact h.elim
      · rename_i d hd
        rw [wanted_some hg, yielded_of hs hd]
        split at h
        · rename_i t ht
          have eu : upd E d (.bool t) = E := upd_self ht
          cases t <;> cases b
          · exact go _ eu h
          · exact skip _ eu h
          · exact skip _ eu h
          · exact go _ eu h
        · exact skip _ rfl h
theorem okL_take {n k : Nat} {l : List Oper} (h : okL n l = true) : okL n (l.take k) = true ∧ okL n (l.drop k) = true := by
  unfold okL at *
  rw [← List.take_append_drop k l, List.all_append, Bool.and_eq_true] at h
  exact h
theorem Fr_part {l k : List Oper} {E E' : Env} (hsub : ∀ o, o ∈ k → o ∈ l) (h : Fr (asgL k) E E') : Fr (asgL l) E E' := by
  intro t ht
  refine h t ?_
  have key : ∀ k : List Oper, (∀ o, o ∈ k → o ∈ l) → (asgL k).testBit t = false := by
    intro k
    induction k with
    | nil => intro _; simp [asgL]
    | cons o r ih =>
      intro hs
      have h1 : (bitOf o.dst).testBit t = false := by
        have : ∀ l : List Oper, o ∈ l → (asgL l).testBit t = false → (bitOf o.dst).testBit t = false := by
          intro l
          induction l with
          | nil => intro ho; cases ho
          | cons x r ih =>
            intro ho hl
            simp only [asgL, Nat.testBit_or, Bool.or_eq_false_iff] at hl
            rcases List.mem_cons.1 ho with rfl | ho
            · exact hl.1
            · exact ih ho hl.2
        exact this l (hs o (List.mem_cons_self ..)) ht
      simp only [asgL, Nat.testBit_or, h1, Bool.false_or]
      exact ih fun x hx => hs x (List.mem_cons_of_mem _ hx)
  exact key k hsub
theorem region_tail {n id k : Nat} {ops : Array Oper} {D : List Deferred} {N : Env → World → Prop} {C : Env → List PanicEntry → World → Prop} {E : Env} {a : Act} {w : World}
    (hm : P.follows .mixedOrders = true) (hB : Region.lexTailB .any ops k = true) (hok : okL n ops.toList = true) (hs : St n a E D)
    (h : dQ P (fun t x K => wLoad P t x w.drew K) ops (ops.toList.take k) (fun E' => dOps P ops (ops.toList.drop k) N C E' w.drew) E) : (Code.region id ops true).wp P (RPost n (asgL ops.toList) E D N C) a w := by
  have ho : ops = ops.toList.toArray := by simp
  have hst := dQ_still (P := P) (w := w.drew) (n := n) (D := D) (ops.toList.take k) E a (okL_take hok).1 hs h
  have := wp_region_still_tail (P := P) (id := id) (Q := RPost n (asgL ops.toList) E D N C) (a := a) (w := w) (l := ops.toList) k hm (by rw [← ho]; exact hB) ?_
  · rw [← ho] at this; exact this
  · rw [← ho]
    refine wpStill_mono (fun a' hq => ?_) _ _ hst
    obtain ⟨E', h1, h2, h3⟩ := hq
    refine wpList_mono (fun e a2 w2 hq => ?_) _ _ _ (dOps_wp _ _ _ _ (okL_take hok).2 h1 h3)
    have f1 : Fr (asgL ops.toList) E E' := Fr_part (fun o ho => List.mem_of_mem_take ho) h2
    cases e with
    | normal =>
      obtain ⟨E2, q1, q2, q3⟩ := hq
      exact ⟨E2, q1, f1.trans1 (Fr_part (fun o ho => List.mem_of_mem_drop ho) q2), q3⟩
    | panic ch =>
      obtain ⟨E2, q1, q2, q3⟩ := hq
      exact ⟨E2, q1, f1.trans1 (Fr_part (fun o ho => List.mem_of_mem_drop ho) q2), q3⟩
    | _ => exact hq
end
end Go.Proofs.YtkfdkcclojepnaaGreat
