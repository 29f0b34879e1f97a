/- The engine, sixth part: code and functions: 'den' and its soundness. Conditions: none. -/
import Derived.Test.YtkfdkcclojepnaaGreatVz
import Derived.Deep.LoopGhost
import Derived.Scope
namespace Go.Proofs.YtkfdkcclojepnaaGreat
open Go Go.RowKit
def PayL : List STy → Type
  | [] => Unit
  | s :: r => SPay s × PayL r
def mkL : (l : List STy) → PayL l → List Value
  | [], _ => []
  | s :: r, (x, xs) => smk s x :: mkL r xs
def PayT : Ty → Type
  | .sc s => SPay s
  | .agg l => PayL l
  | .arr _ => List Value
def mkT : (t : Ty) → PayT t → Value
  | .sc s, x => smk s x
  | .agg l, x => .agg (mkL l x).toArray
  | .arr _, x => .agg x.toArray
def Pays : List (Nat × Ty) → Type
  | [] => Unit
  | x :: r => PayT x.2 × Pays r
def getS : (s : STy) → Value → (SPay s → Prop) → Prop
  | .int k, .int k' x, K => cond (decide (k' = k)) (K x) False
  | .bool, .bool b, K => K b
  | .ptr, .pointer p, K => K p
  | .slice, .slice a l c, K => K (a, l, c)
  | .str, .string s, K => K s
  | .any, v, K => K v
  | _, _, _ => False
def getL : (l : List STy) → List Value → (PayL l → Prop) → Prop
  | [], [], K => K ()
  | s :: r, v :: vs, K => getS s v fun x => getL r vs fun xs => K (x, xs)
  | _, _, _ => False
def getT : (t : Ty) → Value → (PayT t → Prop) → Prop
  | .sc s, v, K => getS s v K
  | .agg l, .agg vs, K => getL l vs.toList K
  | .arr _, .agg vs, K => K vs.toList
  | _, _, _ => False
def getP : (ts : List (Nat × Ty)) → Env → (Pays ts → Prop) → Prop
  | [], _, K => K ()
  | x :: r, E, K => getT x.2 (E x.1) fun p => getP r E fun ps => K (p, ps)
def pickP : (ts : List (Nat × Ty)) → Pays ts → Nat → Value → Value
  | [], _, _, v => v
  | x :: r, (p, ps), t, v => cond (Nat.beq t x.1) (mkT x.2 p) (pickP r ps t v)
def mixE (ts : List (Nat × Ty)) (s : Pays ts) (m : Nat) (J E : Env) : Env := fun t => pickP ts s t (cond (Nat.testBit m t) (J t) (E t))
theorem getS_out {s : STy} {v : Value} {K : SPay s → Prop} (h : getS s v K) : ∃ x, smk s x = v ∧ K x := by
  unfold getS at h
  split at h
  · obtain ⟨hk, h⟩ := cond_false_out h
    have := of_decide_eq_true hk
    subst this
    exact ⟨_, rfl, h⟩
  all_goals first | exact ⟨_, rfl, h⟩ | exact h.elim
theorem getL_out : ∀ {l : List STy} {vs : List Value} {K : PayL l → Prop}, getL l vs K → ∃ x, mkL l x = vs ∧ K x
  | [], [], _, h => ⟨(), rfl, h⟩
  | [], _ :: _, _, h => h.elim
  | s :: r, [], _, h => h.elim
  | s :: r, v :: vs, K, h => by
    obtain ⟨x, hx, h⟩ := getS_out h
    obtain ⟨xs, hxs, h⟩ := getL_out h
    exact ⟨(x, xs), by simp [mkL, hx, hxs], h⟩
theorem getT_out {t : Ty} {v : Value} {K : PayT t → Prop} (h : getT t v K) : ∃ x, mkT t x = v ∧ K x := by
  cases t with
  | sc s => exact getS_out h
  | agg l =>
    cases v with
    | agg vs =>
      obtain ⟨x, hx, h⟩ := getL_out (show getL l vs.toList K from h)
      exact ⟨x, by show Value.agg (mkL l x).toArray = _; rw [hx], h⟩
    | _ => exact h.elim
  | arr m =>
    cases v with
    | agg vs => exact ⟨vs.toList, rfl, h⟩
    | _ => exact h.elim
theorem getP_out : ∀ {ts : List (Nat × Ty)} {E : Env} {K : Pays ts → Prop}, getP ts E K → ∃ s, (∀ t v, (v = E t → pickP ts s t v = E t)) ∧ K s
  | [], _, _, h => ⟨(), fun _ _ hv => hv, h⟩
  | x :: r, E, K, h => by
    obtain ⟨p, hp, h⟩ := getT_out h
    obtain ⟨ps, hps, h⟩ := getP_out h
    refine ⟨(p, ps), fun t v hv => ?_, h⟩
    show cond (Nat.beq t x.1) (mkT x.2 p) (pickP r ps t v) = E t
    cases hb : Nat.beq t x.1
    · exact hps t v hv
    · rw [Nat.eq_of_beq_eq_true hb]; exact hp
theorem getP_mix {ts : List (Nat × Ty)} {m : Nat} {E E' : Env} {K : Pays ts → Prop} (hf : Fr m E E') (h : getP ts E' K) : ∃ s, E' = mixE ts s m E' E ∧ K s := by
  obtain ⟨s, hs, hk⟩ := getP_out h
  refine ⟨s, funext fun t => ?_, hk⟩
  unfold mixE
  refine (hs t _ ?_).symm
  cases hb : Nat.testBit m t
  · exact (hf t hb).symm
  · rfl
def LoopF {S : Type} (s0 : S) (w0 : World) (B : S → World → (S → World → Prop) → Prop) : Prop :=
  ∃ (I : S → World → Prop) (μ : S → World → Nat), I s0 w0 ∧ ∀ s w, I s w → B s w fun s' w' => I s' w' ∧ μ s' w' < μ s w
def JoinF {S : Type} (A : (S → World → Prop) → Prop) (B : S → World → Prop) : Prop := ∃ J : S → World → Prop, A J ∧ ∀ s w, J s w → B s w
structure Ann where
  loops : Nat → List (Nat × Ty)
  joins : Nat → Option (List (Nat × Ty))
  held : Nat → Bool
  tail : Nat → Option Nat
def firstReg : Code → Nat
  | .region id _ _ => id
  | .seq a _ => firstReg a
  | .block _ b => firstReg b
  | .loop b => firstReg b
  | .scope b => firstReg b
  | .cond _ x _ => firstReg x
  | _ => 1000000
def okH : Code → Bool
  | .region _ ops d => !d || Region.noSelect ops
  | .seq a b => okH a && okH b
  | .cond _ a b => okH a && okH b
  | .block _ b => okH b
  | .loop b => okH b
  | .scope b => okH b
  | _ => true
def okM (rm : Nat) : Code → Bool
  | .region _ ops d => !d || Nat.beq (Nat.land (asgL ops.toList) rm) 0
  | .seq a b => okM rm a && okM rm b
  | .cond _ a b => okM rm a && okM rm b
  | .block _ b => okM rm b
  | .loop b => okM rm b
  | .scope b => okM rm b
  | _ => true
def den (P : Program) (A : Ann) : Code → (Env → World → Prop) → (Nat → Env → World → Prop) → (Env → World → Prop) → (Env → List PanicEntry → World → Prop) → Env → World → Prop
  | .skip, N, _, _, _, E, w => N E w
  | .region id ops draw, N, _, _, C, E, w =>
    cond draw
      (match A.tail id with
       | some k => cond (Nat.ble 2000 k) (cond (lastB ops) (HeldF w fun S => dZ P (ops.size - 1) S ops N (C E) ops.size (Array.replicate ops.size false) E w.drew) False) <| cond (Nat.ble 1000 k) (dP P ops N (C E) ops.size (Array.replicate ops.size false) E w.drew) <| cond (Region.lexTailB .any ops k) (dQ P (fun t x K => wLoad P t x w.drew K) ops (ops.toList.take k) (fun E' => dOps P ops (ops.toList.drop k) N C E' w.drew) E) False
       | none => cond (A.held id) (HeldF w fun S => dH P S ops N (C E) ops.size (Array.replicate ops.size false) E w.drew)
          (cond (Region.lexB .any ops) (dQ P (fun t x K => wLoad P t x w K) ops ops.toList (fun E' => ∀ k, N E' (w.drewN k)) E) False))
      (dOps P ops ops.toList N C E w)
  | .seq a b, N, X, R, C, E, w =>
    match A.joins (firstReg b) with
    | none => den P A a (fun E w => den P A b N X R C E w) X R C E w
    | some ts => JoinF (S := Pays ts) (fun K => den P A a (fun E' w' => getP ts E' fun s => K s w') X R C E w) (fun s w' => ∀ J : Env, den P A b N X R C (mixE ts s (asg a) J E) w')
  | .cond c x y, N, X, R, C, E, w =>
    match ev E c with
    | .bool t => cond t (den P A x N X R C E w) (den P A y N X R C E w)
    | _ => False
  | .block id b, N, X, R, C, E, w => den P A b N (fun i E w => cond (Nat.beq i id) (N E w) (X i E w)) R C E w
  | .loop b, _, X, R, C, E, w =>
    getP (A.loops (firstReg b)) E fun s0 => LoopF (S := Pays (A.loops (firstReg b))) s0 w fun s w' Next =>
      ∀ J : Env, den P A b (fun E' w'' => getP (A.loops (firstReg b)) E' fun s' => Next s' w'') X R C (mixE (A.loops (firstReg b)) s (asg b) J E) w'
  | .scope b, N, X, R, C, E, w => den P A b N X R C E w
  | .label _, N, _, _, _, E, w => N E w
  | .exit i, _, X, _, _, E, w => X i E w
  | .ret, _, _, R, _, E, w => R E w
  | _, _, _, _, _, _, _ => False
section
variable {P : Program}
def KPost (n m : Nat) (E : Env) (D : List Deferred) (N : Env → World → Prop) (X : Nat → Env → World → Prop) (R : Env → World → Prop) (C : Env → List PanicEntry → World → Prop) : Exit → Act → World → Prop
  | .normal, a, w => ∃ E', St n a E' D ∧ Fr m E E' ∧ N E' w
  | .exit i, a, w => ∃ E', St n a E' D ∧ Fr m E E' ∧ X i E' w
  | .ret, a, w => ∃ E', St n a E' D ∧ Fr m E E' ∧ R E' w
  | .panic ch, a, w => ∃ E', St n a E' D ∧ Fr m E E' ∧ C E' ch w
  | _, _, _ => False
theorem KPost.weaken {n m k : Nat} {E E1 : Env} {D : List Deferred} {N : Env → World → Prop} {X : Nat → Env → World → Prop} {R : Env → World → Prop} {C : Env → List PanicEntry → World → Prop}
    (hf : ∀ E', Fr k E1 E' → Fr m E E') {e : Exit} {a : Act} {w : World} (h : KPost n k E1 D N X R C e a w) : KPost n m E D N X R C e a w := by
  cases e <;> first
    | exact h
    | (obtain ⟨E', h1, h2, h3⟩ := h; exact ⟨E', h1, hf _ h2, h3⟩)
theorem den_wp {A : Ann} (hm : P.follows .mixedOrders = true) {n rm : Nat} {D : List Deferred} : ∀ (c : Code) (N : Env → World → Prop) (X : Nat → Env → World → Prop) (R : Env → World → Prop)
    (C : Env → List PanicEntry → World → Prop) (E : Env) (a : Act) (w : World), okC n c = true → okH c = true → okM rm c = true → (∀ E E' : Env, (∀ t, rm.testBit t = true → E t = E' t) → C E = C E') → St n a E D → den P A c N X R C E w → c.wp P (KPost n (asg c) E D N X R C) a w := by
  intro c
  induction c with
  | skip => intro N X R C E a w _ _ _ _ hs h; exact wp_skip ⟨E, hs, Fr.refl _ _, h⟩
  | exit i => intro N X R C E a w _ _ _ _ hs h; exact wp_exit ⟨E, hs, Fr.refl _ _, h⟩
  | ret => intro N X R C E a w _ _ _ _ hs h; exact wp_ret ⟨E, hs, Fr.refl _ _, h⟩
  | region id ops draw =>
    intro N X R C E a w hok hh hM hC hs h
    have hpost : ∀ e a w, RPost n (asgL ops.toList) E D N C e a w → KPost n (asg (.region id ops draw)) E D N X R C e a w := by
      intro e a w hq
      cases e <;> first | exact hq | exact hq.elim
    have hposd : draw = true → ∀ e a w, RPost n (asgL ops.toList) E D N (fun _ => C E) e a w → KPost n (asg (.region id ops draw)) E D N X R C e a w := by
      intro hdr e a w hq
      subst hdr
      cases e <;> first
        | exact hq.elim
        | exact hq
        | (obtain ⟨E', h1, h2, h3⟩ := hq
           refine ⟨E', h1, h2, ?_⟩
           have h0 : Nat.land (asgL ops.toList) rm = 0 := by
             simp only [okM, Bool.not_true, Bool.false_or] at hM
             exact Nat.eq_of_beq_eq_true hM
           rw [← hC E E' fun t ht => (h2 t (by
             have h4 : (asgL ops.toList &&& rm).testBit t = false := by
               have : asgL ops.toList &&& rm = 0 := h0
               rw [this, Nat.zero_testBit]
             rw [Nat.testBit_and, ht, Bool.and_true] at h4
             exact h4)).symm]
           exact h3)
    unfold den at h
    cases draw with
    | false => exact wp_region_list (wpList_mono hpost _ _ _ (dOps_wp ops.toList E a w hok hs h))
    | true =>
      simp only [cond_true] at h
      split at h
      · rename_i k _
        cases hk2 : Nat.ble 2000 k <;> rw [hk2] at h
        · simp only [cond_false] at h
          cases hk : Nat.ble 1000 k <;> rw [hk] at h
          · simp only [cond_false] at h
            obtain ⟨hl, h⟩ := cond_false_out h
            exact wp_mono (region_tail hm hl hok hs h) hpost
          · exact wp_mono (region_any hm (by simpa [okH] using hh) hok hs h) (hposd rfl)
        · simp only [cond_true] at h
          obtain ⟨hl, h⟩ := cond_false_out h
          exact wp_mono (region_last hm hl (by simpa [okH] using hh) hok hs h) (hposd rfl)
      · cases hb : A.held id <;> rw [hb] at h
        · simp only [cond_false] at h
          obtain ⟨hl, h⟩ := cond_false_out h
          exact region_quiet (N := N) hm hl hok hs h fun a' w' hq => hq
        · exact wp_mono (region_held hm (by simpa [okH] using hh) hok hs h) (hposd rfl)
  | seq x y ihx ihy =>
    intro N X R C E a w hok hh hM hC hs h
    simp only [okC, okH, okM, Bool.and_eq_true] at hok hh hM
    unfold den at h
    refine wp_seq ?_
    split at h
    · refine wp_mono (ihx _ X R C E a w hok.1 hh.1 hM.1 hC hs h) fun e a' w' hq => ?_
      cases e with
      | normal =>
        obtain ⟨E', h1, h2, h3⟩ := hq
        exact wp_mono (ihy _ _ _ _ _ _ _ hok.2 hh.2 hM.2 hC h1 h3) fun e a w hq => KPost.weaken (fun E2 h4 => h2.trans h4) hq
      | exit i => exact KPost.weaken (N := N) (X := X) (R := R) (C := C) (fun E2 h4 => Fr.left h4) (e := .exit i) hq
      | ret => exact KPost.weaken (N := N) (X := X) (R := R) (C := C) (fun E2 h4 => Fr.left h4) (e := .ret) hq
      | panic ch => exact KPost.weaken (N := N) (X := X) (R := R) (C := C) (fun E2 h4 => Fr.left h4) (e := .panic ch) hq
      | goto l => exact hq
      | outgrown => exact hq
    · rename_i ts _
      obtain ⟨K, h1, h2⟩ := h
      refine wp_mono (ihx _ X R C E a w hok.1 hh.1 hM.1 hC hs h1) fun e a' w' hq => ?_
      cases e with
      | normal =>
        obtain ⟨E', g1, g2, g3⟩ := hq
        obtain ⟨s, hE, hK⟩ := getP_mix g2 g3
        exact wp_mono (ihy _ _ _ _ _ _ _ hok.2 hh.2 hM.2 hC (hE ▸ g1) (h2 s w' hK E')) fun e a w hq => KPost.weaken (fun E2 h4 => g2.trans (hE ▸ h4)) hq
      | exit i => exact KPost.weaken (N := N) (X := X) (R := R) (C := C) (fun E2 h4 => Fr.left h4) (e := .exit i) hq
      | ret => exact KPost.weaken (N := N) (X := X) (R := R) (C := C) (fun E2 h4 => Fr.left h4) (e := .ret) hq
      | panic ch => exact KPost.weaken (N := N) (X := X) (R := R) (C := C) (fun E2 h4 => Fr.left h4) (e := .panic ch) hq
      | goto l => exact hq
      | outgrown => exact hq
  | cond c x y ihx ihy =>
    intro N X R C E a w hok hh hM hC hs h
    simp only [okC, okH, okM, Bool.and_eq_true] at hok hh hM
    unfold den at h
    split at h
    · rename_i t ht
      have he : a.eval c = .bool t := by rw [hs.eval]; exact ht
      cases t
      · exact wp_cond_false he (wp_mono (ihy _ _ _ _ _ _ _ hok.2 hh.2 hM.2 hC hs h) fun e a w hq => KPost.weaken (fun E2 h4 => Fr.right h4) hq)
      · exact wp_cond_true he (wp_mono (ihx _ _ _ _ _ _ _ hok.1 hh.1 hM.1 hC hs h) fun e a w hq => KPost.weaken (fun E2 h4 => Fr.left h4) hq)
    · exact h.elim
  | block id b ih =>
    intro N X R C E a w hok hh hM hC hs h
    unfold den at h
    refine wp_block (wp_mono (ih _ _ _ _ _ _ _ hok hh hM hC hs h) fun e a' w' hq => ?_)
    cases e with
    | exit i =>
      obtain ⟨E', h1, h2, h3⟩ := hq
      by_cases hi : i = id
      · subst hi
        simp only [Exit.inBlock, if_true]
        have hb : Nat.beq i i = true := Nat.beq_refl i
        rw [hb] at h3
        exact ⟨E', h1, h2, h3⟩
      · simp only [Exit.inBlock, hi, if_false]
        have hb : Nat.beq i id = false := by
          rw [Bool.eq_false_iff]; intro hc; exact hi (Nat.eq_of_beq_eq_true hc)
        rw [hb] at h3
        exact ⟨E', h1, h2, h3⟩
    | normal => exact hq
    | ret => exact hq
    | panic ch => exact hq
    | goto l => exact hq
    | outgrown => exact hq
  | loop b ih =>
    intro N X R C E a w hok hh hM hC hs h
    unfold den at h
    obtain ⟨s0, hE0, I, μ, hI0, hround⟩ := getP_mix (Fr.refl (asg b) E) h
    generalize hts : A.loops (firstReg b) = ts at *
    refine wp_loop_ghost (fun k a' w' => ∃ (s : Pays ts) (J : Env), St n a' (mixE ts s (asg b) J E) D ∧ Fr (asg b) E (mixE ts s (asg b) J E) ∧ I s w' ∧ μ s w' = k) (μ s0 w) ⟨s0, E, hE0 ▸ hs, hE0 ▸ Fr.refl _ _, hI0, rfl⟩ ?_
    rintro k a' w' ⟨s, J, g1, g2, g3, rfl⟩
    refine wp_mono (ih _ _ _ _ _ _ _ hok hh hM hC g1 (hround s w' g3 J)) fun e a2 w2 hq => ?_
    cases e with
    | normal =>
      obtain ⟨E2, q1, q2, q3⟩ := hq
      have q4 : Fr (asg b) E E2 := g2.trans1 q2
      obtain ⟨s', hE2, hI', hlt⟩ := getP_mix q4 q3
      exact ⟨μ s' w2, hlt, s', E2, hE2 ▸ q1, hE2 ▸ q4, hI', rfl⟩
    | exit i => exact KPost.weaken (N := N) (X := X) (R := R) (C := C) (fun E2 h4 => g2.trans1 h4) (e := .exit i) hq
    | ret => exact KPost.weaken (N := N) (X := X) (R := R) (C := C) (fun E2 h4 => g2.trans1 h4) (e := .ret) hq
    | panic ch => exact KPost.weaken (N := N) (X := X) (R := R) (C := C) (fun E2 h4 => g2.trans1 h4) (e := .panic ch) hq
    | goto l => exact hq
    | outgrown => exact hq
  | label l => intro N X R C E a w _ _ _ _ hs h; exact wp_label ⟨E, hs, Fr.refl _ _, h⟩
  | scope b ih =>
    intro N X R C E a w hok hh hM hC hs h
    unfold den at h
    refine wp_scope_straight (wp_mono (ih _ _ _ _ _ _ _ hok hh hM hC hs h) fun e a' w' hq => ?_)
    cases e <;> first
      | exact hq
      | exact hq.elim
  | _ => intro N X R C E a w hok _ _ _ _ _; simp [okC] at hok
end
end Go.Proofs.YtkfdkcclojepnaaGreat
