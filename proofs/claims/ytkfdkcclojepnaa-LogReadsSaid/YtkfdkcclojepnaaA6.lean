/- Several texts as one. Conditions: none. -/
import Derived.Test.YtkfdkcclojepnaaA2
import Derived.Test.YtkfdkcclojepnaaTg2
/- Layer 6, plain: what a Force, a crash and an Open leave in the sectors. Conditions: none. -/
set_option linter.unusedVariables false
set_option linter.unusedSimpArgs false
namespace Go.Proofs.Ytkfdkcclojepnaa
open Go Go.RowKit

/-- Writes and a sync. -/
def putP : Dv → List (Int × List UInt8) → Nat × Dv
  | v, [] => v.sync
  | v, p :: r => if (v.write p.1 p.2).1 ≠ 0 then v.write p.1 p.2 else putP (v.write p.1 p.2).2 r
theorem putL_P : ∀ (l : List (List UInt8)) (v : Dv) (i : Int), putL v i l = putP v (zipI i l)
  | [], v, i => rfl
  | b :: r, v, i => by
    rw [putL, zipI, putP]
    dsimp only
    rw [putL_P r]
def wipP : Int → List (List UInt8) → List (Int × List UInt8)
  | _, [] => []
  | i, s :: r => if zerosB s then wipP (i + 1) r else (i, zer512) :: wipP (i + 1) r
theorem wipeL_P : ∀ (l : List (List UInt8)) (v : Dv) (i : Int), wipeL v i l true = putP v (wipP i l)
  | [], v, i => rfl
  | s :: r, v, i => by
    rw [wipeL, wipP]
    split
    · exact wipeL_P r v (i + 1)
    · rw [putP]
      dsimp only
      rw [wipeL_P r]
theorem wipeL_0 : ∀ (l : List (List UInt8)) (v : Dv) (i : Int), wipeL v i l false = if wipP i l = [] then (0, v) else putP v (wipP i l)
  | [], v, i => rfl
  | s :: r, v, i => by
    rw [wipeL, wipP]
    split
    · exact wipeL_0 r v (i + 1)
    · rw [if_neg (c := (i, zer512) :: wipP (i + 1) r = []) (by simp), putP]
      dsimp only
      rw [wipeL_P r]
/-- Places and bytes that may be written. -/
def Pok (n : Nat) (P : List (Int × List UInt8)) : Prop := ∀ p ∈ P, 0 ≤ p.1 ∧ p.1 < (n : Int) ∧ p.2.length = 512
theorem wok {v : Dv} (hd : v.down = false) {p : Int × List UInt8} (hp : 0 ≤ p.1 ∧ p.1 < (v.n : Int) ∧ p.2.length = 512) : v.write p.1 p.2 = if v.step = 1 then (40, (v.bump.add p.1 p.2).fall v.keep v.torn v.off) else (0, v.bump.add p.1 p.2) := by
  unfold Dv.write
  rw [hd, if_neg (by simp), if_neg (fun hh => hh ⟨hp.1, hp.2.1⟩), if_neg (fun hh => hh hp.2.2)]
theorem putP_Ok : ∀ (P : List (Int × List UInt8)) {v : Dv}, v.Ok → (putP v P).2.Ok
  | [], v, h => h.sync
  | p :: r, v, h => by
    rw [putP]
    split
    · exact h.write _ _
    · exact putP_Ok r (h.write _ _)
theorem putP_up : ∀ (P : List (Int × List UInt8)) {v : Dv}, v.Ok → v.down = false → Pok v.n P → (v.step = 0 ∨ (P.length : Int) + 1 < v.step) →
    (putP v P).1 = 0 ∧ (putP v P).2.down = false ∧ (putP v P).2.q = [] ∧ (putP v P).2.img = syncL (v.q ++ P) v.img ∧ (v.step = 0 → (putP v P).2.step = 0) ∧ (0 ≤ v.calls → v.calls + P.length + 1 < 1000000000000 → (putP v P).2.calls = v.calls + (P.length + 1)) ∧ (putP v P).2.n = v.n
  | [], v, hok, hd, hp, hs => by
    have e : v.sync = (0, v.bump.synced) := by
      unfold Dv.sync
      rw [hd, if_neg (by simp), if_neg]
      have := hok.step
      simp only [List.length_nil] at hs
      omega
    have hn := sync_n hok
    rw [putP, e, List.append_nil]
    rw [e] at hn
    refine ⟨rfl, hd, rfl, rfl, ?_, ?_, hn⟩
    · intro h0
      show (if v.step = 0 then (0 : Int) else v.step - 1) = _
      rw [if_pos h0]
    · intro hc hc2
      show IntKind.wrap .i64 (v.calls + 1) = _
      simp only [List.length_nil] at hc2 ⊢
      rw [wrap_i64 (by omega) (by omega)]
      rfl
  | p :: r, v, hok, hd, hp, hs => by
    rw [List.length_cons] at hs
    have hp0 := hp p (by simp)
    have st := hok.step
    have e : v.write p.1 p.2 = (0, v.bump.add p.1 p.2) := by rw [wok hd hp0, if_neg (by omega)]
    have ok1 := hok.write p.1 p.2
    rw [e] at ok1
    have sE : (v.bump.add p.1 p.2).step = if v.step = 0 then 0 else v.step - 1 := rfl
    have ih := putP_up r (v := v.bump.add p.1 p.2) ok1 hd (fun x hx => hp x (by simp [hx])) (by rw [sE]; split <;> omega)
    rw [putP, e, if_neg (by simp)]
    refine ⟨ih.1, ih.2.1, ih.2.2.1, ?_, ?_, ?_, ih.2.2.2.2.2.2⟩
    · rw [ih.2.2.2.1]
      show syncL ((v.q ++ [(p.1, p.2)]) ++ _) v.img = _
      rw [List.append_assoc]
      rfl
    · intro h0
      exact ih.2.2.2.2.1 (by rw [sE, if_pos h0])
    · intro hc hc2
      rw [List.length_cons] at hc2
      have cE : (v.bump.add p.1 p.2).calls = v.calls + 1 := by
        show IntKind.wrap .i64 (v.calls + 1) = _
        rw [wrap_i64 (by omega) (by omega)]
      rw [ih.2.2.2.2.2.1 (by omega) (by omega), cE, List.length_cons]
      omega
theorem putP_fall : ∀ (P : List (Int × List UInt8)) {v : Dv}, v.Ok → v.down = false → Pok v.n P → (1 ≤ v.step ∧ v.step ≤ (P.length : Int) + 1) →
    (putP v P).1 = 40 ∧ (putP v P).2.down = true ∧ (putP v P).2.q = [] ∧ ∃ m, (putP v P).2.img = fallL v.keep v.torn v.off 0 (v.q ++ P.take m) v.img
  | [], v, hok, hd, hp, hs => by
    simp only [List.length_nil] at hs
    have e : v.sync = (40, v.bump.fall v.keep v.torn v.off) := by
      unfold Dv.sync
      rw [hd, if_neg (by simp), if_pos (by omega)]
    rw [putP, e]
    exact ⟨rfl, rfl, rfl, 0, by simp [Dv.fall, Dv.bump]⟩
  | p :: r, v, hok, hd, hp, hs => by
    rw [List.length_cons] at hs
    have hp0 := hp p (by simp)
    have st := hok.step
    by_cases h1 : v.step = 1
    · have e : v.write p.1 p.2 = (40, (v.bump.add p.1 p.2).fall v.keep v.torn v.off) := by rw [wok hd hp0, if_pos h1]
      rw [putP, e, if_pos (by simp)]
      exact ⟨rfl, rfl, rfl, 1, rfl⟩
    · have e : v.write p.1 p.2 = (0, v.bump.add p.1 p.2) := by rw [wok hd hp0, if_neg h1]
      have ok1 := hok.write p.1 p.2
      rw [e] at ok1
      have sE : (v.bump.add p.1 p.2).step = if v.step = 0 then 0 else v.step - 1 := rfl
      obtain ⟨i1, i2, i3, m, i6⟩ := putP_fall r (v := v.bump.add p.1 p.2) ok1 hd (fun x hx => hp x (by simp [hx])) (by rw [sE, if_neg (by omega)]; omega)
      rw [putP, e, if_neg (by simp)]
      refine ⟨i1, i2, i3, m + 1, ?_⟩
      rw [i6]
      show fallL v.keep v.torn v.off 0 ((v.q ++ [(p.1, p.2)]) ++ r.take m) v.img = _
      rw [List.take_succ_cons, List.append_assoc]
      rfl
/-- Places are named once. -/
def Pone (P : List (Int × List UInt8)) : Prop := P.Pairwise fun a b => a.1 ≠ b.1
theorem read_one {j : Int} : ∀ (P : List (Int × List UInt8)) (o : List UInt8), Pone P → (∀ p ∈ P, p.1 = j → readL j P o = p.2) ∧ ((∀ p ∈ P, p.1 ≠ j) → readL j P o = o)
  | [], o, _ => ⟨fun p hp => absurd hp (by simp), fun _ => rfl⟩
  | q :: r, o, h => by
    obtain ⟨h1, h2⟩ := List.pairwise_cons.1 h
    constructor
    · intro p hp hpj
      rw [readL]
      rcases List.mem_cons.1 hp with rfl | hp
      · rw [if_pos hpj]
        exact (read_one r _ h2).2 fun x hx => by rw [← hpj]; exact fun hh => h1 x hx hh.symm
      · exact (read_one r _ h2).1 p hp hpj
    · intro hn
      rw [readL, if_neg (hn q (by simp))]
      exact (read_one r _ h2).2 fun x hx => hn x (by simp [hx])
theorem fall_one {n j : Nat} (hj : j < n) (keep : List Nat) (torn off : Int) : ∀ (P : List (Int × List UInt8)) (k : Nat) (img : List UInt8), img.length = n * 512 → Pok n P → Pone P → ∀ p ∈ P, p.1 = (j : Int) →
    Mix p.2 ((img.drop (j * 512)).take 512) (((fallL keep torn off k P img).drop (j * 512)).take 512)
  | [], _, _, _, _, _, p, hp, _ => by cases hp
  | q :: r, k, img, h, hq, h1, p, hp, hpj => by
    obtain ⟨h1, h2⟩ := List.pairwise_cons.1 h1
    have hq0 := hq q (by simp)
    have step : ∀ img1, (∃ c, c ≤ 512 ∧ img1 = (if keptN keep k then ovr img (q.1.toNat * 512) q.2 else if (k : Int) = torn then ovr img (q.1.toNat * 512) (q.2.take (clampN off)) else img)) → img1.length = n * 512 := by
      rintro img1 ⟨_, _, rfl⟩
      split
      · exact lay_ln h (by omega) (by omega)
      · split
        · exact lay_ln h (by omega) (by rw [List.length_take]; omega)
        · exact h
    have l1 := step _ ⟨0, by omega, rfl⟩
    rw [fallL]
    rcases List.mem_cons.1 hp with rfl | hp
    · rw [sect_fall hj keep torn off r _ _ l1 (fun x hx => hq x (by simp [hx])) fun x hx => by rw [← hpj]; exact fun hh => h1 x hx hh.symm]
      have hjt : p.1.toNat = j := by omega
      rw [hjt]
      split
      · refine ⟨512, by omega, ?_⟩
        rw [sect_all h hj hq0.2.2, if_pos rfl, List.take_of_length_le (by omega), List.drop_eq_nil_of_le (by rw [List.length_take]; omega), List.append_nil]
      · split
        · refine ⟨clampN off, clamp_le off, ?_⟩
          have hl : (p.2.take (clampN off)).length = clampN off := by have := clamp_le off; rw [List.length_take]; omega
          rw [sect_ovr h hj (by have := clamp_le off; omega), if_pos rfl, hl]
        · exact ⟨0, by omega, by simp⟩
    · have ih := fall_one hj keep torn off r (k + 1) _ l1 (fun x hx => hq x (by simp [hx])) h2 p hp hpj
      have hne : q.1 ≠ (j : Int) := by rw [← hpj]; exact h1 p hp
      have e : ((if keptN keep k then ovr img (q.1.toNat * 512) q.2 else if (k : Int) = torn then ovr img (q.1.toNat * 512) (q.2.take (clampN off)) else img).drop (j * 512)).take 512 = (img.drop (j * 512)).take 512 := by
        split
        · rw [sect_all h (by omega) hq0.2.2, if_neg (by omega)]
        · split
          · rw [sect_ovr h (by omega) (by rw [List.length_take]; omega), if_neg (by omega)]
          · rfl
      rw [e] at ih
      exact ih
theorem zipI_one : ∀ (l : List (List UInt8)) (i : Int), Pone (zipI i l) ∧ ∀ p ∈ zipI i l, i ≤ p.1
  | [], i => ⟨.nil, fun p hp => by cases hp⟩
  | b :: r, i => by
    obtain ⟨h1, h2⟩ := zipI_one r (i + 1)
    refine ⟨List.pairwise_cons.2 ⟨fun x hx => ?_, h1⟩, fun p hp => ?_⟩
    · have := h2 x hx
      show i ≠ x.1
      omega
    · rcases List.mem_cons.1 hp with rfl | hp
      · exact Int.le_refl _
      · have := h2 p hp
        omega
theorem wipP_one : ∀ (l : List (List UInt8)) (i : Int), Pone (wipP i l) ∧ ∀ p ∈ wipP i l, i ≤ p.1 ∧ p.1 < i + l.length ∧ p.2 = zer512
  | [], i => ⟨.nil, fun p hp => by cases hp⟩
  | s :: r, i => by
    obtain ⟨h1, h2⟩ := wipP_one r (i + 1)
    rw [wipP, List.length_cons]
    split
    · exact ⟨h1, fun p hp => by have := h2 p hp; exact ⟨by omega, by omega, this.2.2⟩⟩
    · refine ⟨List.pairwise_cons.2 ⟨fun x hx => ?_, h1⟩, fun p hp => ?_⟩
      · have := h2 x hx
        show i ≠ x.1
        omega
      · rcases List.mem_cons.1 hp with rfl | hp
        · exact ⟨Int.le_refl _, by show i < _; omega, rfl⟩
        · have := h2 p hp
          exact ⟨by omega, by omega, this.2.2⟩
theorem Pone.take {P : List (Int × List UInt8)} (h : Pone P) (m : Nat) : Pone (P.take m) := List.Pairwise.sublist (List.take_sublist m P) h

/-- What writes and a sync leave, on a disk of which nothing is pending. -/
theorem putP_sect {v : Dv} {P : List (Int × List UInt8)} (hok : v.Ok) (hd : v.down = false) (hq : v.q = []) (hp : Pok v.n P) (h1 : Pone P) :
    (putP v P).2.Ok ∧ (putP v P).2.q = [] ∧ (putP v P).2.n = v.n ∧
    (((putP v P).1 = 0 ∧ (putP v P).2.down = false ∧ (v.step = 0 → (putP v P).2.step = 0) ∧ (∀ j, j < v.n → (∀ p ∈ P, p.1 = (j : Int) → (putP v P).2.sect j = p.2) ∧ ((∀ p ∈ P, p.1 ≠ (j : Int)) → (putP v P).2.sect j = v.sect j))) ∨
     (v.step ≠ 0 ∧ (putP v P).1 = 40 ∧ (putP v P).2.down = true ∧ (∀ j, j < v.n → ((∃ p ∈ P, p.1 = (j : Int) ∧ Mix p.2 (v.sect j) ((putP v P).2.sect j)) ∨ (putP v P).2.sect j = v.sect j)))) := by
  have ok' := putP_Ok P hok
  have st := hok.step
  by_cases hs : v.step = 0 ∨ (P.length : Int) + 1 < v.step
  · obtain ⟨a1, a2, a3, a4, a5, _, a6⟩ := putP_up P hok hd hp hs
    refine ⟨ok', a3, a6, .inl ⟨a1, a2, a5, fun j hj => ?_⟩⟩
    rw [hq, List.nil_append] at a4
    unfold Dv.sect
    rw [a4, sect_sync hj P v.img hok.len hp]
    exact read_one P _ h1
  · obtain ⟨a1, a2, a3, m, a4⟩ := putP_fall P hok hd hp (by omega)
    rw [hq, List.nil_append] at a4
    have hpt : Pok v.n (P.take m) := fun p hp' => hp p (List.mem_of_mem_take hp')
    have hn : (putP v P).2.n = v.n := by
      have := fallL_len v.keep v.torn v.off v.n (P.take m) 0 v.img hok.len hpt
      rw [← a4] at this
      exact Dv.n_of this
    refine ⟨ok', a3, hn, .inr ⟨by omega, a1, a2, fun j hj => ?_⟩⟩
    unfold Dv.sect
    rw [a4]
    by_cases hex : ∃ p ∈ P.take m, p.1 = (j : Int)
    · obtain ⟨p, hp1, hp2⟩ := hex
      exact .inl ⟨p, List.mem_of_mem_take hp1, hp2, fall_one hj _ _ _ (P.take m) 0 v.img hok.len hpt (h1.take m) p hp1 hp2⟩
    · exact .inr (sect_fall hj _ _ _ (P.take m) 0 v.img hok.len hpt fun p hp1 hp2 => hex ⟨p, hp1, hp2⟩)
end Go.Proofs.Ytkfdkcclojepnaa

/- Layer 6, plain: a log's sectors behind a Force, a crash, an Open. Conditions: none. -/
set_option linter.unusedVariables false
set_option linter.unusedSimpArgs false
namespace Go.Proofs.Ytkfdkcclojepnaa
open Go Go.RowKit

theorem zipI_mem' : ∀ (l : List (List UInt8)) (i : Int) (p : Int × List UInt8), p ∈ zipI i l ↔ ∃ k, ∃ h : k < l.length, p = (i + k, l[k])
  | [], i, p => by simp [zipI]
  | b :: r, i, p => by
    rw [zipI, List.mem_cons, zipI_mem' r (i + 1) p]
    constructor
    · rintro (rfl | ⟨k, h, rfl⟩)
      · exact ⟨0, by simp, by simp⟩
      · exact ⟨k + 1, by simp; omega, by simp; omega⟩
    · rintro ⟨k, h, rfl⟩
      cases k with
      | zero => exact .inl (by simp)
      | succ k => exact .inr ⟨k, by simpa using h, by simp; omega⟩
theorem secL_get : ∀ (L : List RV) (f k : Nat) (h : k < (secL f L).length) (h' : k < L.length), (secL f L)[k] = secB (f + k + 1) (encB L[k])
  | [], _, _, _, h' => absurd h' (by simp)
  | r :: l, f, 0, _, _ => rfl
  | r :: l, f, k + 1, h, h' => by
    have := secL_get l (f + 1) k (by rw [secL_len]; simpa using h') (by simpa using h')
    simp only [secL, List.getElem_cons_succ]
    rw [this]
    congr 1
    omega
theorem isSec_zer (n : Nat) : isSec zer512 n = false := isSec_last (by unfold zer512; rw [List.getD_eq_getElem?_getD, List.getElem?_replicate, if_pos (by omega)]; rfl)
theorem isSec_first {s : List UInt8} {n : Nat} (h : (s.getD 0 0).toNat = 0) : isSec s n = false := by
  unfold isSec
  rw [h]
  simp
theorem zeros_eq {s : List UInt8} (h : zerosB s = true) (hl : s.length = 512) : s = zer512 := by
  unfold zerosB at h
  simp only [Bool.not_eq_true'] at h
  rw [List.any_eq_false] at h
  unfold zer512
  rw [List.eq_replicate_iff]
  refine ⟨hl, fun x hx => ?_⟩
  have := h x hx
  simp only [decide_eq_true_eq, Decidable.not_not] at this
  exact UInt8.toNat_inj.1 (by simpa using this)
theorem zer_zeros : zerosB zer512 = true := by
  unfold zerosB zer512
  rw [replicate_any]
  rfl
/-- A log's sectors on a disk that stands still. -/
structure LogD (v : Dv) (g : Lg) : Prop where
  ok : v.Ok
  up : v.down = false
  q : v.q = []
  room : g.first + g.count ≤ v.n
  rc : ∀ k (h : k < g.recs.length), k < g.forced → v.sect (g.first + k) = secB (k + 1) (encB g.recs[k])
  z : ∀ k, g.forced ≤ k → k < g.count → v.sect (g.first + k) = zer512
/-- The first so many records lie there, and the next does not. -/
structure Cr (v : Dv) (f c : Nat) (recs : List RV) (m : Nat) : Prop where
  ok : v.Ok
  q : v.q = []
  room : f + c ≤ v.n
  mc : m ≤ c
  mr : m ≤ recs.length
  rc : ∀ k (h : k < recs.length), k < m → v.sect (f + k) = secB (k + 1) (encB recs[k])
  st : m < c → isSec (v.sect (f + m)) (m + 1) = false
def RecsOk (recs : List RV) : Prop := ∀ k (h : k < recs.length), chkN recs[k] = 0 ∧ (recs[k]).w64 ∧ (recs[k]).lsn = ((k + 1 : Nat) : Int)
theorem upto (P : Nat → Prop) (a : Nat) : ∀ d, ∃ m, a ≤ m ∧ m ≤ a + d ∧ (∀ k, a ≤ k → k < m → P k) ∧ (m < a + d → ¬ P m)
  | 0 => ⟨a, Nat.le_refl _, Nat.le_refl _, fun k h1 h2 => by omega, fun h => by omega⟩
  | d + 1 => by
    obtain ⟨m, h1, h2, h3, h4⟩ := upto P a d
    by_cases hm : m < a + d
    · exact ⟨m, h1, by omega, h3, fun _ => h4 hm⟩
    · have hme : m = a + d := by omega
      by_cases hp : P m
      · refine ⟨m + 1, by omega, by omega, fun k hk1 hk2 => ?_, fun h => by omega⟩
        by_cases hkm : k < m
        · exact h3 k hk1 hkm
        · have : k = m := by omega
          rw [this]
          exact hp
      · exact ⟨m, h1, by omega, h3, fun _ => hp⟩
theorem frcP_law {v : Dv} {g : Lg} (hg : g.Ok) (h : LogD v g) {n : Nat} (h1 : g.forced < n) (h2 : n ≤ g.recs.length) :
    ((frcP v g n).1 = 0 ∧ LogD (frcP v g n).2 { g with forced := n } ∧ (v.step = 0 → (frcP v g n).2.step = 0) ∧ (frcP v g n).2.n = v.n) ∨
    (v.step ≠ 0 ∧ (frcP v g n).1 = 40 ∧ (frcP v g n).2.down = true ∧ (frcP v g n).2.n = v.n ∧ ∃ m, g.forced ≤ m ∧ m ≤ n ∧ Cr (frcP v g n).2 g.first g.count g.recs m) := by
  have gf := hg.f
  have gn := hg.n
  have room := h.room
  have Ll : ((g.recs.drop g.forced).take (n - g.forced)).length = n - g.forced := by rw [List.length_take, List.length_drop]; omega
  have Sl : (frcL g n).length = n - g.forced := by unfold frcL; rw [secL_len, Ll]
  have Sg : ∀ k (hk : k < (frcL g n).length) (hk2 : g.forced + k < g.recs.length), (frcL g n)[k] = secB (g.forced + k + 1) (encB g.recs[g.forced + k]) := fun k hk hk2 => by
    have := secL_get ((g.recs.drop g.forced).take (n - g.forced)) g.forced k hk (by rw [Ll]; omega)
    have e : ((g.recs.drop g.forced).take (n - g.forced))[k]'(by rw [Ll]; omega) = g.recs[g.forced + k] := by rw [List.getElem_take, List.getElem_drop]
    rw [e] at this
    exact this
  have el : ∀ k (hk : k < g.recs.length), (encB g.recs[k]).length ≤ 502 := fun k hk => (enc_len (hg.r k hk).1 (hg.r k hk).2.1).2
  have mem : ∀ p, p ∈ zipI ((g.first + g.forced : Nat) : Int) (frcL g n) ↔ ∃ k, ∃ hk : g.forced + k < g.recs.length, g.forced + k < n ∧ p = (((g.first + g.forced + k : Nat) : Int), secB (g.forced + k + 1) (encB g.recs[g.forced + k])) := fun p => by
    rw [zipI_mem']
    constructor
    · rintro ⟨k, hk, rfl⟩
      refine ⟨k, by omega, by omega, ?_⟩
      rw [Sg k hk (by omega)]
      congr 1
    · rintro ⟨k, hk, hk2, rfl⟩
      refine ⟨k, by omega, ?_⟩
      rw [Sg k (by omega) hk]
      congr 1
  have hp : Pok v.n (zipI ((g.first + g.forced : Nat) : Int) (frcL g n)) := fun p hp => by
    obtain ⟨k, hk, hk2, rfl⟩ := (mem p).1 hp
    refine ⟨by dsimp only; omega, by dsimp only; omega, ?_⟩
    have := el _ hk
    exact secB_len (by omega)
  obtain ⟨b1, b2, b3, b4⟩ := putP_sect h.ok h.up h.q hp (zipI_one _ _).1
  rw [← putL_P] at b1 b2 b3 b4
  have hfp : putL v ((g.first + g.forced : Nat) : Int) (frcL g n) = frcP v g n := rfl
  rw [hfp] at b1 b2 b3 b4
  rcases b4 with ⟨c1, c2, c3, c4⟩ | ⟨c0, c1, c2, c4⟩
  · refine .inl ⟨c1, ⟨b1, c2, b2, by rw [b3]; exact room, fun k hk hkn => ?_, fun k hk1 hk2 => ?_⟩, c3, b3⟩
    · show (frcP v g n).2.sect (g.first + k) = secB (k + 1) (encB g.recs[k])
      have hk' : k < g.recs.length := hk
      have hkn' : k < n := hkn
      by_cases hkf : k < g.forced
      · rw [(c4 (g.first + k) (by omega)).2 fun p hp => ?_]
        · exact h.rc k hk' hkf
        · obtain ⟨j, hj, hj2, rfl⟩ := (mem p).1 hp
          dsimp only
          omega
      · have := (c4 (g.first + k) (by omega)).1 (((g.first + g.forced + (k - g.forced) : Nat) : Int), secB (g.forced + (k - g.forced) + 1) (encB (g.recs[g.forced + (k - g.forced)]'(by omega)))) ((mem _).2 ⟨k - g.forced, by omega, by omega, rfl⟩) (by dsimp only; omega)
        rw [this]
        have ek : g.forced + (k - g.forced) = k := by omega
        dsimp only
        simp only [ek]
    · show (frcP v g n).2.sect (g.first + k) = zer512
      have hk1' : n ≤ k := hk1
      have hk2' : k < g.count := hk2
      rw [(c4 (g.first + k) (by omega)).2 fun p hp => ?_]
      · exact h.z k (by omega) hk2'
      · obtain ⟨j, hj, hj2, rfl⟩ := (mem p).1 hp
        dsimp only
        omega
  · have sec : ∀ k, g.forced ≤ k → ∀ hk : k < g.recs.length, k < n → (frcP v g n).2.sect (g.first + k) = secB (k + 1) (encB g.recs[k]) ∨ isSec ((frcP v g n).2.sect (g.first + k)) (k + 1) = false := fun k hkf hk hkn => by
      have hz := h.z k hkf (by omega)
      rcases c4 (g.first + k) (by omega) with ⟨p, hp1, hp2, hmx⟩ | he
      · obtain ⟨j, hj, hj2, rfl⟩ := (mem p).1 hp1
        dsimp only at hp2 hmx
        have hjk : g.forced + j = k := by omega
        simp only [hjk] at hmx
        rw [hz] at hmx
        rcases torn_sec (el k hk) hmx with h5 | h5
        · exact .inl h5
        · exact .inr (isSec_last h5)
      · rw [he, hz]
        exact .inr (isSec_zer _)
    obtain ⟨m, m1, m2, m3, m4⟩ := upto (fun k => ∃ hk : k < g.recs.length, (frcP v g n).2.sect (g.first + k) = secB (k + 1) (encB g.recs[k])) g.forced (n - g.forced)
    refine .inr ⟨c0, c1, c2, b3, m, m1, by omega, ⟨b1, b2, by rw [b3]; exact room, by omega, by omega, fun k hk hkm => ?_, fun hmc => ?_⟩⟩
    · by_cases hkf : k < g.forced
      · rcases c4 (g.first + k) (by omega) with ⟨p, hp1, hp2, _⟩ | he
        · obtain ⟨j, hj, hj2, rfl⟩ := (mem p).1 hp1
          dsimp only at hp2
          omega
        · rw [he]
          exact h.rc k hk hkf
      · obtain ⟨_, h5⟩ := m3 k (by omega) hkm
        exact h5
    · by_cases hmn : m < n
      · rcases sec m m1 (by omega) hmn with h5 | h5
        · exact absurd ⟨by omega, h5⟩ (m4 (by omega))
        · exact h5
      · rcases c4 (g.first + m) (by omega) with ⟨p, hp1, hp2, _⟩ | he
        · obtain ⟨j, hj, hj2, rfl⟩ := (mem p).1 hp1
          dsimp only at hp2
          omega
        · rw [he, h.z m m1 hmc]
          exact isSec_zer _
/-- A crash where nothing is pending. -/
theorem crash_law {v : Dv} {g : Lg} (hg : g.Ok) (h : LogD v g) (keep : List Nat) (torn off : Int) : (v.crash keep torn off).2.down = true ∧ (v.crash keep torn off).2.n = v.n ∧ Cr (v.crash keep torn off).2 g.first g.count g.recs g.forced := by
  have e : (v.crash keep torn off) = (0, v.fall keep torn off) := by unfold Dv.crash; rw [h.up, if_neg (by simp)]
  have ei : (v.fall keep torn off).img = v.img := by unfold Dv.fall; rw [h.q]; rfl
  have es : ∀ j, (v.fall keep torn off).sect j = v.sect j := fun j => by unfold Dv.sect; rw [ei]
  have ok := h.ok.crash keep torn off
  have en : (v.fall keep torn off).n = v.n := by unfold Dv.n; rw [ei]
  have gf := hg.f
  have gn := hg.n
  rw [e] at ok ⊢
  refine ⟨rfl, en, ⟨ok, rfl, by dsimp only; rw [en]; exact h.room, by omega, gf, fun k hk hkf => ?_, fun hf => ?_⟩⟩
  · dsimp only
    rw [es]
    exact h.rc k hk hkf
  · dsimp only
    rw [es, h.z _ (Nat.le_refl _) hf]
    exact isSec_zer _
end Go.Proofs.Ytkfdkcclojepnaa

/- Layer 6, plain: Open on such sectors. Conditions: none. -/
set_option linter.unusedVariables false
set_option linter.unusedSimpArgs false
namespace Go.Proofs.Ytkfdkcclojepnaa
open Go Go.RowKit

theorem foundN_eq : ∀ (S : List (List UInt8)) (i m : Nat), m ≤ S.length → (∀ k (h : k < S.length), k < m → isSec S[k] (i + k + 1) = true) → (∀ h : m < S.length, isSec S[m] (i + m + 1) = false) → foundN S i = m
  | [], i, m, hm, _, _ => by simp at hm; subst hm; rfl
  | s :: r, i, 0, _, _, h => by
    have := h (by simp)
    rw [foundN]
    rw [if_neg]
    simpa using this
  | s :: r, i, m + 1, hm, h1, h2 => by
    have h0 := h1 0 (by simp) (by omega)
    rw [foundN]
    rw [if_pos (by simpa using h0)]
    rw [foundN_eq r (i + 1) m (by simpa using hm) (fun k hk hkm => ?_) (fun hk => ?_)]
    · have := h1 (k + 1) (by simpa using hk) (by omega)
      rw [show i + 1 + k + 1 = i + (k + 1) + 1 by omega]
      exact this
    · have := h2 (by simpa using hk)
      rw [show i + 1 + m + 1 = i + (m + 1) + 1 by omega]
      exact this
theorem recOf_enc {r : RV} {i : Nat} (hc : chkN r = 0) (h64 : r.w64) (hl : r.lsn = ((i + 1 : Nat) : Int)) : recOf (encB r) i = r ∧ recE (encB r) i = 0 := by
  have hd := dec_enc hc h64 []
  rw [List.append_nil, if_pos rfl] at hd
  have e : recOf (encB r) i = r := by
    unfold recOf
    rw [hd]
    show ({ r with lsn := ((i + 1 : Nat) : Int) } : RV) = r
    rw [← hl]
  refine ⟨e, ?_⟩
  unfold recE
  rw [if_pos (by rw [hd]), e, hc]
theorem readR_enc : ∀ (L : List RV) (i : Nat), (∀ k (h : k < L.length), chkN L[k] = 0 ∧ (L[k]).w64 ∧ (L[k]).lsn = ((i + k + 1 : Nat) : Int)) → readR (L.map encB) i = (0, L)
  | [], i, _ => rfl
  | r :: l, i, h => by
    obtain ⟨h1, h2, h3⟩ := h 0 (by simp)
    obtain ⟨e1, e2⟩ := recOf_enc (i := i) h1 h2 h3
    have e1 : recOf (encB r) i = r := e1
    have e2 : recE (encB r) i = 0 := e2
    rw [List.map_cons, readR, e2, if_neg (by simp), e1, readR_enc l (i + 1) fun k hk => ?_]
    have := h (k + 1) (by simpa using hk)
    rw [show i + 1 + k + 1 = i + (k + 1) + 1 by omega]
    exact this
theorem wipP_mem : ∀ (l : List (List UInt8)) (i : Int) (k : Nat) (h : k < l.length), zerosB l[k] = true ∨ (i + k, zer512) ∈ wipP i l
  | s :: r, i, 0, _ => by
    rw [wipP]
    split
    · rename_i h; exact .inl h
    · exact .inr (by simp)
  | s :: r, i, k + 1, h => by
    rw [wipP]
    rcases wipP_mem r (i + 1) k (by simpa using h) with h1 | h1
    · exact .inl h1
    · have e : i + ((k + 1 : Nat) : Int) = i + 1 + (k : Int) := by omega
      rw [e]
      split
      · exact .inr h1
      · exact .inr (List.mem_cons_of_mem _ h1)
theorem read_sect {v : Dv} (hd : v.down = false) (hq : v.q = []) {i : Nat} (hi : i < v.n) : v.read (i : Int) = (v.sect i, 0) := by
  unfold Dv.read
  rw [hd, if_neg (by simp), if_neg (fun hh => hh ⟨by omega, by omega⟩), hq, Int.toNat_natCast]
  rfl
theorem syncQ_nil {v : Dv} (hq : v.q = []) : syncQ v = (0, v) := by
  unfold syncQ
  rw [hq]
  rfl
theorem secsOf_sect {v : Dv} (hd : v.down = false) (hq : v.q = []) {f c k : Nat} (hr : f + c ≤ v.n) (h : k < (secsOf v f c).length) : (secsOf v f c)[k] = v.sect (f + k) := by
  rw [secsOf_get, read_sect hd hq (by rw [secsOf_len] at h; omega)]
/-- Open, step by step, on a disk of which nothing is pending. -/
theorem openR_nil {v : Dv} {f c : Nat} (hd : v.down = false) (hq : v.q = []) (hr : f + c ≤ v.n) (hc : 1 ≤ c) : openR v (f : Int) (c : Int) = openS v f c := by
  unfold openR
  rw [if_neg (by unfold placeBad; omega), if_neg (by simp [hd]), syncQ_nil hq, if_neg (by simp), Int.toNat_natCast, Int.toNat_natCast]
theorem Cr.readS {v : Dv} {f c : Nat} {recs : List RV} {m : Nat} (h : Cr v f c recs m) (hr : RecsOk recs) (hd : v.down = false) (hc8 : c ≤ 8192) : readS v f c = (0, recs.take m) := by
  have room := h.room
  have mc := h.mc
  have mr := h.mr
  have ls := secsOf_len v f c
  have el : ∀ k (hk : k < recs.length), 1 ≤ (encB recs[k]).length ∧ (encB recs[k]).length ≤ 502 := fun k hk => by have := enc_len (hr k hk).1 (hr k hk).2.1; omega
  have es := fun k (hk : k < (secsOf v f c).length) => secsOf_sect hd h.q room hk
  have hf : foundN (secsOf v f c) 0 = m := by
    refine foundN_eq _ 0 m (by omega) (fun k hk hkm => ?_) (fun hk => ?_)
    · rw [es k hk, h.rc k (by omega) hkm, Nat.zero_add]
      exact (isSec_secB (by omega) (el k (by omega)).1 (el k (by omega)).2).1
    · rw [es m hk, Nat.zero_add]
      exact h.st (by omega)
  have hb : bytsOf (secsOf v f c) = (recs.take m).map encB := by
    unfold bytsOf
    rw [hf]
    apply List.ext_getElem
    · simp [ls]
      omega
    · intro k h1 h2
      have hkm : k < m := by simp at h2; omega
      have hkr : k < recs.length := by omega
      rw [List.getElem_map, List.getElem_map, List.getElem_take, List.getElem_take, es k (by omega), h.rc k hkr hkm]
      exact (isSec_secB (by omega) (el k hkr).1 (el k hkr).2).2
  unfold Go.Proofs.Ytkfdkcclojepnaa.readS
  rw [hb]
  refine readR_enc _ 0 fun k hk => ?_
  have hkr : k < recs.length := by simp at hk; omega
  rw [List.getElem_take, Nat.zero_add]
  exact hr k hkr
theorem open_law {v : Dv} {f c : Nat} {recs : List RV} {m : Nat} (h : Cr v f c recs m) (hr : RecsOk recs) (hd : v.down = false) (hc : 1 ≤ c) (hc8 : c ≤ 8192) :
    ((openR v f c).1 = (0, 0) ∧ (openR v f c).2.2 = recs.take m ∧ LogD (openR v f c).2.1 ⟨f, c, recs.take m, m, 0⟩ ∧ (v.step = 0 → (openR v f c).2.1.step = 0) ∧ (openR v f c).2.1.n = v.n) ∨
    (v.step ≠ 0 ∧ (openR v f c).1 = (0, 40) ∧ (openR v f c).2.1.down = true ∧ (openR v f c).2.1.n = v.n ∧ Cr (openR v f c).2.1 f c recs m) := by
  have room := h.room
  have mc := h.mc
  have mr := h.mr
  have ls := secsOf_len v f c
  have es := fun k (hk : k < (secsOf v f c).length) => secsOf_sect hd h.q room hk
  have hrs := h.readS hr hd hc8
  have tl : (recs.take m).length = m := by rw [List.length_take]; omega
  have hO : openR v (f : Int) (c : Int) = if (wipeL v ((f + m : Nat) : Int) ((secsOf v f c).drop m) false).1 ≠ 0 then ((0, (wipeL v ((f + m : Nat) : Int) ((secsOf v f c).drop m) false).1), (wipeL v ((f + m : Nat) : Int) ((secsOf v f c).drop m) false).2, []) else ((0, 0), (wipeL v ((f + m : Nat) : Int) ((secsOf v f c).drop m) false).2, recs.take m) := by
    rw [openR_nil hd h.q room hc]
    unfold openS wipeS
    rw [hrs]
    dsimp only
    rw [tl, if_neg (by simp)]
  rw [hO]
  have dl : ((secsOf v f c).drop m).length = c - m := by rw [List.length_drop, ls]
  have dg : ∀ k (hk : k < ((secsOf v f c).drop m).length), ((secsOf v f c).drop m)[k] = v.sect (f + m + k) := fun k hk => by
    rw [List.getElem_drop, es _ (by omega), Nat.add_assoc]
  have s512 : ∀ j, j < v.n → (v.sect j).length = 512 := fun j hj => sect_len h.ok hj
  obtain ⟨po, pm⟩ := wipP_one ((secsOf v f c).drop m) ((f + m : Nat) : Int)
  have wm := wipP_mem ((secsOf v f c).drop m) ((f + m : Nat) : Int)
  rw [wipeL_0]
  generalize wipP ((f + m : Nat) : Int) ((secsOf v f c).drop m) = P at *
  have rcB : ∀ (v' : Dv), (∀ k, k < m → v'.sect (f + k) = v.sect (f + k)) → ∀ k (hk : k < recs.length), k < m → v'.sect (f + k) = secB (k + 1) (encB recs[k]) := fun v' hv k hk hkm => by rw [hv k hkm]; exact h.rc k hk hkm
  by_cases hP : P = []
  · rw [if_pos hP, if_neg (by simp)]
    refine .inl ⟨rfl, rfl, ⟨h.ok, hd, h.q, room, fun k hk hkm => ?_, fun k hk1 hk2 => ?_⟩, fun h0 => h0, rfl⟩
    · show v.sect (f + k) = secB (k + 1) (encB ((recs.take m)[k]'hk))
      have hkm' : k < m := hkm
      rw [List.getElem_take]
      exact h.rc k (by omega) hkm'
    · show v.sect (f + k) = zer512
      have hk1' : m ≤ k := hk1
      have hk2' : k < c := hk2
      rcases wm (k - m) (by omega) with h1 | h1
      · rw [dg] at h1
        have e : f + m + (k - m) = f + k := by omega
        rw [e] at h1
        exact zeros_eq h1 (s512 _ (by omega))
      · rw [hP] at h1
        cases h1
  · rw [if_neg hP]
    have hp : Pok v.n P := fun p hp => by
      obtain ⟨a1, a2, a3⟩ := pm p hp
      rw [a3]
      exact ⟨by omega, by omega, List.length_replicate⟩
    obtain ⟨b1, b2, b3, b4⟩ := putP_sect h.ok hd h.q hp po
    rcases b4 with ⟨c1, c2, c3, c4⟩ | ⟨c0, c1, c2, c4⟩
    · rw [if_neg (by omega)]
      have low : ∀ k, k < m → (putP v P).2.sect (f + k) = v.sect (f + k) := fun k hkm => (c4 (f + k) (by omega)).2 fun p hp hh => by have := pm p hp; omega
      refine .inl ⟨rfl, rfl, ⟨b1, c2, b2, by rw [b3]; exact room, fun k hk hkm => ?_, fun k hk1 hk2 => ?_⟩, c3, b3⟩
      · show (putP v P).2.sect (f + k) = secB (k + 1) (encB ((recs.take m)[k]'hk))
        have hkm' : k < m := hkm
        rw [List.getElem_take]
        exact rcB _ low k (by omega) hkm'
      · show (putP v P).2.sect (f + k) = zer512
        have hk1' : m ≤ k := hk1
        have hk2' : k < c := hk2
        have e : f + m + (k - m) = f + k := by omega
        by_cases hm : (((f + m : Nat) : Int) + ((k - m : Nat) : Int), zer512) ∈ P
        · exact (c4 (f + k) (by omega)).1 _ hm (by dsimp only; omega)
        · have h1 : zerosB (v.sect (f + k)) = true := by
            rcases wm (k - m) (by omega) with h1 | h1
            · rw [dg, e] at h1
              exact h1
            · exact absurd h1 hm
          rw [(c4 (f + k) (by omega)).2 fun p hp hh => ?_]
          · exact zeros_eq h1 (s512 _ (by omega))
          · obtain ⟨a1, a2, a3⟩ := pm p hp
            refine hm ?_
            have ep : p = (((f + m : Nat) : Int) + ((k - m : Nat) : Int), zer512) := Prod.ext (by dsimp only; omega) a3
            rw [← ep]
            exact hp
    · rw [if_pos (by omega), c1]
      have low : ∀ k, k < m → (putP v P).2.sect (f + k) = v.sect (f + k) := fun k hkm => by
        rcases c4 (f + k) (by omega) with ⟨p, hp1, hp2, _⟩ | he
        · have := pm p hp1
          omega
        · exact he
      refine .inr ⟨c0, rfl, c2, b3, ⟨b1, b2, by rw [b3]; exact room, mc, mr, rcB _ low, fun hm => ?_⟩⟩
      rcases c4 (f + m) (by omega) with ⟨p, hp1, hp2, cc, hc5, hmx⟩ | he
      · rw [(pm p hp1).2.2] at hmx
        by_cases h0 : cc = 0
        · subst h0
          rw [List.take_zero, List.nil_append, List.drop_zero] at hmx
          rw [hmx]
          exact h.st hm
        · refine isSec_first ?_
          show (((putP v P).2.sect (f + m)).getD 0 0).toNat = 0
          rw [hmx, List.getD_eq_getElem?_getD, List.getElem?_append_left (by rw [List.length_take]; unfold zer512; rw [List.length_replicate]; omega), List.getElem?_take, if_pos (by omega)]
          unfold zer512
          rw [List.getElem?_replicate, if_pos (by omega)]
          rfl
      · show isSec ((putP v P).2.sect (f + m)) (m + 1) = false
        rw [he]
        exact h.st hm
end Go.Proofs.Ytkfdkcclojepnaa

/- Layer 6: awake. Conditions: none. -/
set_option linter.unusedVariables false
set_option linter.unusedSimpArgs false
namespace Go.Proofs.Ytkfdkcclojepnaa
open Go Go.RowKit

theorem liN (w : World) : LiIn w {} [] [] := ⟨Rd.nil _ _, rfl, by show 0 < _; omega, Rd.nil _ _, rfl, by show 0 < _; omega⟩
/-- A sector of a new disk. -/
theorem sect_new {n j : Nat} (h : j < n) : (Dv.new n).sect j = zer512 := by
  have : (j + 1) * 512 ≤ n * 512 := Nat.mul_le_mul_right _ h
  unfold Dv.sect Dv.new zer512
  dsimp only
  rw [List.drop_replicate, List.take_replicate]
  congr 1
  omega
theorem new_n (n : Nat) : (Dv.new n).n = n := Dv.n_of (by show (List.replicate (n * 512) (0 : UInt8)).length = _; rw [List.length_replicate])
theorem new_ok {n : Nat} (h1 : 1 ≤ n) (h2 : n ≤ 8192) : (Dv.new n).Ok := by
  rw [Dv.new_load]
  exact Dv.Ok.load (List.length_replicate) h1 h2
theorem new_sm (n m : Nat) : (Dv.new n).Sm m := ⟨by show 0 ≤ m; omega, by show 0 * 8 ≤ _; omega⟩
theorem wipP_nil : ∀ (l : List (List UInt8)) (i : Int), (∀ s ∈ l, zerosB s = true) → wipP i l = []
  | [], _, _ => rfl
  | s :: r, i, h => by
    rw [wipP, if_pos (h s (by simp))]
    exact wipP_nil r (i + 1) fun x hx => h x (by simp [hx])
/-- Open where zeros are: nothing is written. -/
theorem open_zero {v : Dv} {f c : Nat} (hok : v.Ok) (hd : v.down = false) (hq : v.q = []) (hr : f + c ≤ v.n) (hc : 1 ≤ c) (hc8 : c ≤ 8192) (hz : ∀ k, k < c → v.sect (f + k) = zer512) : openR v (f : Int) (c : Int) = ((0, 0), v, []) := by
  have hcr : Cr v f c [] 0 := ⟨hok, hq, hr, Nat.zero_le _, Nat.zero_le _, fun k h => absurd h (by simp), fun h => by rw [hz 0 (by omega)]; exact isSec_zer _⟩
  have hrs := hcr.readS (fun k h => absurd h (by simp)) hd hc8
  rw [openR_nil hd hq hr hc]
  have ls := secsOf_len v f c
  have hw : wipeS v f c = (0, v) := by
    unfold wipeS
    rw [hrs]
    dsimp only
    rw [wipeL_0, wipP_nil, if_pos rfl]
    intro s hs
    have hs := List.mem_of_mem_drop hs
    obtain ⟨k, hk, rfl⟩ := List.mem_iff_getElem.1 hs
    rw [secsOf_sect hd hq hr hk, hz k (by omega)]
    exact zer_zeros
  unfold openS
  rw [hrs, hw]
  rfl
theorem frcP_calls {v : Dv} {g : Lg} {n : Nat} (hok : v.Ok) (hd : v.down = false) (h0 : v.step = 0) (hp : Pok v.n (zipI ((g.first + g.forced : Nat) : Int) (frcL g n))) (hc : 0 ≤ v.calls) (hc2 : v.calls + (frcL g n).length + 1 < 1000000000000) : (frcP v g n).2.calls = v.calls + ((frcL g n).length + 1) := by
  have zl : ∀ (l : List (List UInt8)) (i : Int), (zipI i l).length = l.length := fun l => by
    induction l with
    | nil => intro i; rfl
    | cons b r ih => intro i; rw [zipI, List.length_cons, List.length_cons, ih]
  unfold frcP
  rw [putL_P]
  have := (putP_up _ hok hd hp (.inl h0)).2.2.2.2.2.1 hc (by rw [zl]; exact hc2)
  rw [this, zl]

instance (n : Int) : Decidable (i64 n) := inferInstanceAs (Decidable (_ ∧ _))
abbrev T100 : Nat → Prop := fun u => 100 ≤ u
def awR : RV := { kind := 1, tx := 1 }
def awR1 : RV := { lsn := 1, kind := 1, tx := 1 }
def awG : Lg := ⟨2, 6, [], 0, 0⟩
def awG1 : Lg := ⟨2, 6, [awR1], 0, 0⟩
def awG2 : Lg := ⟨2, 6, [awR1], 1, 0⟩
theorem aw_app : appR awG awR = ((1, 0), awG1) := by
  have h : chkN (nxtR awG awR) = 0 := by decide
  unfold appR
  rw [if_neg (by decide), if_neg (by rw [h]; decide), if_neg (by decide)]
  rfl
theorem aw_app2 : appR awG2 {} = ((0, 70), awG2) := by
  have h : chkN (nxtR awG2 {}) = 70 := by decide
  unfold appR
  rw [if_neg (by decide), if_pos (by rw [h]; decide), h]
theorem aw_ok : awG1.Ok := ⟨by decide, by decide, by decide, by decide, by decide, fun k hk => by
  have : k = 0 := by simp [awG1] at hk; exact hk
  subst this
  show chkN awR1 = 0 ∧ awR1.w64 ∧ awR1.lsn = 1
  exact ⟨by decide, ⟨by decide, by decide, by decide, by decide⟩, rfl⟩⟩
set_option maxHeartbeats 2000000 in
theorem awake_c {w : World} {R : Ending → World → Prop} (h : ∀ w', Kp no w w' → R (.returned (.bool true)) w') : GoC Try.prog F_law06_awake #[] w R := by
  refine S_law06_awake ?_
  unfold W_law06_awake
  refine new_c (ow := fun _ => 1000) (n := 8) (by omega) (by omega) 0 fun db w1 ow1 D1 k1 ag1 ge1 => ⟨_, _, rfl, cond_f rfl (num_c ⟨_, rfl, cond_f rfl ?_⟩)⟩
  have F1 : Fro T100 w (fun _ => 1000) w1 ow1 := ⟨k1.of_no, fun j hj _ => ag1 j hj⟩
  have nok : (Dv.new 8).Ok := new_ok (by omega) (by omega)
  have nst : (Dv.new 8).step = 0 := rfl
  have nup : (Dv.new 8).down = false := rfl
  have nq : (Dv.new 8).q = [] := rfl
  have nca : (Dv.new 8).calls = 0 := rfl
  have nse : ∀ j, j < 8 → (Dv.new 8).sect j = zer512 := fun j hj => sect_new hj
  have nn : (Dv.new 8).n = 8 := new_n 8
  have nsm : ∀ m, (Dv.new 8).Sm m := new_sm 8
  generalize Dv.new 8 = v0 at *
  have eo' : openR v0 2 6 = ((0, 0), v0, []) := open_zero (f := 2) (c := 6) nok nup nq (by rw [nn]; omega) (by omega) (by omega) fun k hk => nse _ (by omega)
  refine open_c (t := 0) D1 (nsm _) ⟨by decide, by decide⟩ ⟨by decide, by decide⟩ (fun hne => absurd (by rw [eo']) hne) fun _ lb w2 ow2 D2 L2 f2 _ => ?_
  rw [eo'] at D2 L2
  have L2 : LG w2 ow2 0 lb db awG := L2
  have D2 : DX w2 ow2 0 db v0 := D2
  have F2 : Fro T100 w (fun _ => 1000) w2 ow2 := F1.trans (f2.mono fun u hu => ⟨Td_of (by have : 100 ≤ u := hu; omega), by have : 100 ≤ u := hu; omega, by have : 100 ≤ u := hu; omega, by have : 100 ≤ u := hu; omega⟩)
  refine ⟨_, _, rfl, cond_f rfl (.inl ⟨rfl, cond_f rfl ?_⟩)⟩
  refine free_c L2 fun w3 k3 => ⟨_, rfl, cond_f rfl ?_⟩
  have L3 := L2.kp0 k3
  have D3 := D2.kp0 k3
  have F3 := F2.trans ((Fro.kp0 k3).mono fun _ _ => trivial)
  refine last_c L3 ⟨_, rfl, cond_f rfl ?_⟩
  refine append_c (r := awR) (m := {}) L3 (liN _) ⟨by decide, by decide, by decide, by decide⟩ fun w4 ow4 L4 f4 => ?_
  rw [aw_app] at L4 ⊢
  have L4 : LG w4 ow4 0 lb db awG1 := L4
  have F4 := F3.trans (f4.mono fun u hu => ⟨by have : 100 ≤ u := hu; omega, by have : 100 ≤ u := hu; omega, by have : 100 ≤ u := hu; omega⟩)
  have D4 := D3.fr f4 (by decide) (by decide) (by decide) (by decide)
  refine ⟨_, _, rfl, cond_f rfl (num_c ⟨_, rfl, cond_f rfl ?_⟩)⟩
  refine forced_c L4 ⟨_, rfl, cond_f rfl (calls_c D4 ⟨_, rfl, cond_f (by rw [nca]; rfl) ?_⟩)⟩
  -- Force
  have ld : LogD v0 awG1 := ⟨nok, nup, nq, by rw [nn]; decide, fun k hk hkf => absurd hkf (by show ¬ k < 0; omega), fun k _ hk => nse _ (by have : k < 6 := hk; show 2 + k < 8; omega)⟩
  have fl := frcP_law aw_ok ld (n := 1) (by decide) (by decide)
  rcases fl with ⟨e1, ld2, st2, n2⟩ | ⟨hs, _⟩
  rotate_left
  · exact absurd nst hs
  have ld2 : LogD (frcP (v0) awG1 1).2 awG2 := ld2
  have ecalls : (frcP (v0) awG1 1).2.calls = 2 := by
    have := frcP_calls (v := v0) (g := awG1) (n := 1) nok nup nst (fun p hp => by
      have hp : p ∈ [((2 : Int), secB 1 (encB awR1))] := hp
      rw [List.mem_singleton] at hp
      subst hp
      refine ⟨by decide, by rw [nn]; decide, ?_⟩
      have := (enc_len (aw_ok.r 0 (by decide)).1 (aw_ok.r 0 (by decide)).2.1).2
      exact secB_len (by show (encB awR1).length ≤ 504; have h2 : (encB awR1).length ≤ 502 := this; omega)) (by omega) (by rw [show (frcL awG1 1).length = 1 from rfl, nca]; decide)
    rw [this, show (frcL awG1 1).length = 1 from rfl, nca]
    rfl
  have fr : frcR (v0) awG1 1 = (0, (frcP (v0) awG1 1).2, awG2) := by
    unfold frcR
    rw [if_neg (by decide), if_neg (by decide), if_neg (by decide), if_neg (by decide)]
    have : Int.toNat 1 = 1 := rfl
    rw [this, if_neg (by omega)]
    rfl
  refine force_c L4 D4 (nsm _) ⟨by decide, by decide⟩ fun e w5 ow5 D5 L5 f5 ev => ?_
  rw [fr] at D5 L5 ev
  have L5 : LG w5 ow5 0 lb db awG2 := L5
  have D5 : DX w5 ow5 0 db (frcP v0 awG1 1).2 := D5
  generalize (frcP (v0) awG1 1).2 = v2 at *
  have F5 := F4.trans (f5.mono fun u hu => ⟨Td_of (by have : 100 ≤ u := hu; omega), by have : 100 ≤ u := hu; omega⟩)
  refine ⟨_, rfl, err_nil ev (cond_f rfl ?_)⟩
  refine forced_c L5 ⟨_, rfl, cond_f rfl (calls_c D5 ⟨_, rfl, ?_⟩)⟩
  rw [ecalls]
  refine cond_f rfl ?_
  refine lget_c L5 ⟨by decide, by decide⟩ fun m w6 k6 o6 => ⟨_, _, _, _, _, _, _, _, _, _, _, _, _, _, _, _, _, _, _, _, _, _, rfl, ?_⟩
  refine rec_cp awR1 m fun b1 w7 h7 => ?_
  have f7 : Fro (fun _ => True) w5 ow5 w7 (ext ow5 w5.heap.size 1000) := Fro.of_kp0 1000 (k6.trans0 h7.kp)
  have L7 := L5.fr f7 trivial trivial trivial trivial trivial
  have D7 := D5.fr f7 trivial trivial trivial trivial
  have F7 := F5.trans (f7.mono fun _ _ => trivial)
  have t7 : ext ow5 w5.heap.size 1000 b1 = 1000 := ext_new (by have := k6.size; have := h7.nw; omega)
  have hb7 := h7.blk
  generalize ext ow5 w5.heap.size 1000 = ow7 at *
  have s2 : v2.read 2 = (secB 1 (encB awR1), 0) := by
    have e := read_sect (v := v2) ld2.up ld2.q (i := 2) (by have := ld2.room; have r : 2 + 6 ≤ v2.n := this; omega)
    have r0 := ld2.rc 0 (by decide) (by decide)
    have r0 : v2.sect 2 = secB 1 (encB awR1) := r0
    rw [r0] at e
    exact e
  have enl := enc_len (aw_ok.r 0 (by decide)).1 (aw_ok.r 0 (by decide)).2.1
  have enl : 2 ≤ (encB awR1).length ∧ (encB awR1).length ≤ 502 := enl
  have sl : (secB 1 (encB awR1)).length = 512 := secB_len (by omega)
  refine readX_c D7 (by rw [ld2.q]; show 0 ≤ 1000000; omega) fun a l c w8 k8 hs8 fr8 => ⟨_, _, _, _, rfl, ?_⟩
  rw [s2] at hs8 ⊢
  have hl8 := hs8.1
  rw [bvs_len, sl] at hl8
  have hl8 : l = 512 := by omega
  subst hl8
  have f8 : Fro (fun _ => True) w7 ow7 w8 (ext ow7 w7.heap.size 1000) := Fro.of_kp0 1000 k8
  have rd8 : RdT w8 (ext ow7 w7.heap.size 1000) (fun x => x = 1000) a (bvs (secB 1 (encB awR1))) := rdT_new 1000 hs8.rd fr8
  have L8 := L7.fr f8 trivial trivial trivial trivial trivial
  have F8 := F7.trans (f8.mono fun _ _ => trivial)
  obtain ⟨hb8, t8⟩ := blk_fr hb7 t7 f8 trivial
  generalize ext ow7 w7.heap.size 1000 = ow8 at *
  refine append_c (r := {}) (m := {}) L8 (liN _) ⟨by decide, by decide, by decide, by decide⟩ fun w9 ow9 L9 f9 => ?_
  rw [aw_app2] at L9 ⊢
  have L9 : LG w9 ow9 0 lb db awG2 := L9
  have F9 := F8.trans (f9.mono fun u hu => ⟨by have : 100 ≤ u := hu; omega, by have : 100 ≤ u := hu; omega, by have : 100 ≤ u := hu; omega⟩)
  obtain ⟨hb9, t9⟩ := blk_fr hb8 t8 f9 (by decide)
  have rd9 := (rd8.fr f9 fun x hx => by rw [hx]; decide).rd
  have K9 : Kp no w w9 := F9.kp.mono fun k hk hn => hn (by decide)
  have g0 : ((secB 1 (encB awR1))[0]'(by omega)).toNat = 108 := rfl
  have g511 : ((secB 1 (encB awR1))[511]'(by omega)).toNat = 165 := by
    have := secB_511 (lsn := 1) (b := encB awR1) (by omega)
    rw [getD_of (by omega)] at this
    rw [this]
    rfl
  refine ⟨_, _, rfl, num_c ⟨_, rfl, cond_t rfl ⟨_, hb9.at rfl rfl, cond_t rfl ⟨_, hb9.at rfl rfl, cond_t rfl (num_c ⟨_, rfl, cond_t rfl (cond_t rfl ?_)⟩)⟩⟩⟩⟩
  refine rd_u8 rd9 (i := 0) (by omega) rfl (by omega) fun d1 hd1 => ⟨_, hd1, ?_⟩
  rw [g0]
  refine cond_t rfl (rd_u8 rd9 (i := 511) (by omega) rfl (by omega) fun d2 hd2 => ⟨_, hd2, ?_⟩)
  rw [g511]
  refine cond_t rfl (num_c ⟨_, rfl, cond_t rfl (free_c L9 fun w10 k10 => ⟨_, rfl, cond_t rfl (lerr_c (L9.kp0 k10) fun v ev eo => ⟨_, rfl, err_nil ev (h w10 (K9.trans0 k10))⟩)⟩)⟩)
end Go.Proofs.Ytkfdkcclojepnaa

/- Layer 6: the statements' brought, dot, points. Conditions: none. -/
set_option linter.unusedVariables false
set_option linter.unusedSimpArgs false
namespace Go.Proofs.Ytkfdkcclojepnaa
open Go Go.RowKit

theorem tmod_brought {n m : Int} (hm : 0 < m) : (if Int.tmod n m < 0 then Int.tmod n m + m else Int.tmod n m) = n % m := by
  have h1 := Int.emod_nonneg n (by omega : m ≠ 0)
  have h2 := Int.emod_lt_of_pos n hm
  have h3 := Int.lt_tmod_of_pos n hm
  have h4 := Int.tmod_lt_of_pos n hm
  have e1 := Int.mul_tdiv_add_tmod n m
  have e2 := Int.mul_ediv_add_emod n m
  have key : ∀ a : Int, 0 ≤ a → a < m → ∀ q : Int, m * q + a = n → a = n % m := fun a ha0 ha1 q hq => by
    rw [← hq, Int.mul_add_emod_self_left, Int.emod_eq_of_lt ha0 ha1]
  split
  · rename_i hneg
    refine key _ (by omega) (by omega) (Int.tdiv n m - 1) ?_
    rw [Int.mul_sub]
    omega
  · rename_i hneg
    exact key _ (by omega) (by omega) (Int.tdiv n m) (by omega)
theorem brought_c {w : World} {n m : Int} {R : Ending → World → Prop} (h1 : 1 ≤ m) (h2 : m ≤ 1000000000000) (h : R (.returned (.int .i64 (n % m))) w) : GoC Try.prog F_law06_brought #[.int .i64 n, .int .i64 m] w R := by
  refine S_law06_brought ?_
  unfold W_law06_brought
  have hm : 0 < m := by omega
  have h3 := Int.lt_tmod_of_pos n hm
  have h4 := Int.tmod_lt_of_pos n hm
  have hb := tmod_brought (n := n) hm
  refine ⟨by omega, cond_d (fun hn => ?_) (fun hn => ?_)⟩
  · rw [if_pos hn] at hb
    rw [wrap_i64 (by omega) (by omega), hb]
    exact h
  · rw [if_neg hn] at hb
    rw [hb]
    exact h
theorem emod_in (n : Int) {m : Int} (hm : 1 ≤ m) : 0 ≤ n % m ∧ n % m < m := ⟨Int.emod_nonneg n (by omega), Int.emod_lt_of_pos n (by omega)⟩
theorem dot_c {w : World} {p i n : Int} {R : Ending → World → Prop} (h1 : 1 ≤ n) (h2 : n ≤ 1000) (h : ∀ w', Kp no w w' → R (.returned (.agg #[.int .i64 (p % 64), .int .i64 (i % n)])) w') : GoC Try.prog F_law06_dot #[.agg #[.int .i64 p, .int .i64 i], .int .i64 n] w R := by
  refine S_law06_dot ?_
  unfold W_law06_dot
  refine Loc.al (Kp.refl _ w) fun b1 w1 h1' k1 g1 => Loc.al h1'.kp fun b2 w2 h2' k2 g2 => ?_
  have h12 := h1'.kp' k2
  have h22 : Loc w w2 b2 #[.int .i64 0, .int .i64 0] T_api_Slot := h2'
  have kd : Kp no w2 w2.drew := Kp.drew w2 1
  have hne : b1 ≠ b2 := by have := h1'.blk.lt; omega
  have x1 := kd.blk h12.blk id
  refine ⟨fun w' => Blk w' b1 #[.int .i64 p, .int .i64 i] T_api_Slot, x1, _, fun w' hw => hw.at rfl rfl, _, fun w' hw => hw.at rfl rfl, ?_⟩
  refine brought_c (by omega) (by omega) ⟨_, rfl, x1, brought_c h1 (by omega) ⟨_, rfl, x1, ?_⟩⟩
  have h23 := h22.kp' kd
  refine h23.st rfl (by simp) fun w3 h24 k3 => h24.st (by rfl) (by simp) fun w4 h25 k4 => ?_
  have y := k4.blk (k3.blk x1 hne) hne
  exact ⟨y, _, _, ⟨h25.at rfl rfl, h25.at rfl rfl, trivial⟩, h w4 h25.kp⟩

def ptV (m : Mm) (next : Int) : Array Value := #[.slice m.la m.ll m.lc, .slice m.da m.dl m.dc, .int .i64 next]
def ltx (last : Int) : List LV → Int
  | [] => last
  | x :: r => ltx x.tx r
def lpg (page : Int) : List DV → Int
  | [] => page
  | x :: r => lpg x.page r
theorem ltx_snoc : ∀ (L : List LV) (last : Int) (x : LV), ltx last (L ++ [x]) = x.tx
  | [], _, _ => rfl
  | y :: r, _, x => ltx_snoc r y.tx x
theorem lpg_snoc : ∀ (L : List DV) (page : Int) (x : DV), lpg page (L ++ [x]) = x.page
  | [], _, _ => rfl
  | y :: r, _, x => lpg_snoc r y.page x
theorem liB_snoc (next lsn : Int) : ∀ (L : List LV) (last : Int) (x : LV), liB next lsn last L = true → ltx last L < x.tx → x.tx < next → 1 ≤ x.last → x.last ≤ 2147483647 → belB x.last lsn = true → (x.c && x.u) = false → liB next lsn last (L ++ [x]) = true
  | [], last, x, _, h1, h2, h3, h4, h5, h6 => by
    have h1 : last < x.tx := h1
    simp [liB, h1, h2, inB, h3, h4, h5]
    cases hc : x.c <;> cases hu : x.u <;> simp_all
  | y :: r, last, x, h, h1, h2, h3, h4, h5, h6 => by
    rw [liB] at h
    rw [List.cons_append, liB]
    simp only [Bool.and_eq_true] at h ⊢
    exact ⟨h.1, liB_snoc next lsn r y.tx x h.2 h1 h2 h3 h4 h5 h6⟩
theorem diB_snoc (lsn : Int) : ∀ (L : List DV) (page : Int) (x : DV), diB lsn page L = true → lpg page L < x.page → x.page < 64 → 1 ≤ x.since → x.since ≤ 2147483647 → belB x.since lsn = true → diB lsn page (L ++ [x]) = true
  | [], page, x, _, h1, h2, h3, h4, h5 => by
    have h1 : page < x.page := h1
    simp [diB, h1, h2, inB, h3, h4, h5]
  | y :: r, page, x, h, h1, h2, h3, h4, h5 => by
    rw [diB] at h
    rw [List.cons_append, diB]
    simp only [Bool.and_eq_true] at h ⊢
    exact ⟨h.1, diB_snoc lsn r y.page x h.2 h1 h2 h3 h4 h5⟩
/-- points' boxes. -/
structure Pp (w0 w : World) (ow : Nat → Nat) (b1 b2 b3 : Nat) (m : Mm) (next : Int) (q : Mm) (nx : Int) (L : List LV) (D : List DV) : Prop where
  old : Old w0 w ow
  x1 : Blk w b1 (ptV m next) T_api_Points
  t1 : ow b1 = 6
  x2 : Blk w b2 (ptV {} 0) T_api_Points
  t2 : ow b2 = 6
  x3 : Blk w b3 (ptV q nx) T_api_Points
  t3 : ow b3 = 7
  lv : SlT w ow T_api_Live 4 q.la q.ll q.lc (flatV LV.cs L) 4
  dv : SlT w ow T_api_Dirty 2 q.da q.dl q.dc (flatV DV.cs D) 5
  ll : q.ll = L.length
  dl : q.dl = D.length
theorem Pp.fr {T : Nat → Prop} {w0 w w' : World} {ow ow' : Nat → Nat} {b1 b2 b3 : Nat} {m q : Mm} {next nx : Int} {L : List LV} {D : List DV} (h : Pp w0 w ow b1 b2 b3 m next q nx L D) (f : Fro T w ow w' ow') (h0 : T 0) (h4 : T 4) (h5 : T 5) (h6 : T 6) (h7 : T 7) : Pp w0 w' ow' b1 b2 b3 m next q nx L D := by
  obtain ⟨a1, a2⟩ := blk_fr h.x1 h.t1 f h6
  obtain ⟨a3, a4⟩ := blk_fr h.x2 h.t2 f h6
  obtain ⟨a5, a6⟩ := blk_fr h.x3 h.t3 f h7
  exact ⟨h.old.fr f h0, a1, a2, a3, a4, a5, a6, h.lv.fr f h4, h.dv.fr f h5, h.ll, h.dl⟩

set_option maxHeartbeats 4000000 in
theorem points_c {w : World} {m : Mm} {L : List LV} {D : List DV} {next lsn : Int} {R : Ending → World → Prop} (hi : LiIn w m L D) (h1 : 1 ≤ lsn) (h2 : lsn ≤ 100000)
    (h : ∀ (q : Mm) (nx : Int) (L' : List LV) (D' : List DV) (w' : World), Kp no w w' → OwnL w w' { live := L', dirty := D' } q → 1 ≤ nx → nx ≤ 1048576 → liB nx lsn 0 L' = true → diB lsn (-1) D' = true → L'.length ≤ 32 → D'.length ≤ 16 → (lsn = 1 → L' = [] ∧ D' = []) → R (.returned (.agg (ptV q nx))) w') :
    GoC Try.prog F_law06_points #[.agg (ptV m next), .int .i64 lsn] w R := by
  refine S_law06_points ?_
  unfold W_law06_points
  have hll := hi.ll
  have hdl := hi.dl
  have hlb := hi.lb
  have hdb := hi.db
  have wi : ∀ x : Nat, x ≤ 100000 → IntKind.wrap .i64 ((x : Int) + 1) = ((x + 1 : Nat) : Int) := fun x hx => by rw [wrap_i64 (by omega) (by omega)]; omega
  refine AlF.intro fun b1 w1 hb1e hb1 k1 _ => AlF.intro fun b2 w2 hb2e hb2 k2 _ => ?_
  have hb1 : Blk w2 b1 (ptV m next) T_api_Points := k2.blk hb1 id
  have hb2 : Blk w2 b2 (ptV {} 0) T_api_Points := hb2
  have k12 := k1.trans0 k2
  refine ⟨_, hb1.at (add1 _ _) rfl, brought_c (by omega) (by omega) ⟨_, rfl, ?_⟩⟩
  have hnx := emod_in next (m := 1048576) (by omega)
  rw [wrap_i64 (x := 1 + next % 1048576) (by omega) (by omega)]
  generalize hnxe : 1 + next % 1048576 = nx at *
  have o2 : Old w w2 (ext (fun _ => 0) w.heap.size 6) := (⟨Kp.refl _ _, fun _ _ => rfl⟩ : Old w w fun _ => 0).fr (Fro.of_kp0 (T := fun _ => True) 6 k12) trivial
  have t1 : ext (fun _ => 0) w.heap.size 6 b1 = 6 := ext_new (by omega)
  have t2 : ext (fun _ => 0) w.heap.size 6 b2 = 6 := ext_new (by have := k1.size; omega)
  generalize ext (fun _ => 0) w.heap.size 6 = ow2 at *
  refine AlF.intro fun b3 w3 hb3e hb3 k3 _ => ?_
  have f3 : Fro (fun _ => True) w2 ow2 w3 (ext ow2 w2.heap.size 7) := Fro.of_kp0 7 k3
  have t3 : ext ow2 w2.heap.size 7 b3 = 7 := ext_new (by omega)
  have o3 := o2.fr f3 trivial
  obtain ⟨hb13, t13⟩ := blk_fr hb1 t1 f3 trivial
  obtain ⟨hb23, t23⟩ := blk_fr hb2 t2 f3 trivial
  generalize ext ow2 w2.heap.size 7 = ow3 at *
  refine StF.at rfl hb3 (by simp) fun w4 hb4 k4 _ => StF.at (add1 _ _) hb4 (by simp) fun w5 hb5 k5 _ => StF.at (add1 _ _) hb5 (by simp) fun w6 hb6 k6 _ => ?_
  have k36 := (k4.trans0 k5).trans0 k6
  have f6 : Fro (fun u => u ≠ 7) w3 ow3 w6 ow3 := Fro.of_kp' k36 fun j _ hj hne => hne (by rw [hj]; exact t3)
  have o6 := o3.fr f6 (by omega)
  obtain ⟨hb16, t16⟩ := blk_fr hb13 t13 f6 (by omega)
  obtain ⟨hb26, t26⟩ := blk_fr hb23 t23 f6 (by omega)
  have P6 : Pp w w6 ow3 b1 b2 b3 m next {} nx [] [] := ⟨o6, hb16, t16, hb26, t26, hb6, t3, slt_nil _ _ _ _ _, slt_nil _ _ _ _ _, rfl, rfl⟩
  have belL : ∀ x : Int, lsn > 1 → belB (1 + x % (lsn - 1)) lsn = true := fun x hl => by
    have := emod_in x (m := lsn - 1) (by omega)
    unfold belB
    exact decide_eq_true (.inr (by omega))
  -- the live ones
  refine ⟨fun _ w' => ∃ ow q L', Pp w w' ow b1 b2 b3 m next q nx L' [] ∧ L'.length ≤ 32 ∧ liB nx lsn 0 L' = true ∧ (lsn = 1 → L' = []), ?_, ?_⟩
  · refine loopN (fun s w' => ∃ i : Nat, i ≤ 32 ∧ s.2.1 = (i : Int) ∧ ∃ ow q L', Pp w w' ow b1 b2 b3 m next q nx L' [] ∧ L'.length ≤ i ∧ liB nx lsn 0 L' = true ∧ (lsn = 1 → L' = []) ∧ ltx 0 L' ≤ s.1 ∧ 0 ≤ s.1 ∧ s.1 ≤ 5 * (i : Int)) (fun s _ => 32 - s.2.1.toNat)
      ⟨0, by omega, rfl, ow3, {}, [], P6, Nat.le_refl _, rfl, fun _ => rfl, Int.le_refl _, Int.le_refl _, by omega⟩ ?_
    rintro ⟨tx, i0, u⟩ w7 ⟨i, hi32, hi0, ow7, q, L', P7, hLi, hLB, hL1, hlt, htx0, htx1⟩ _
    dsimp only at hi0 hlt htx0 htx1 ⊢
    subst hi0
    have fin : ∃ ow q L', Pp w w7 ow b1 b2 b3 m next q nx L' [] ∧ L'.length ≤ 32 ∧ liB nx lsn 0 L' = true ∧ (lsn = 1 → L' = []) := ⟨ow7, q, L', P7, by omega, hLB, hL1⟩
    refine ⟨_, _, _, P7.x1.at rfl rfl, cond_d (fun hlt2 => cond_d (fun h32 => cond_d (fun hl1 => ?_) (fun _ => fin)) (fun _ => fin)) (fun _ => fin)⟩
    have hkl : i < L.length := by omega
    refine ⟨_, _, _, P7.x1.at rfl rfl, rd_el LV.csl (by omega) (hi.kp0 P7.old.kp).l hkl hll fun b o ha hc => ?_⟩
    have cell : ∀ j v, (L[i]).cs[j]? = some v → w7.cell? (Addr.add ((⟨b, o, none⟩ : Addr).add (Int.toNat (i : Int) * 4)) j) = some v := fun j v hv => by
      rw [Int.toNat_natCast, add_at, add_at]; exact hc j v hv
    have cell0 : w7.cell? ((⟨b, o, none⟩ : Addr).add (Int.toNat (i : Int) * 4)) = some (.int .i64 (L[i]).tx) := by
      rw [Int.toNat_natCast, add_at]; exact hc 0 _ rfl
    refine ⟨_, _, _, _, ⟨cell0, cell 1 _ rfl, cell 2 _ rfl, cell 3 _ rfl, trivial⟩, ?_⟩
    refine AlF.intro fun b4 w8 hb4e hb4 k8 _ => ?_
    have f8 : Fro (fun _ => True) w7 ow7 w8 (ext ow7 w7.heap.size 1) := Fro.of_kp0 1 k8
    have t4 : ext ow7 w7.heap.size 1 b4 = 1 := ext_new (by omega)
    have P8 := P7.fr f8 trivial trivial trivial trivial trivial
    generalize ext ow7 w7.heap.size 1 = ow8 at *
    refine StF.at rfl hb4 (by simp) fun w9 hb9 k9 _ => StF.at (add1 _ _) hb9 (by simp) fun w10 hb10 k10 _ => StF.at (add1 _ _) hb10 (by simp) fun w11 hb11 k11 _ => StF.at (add1 _ _) hb11 (by simp) fun w12 hb12 k12' _ => ?_
    have kk := ((k9.trans0 k10).trans0 k11).trans0 k12'
    have f12 : Fro (fun u => u ≠ 1) w8 ow8 w12 ow8 := Fro.of_kp' kk fun j _ hj hne => hne (by rw [hj]; exact t4)
    have P12 := P8.fr f12 (by omega) (by omega) (by omega) (by omega) (by omega)
    have hb12 : Blk w12 b4 #[.int .i64 (L[i]).tx, .int .i64 (L[i]).last, .bool (L[i]).c, .bool (L[i]).u] T_api_Live := hb12
    refine ⟨_, hb12.at rfl rfl, brought_c (by omega) (by omega) ⟨_, rfl, _, P12.x3.at (add1 _ _) rfl, ?_⟩⟩
    have h5 := emod_in (L[i]).tx (m := 5) (by omega)
    have e1 : IntKind.wrap .i64 (IntKind.wrap .i64 (tx + 1) + (L[i]).tx % 5) = tx + 1 + (L[i]).tx % 5 := by rw [wrap_i64 (x := tx + 1) (by omega) (by omega), wrap_i64 (by omega) (by omega)]
    rw [e1, wi i (by omega)]
    have dec : 32 - (((i + 1 : Nat) : Int)).toNat < 32 - ((i : Nat) : Int).toNat := by simp only [Int.toNat_natCast]; omega
    refine cond_d (fun hnx2 => ?_) (fun hnx2 => ⟨⟨i + 1, by omega, rfl, ow8, q, L', P12, by omega, hLB, hL1, by omega, by omega, by omega⟩, dec⟩)
    have kd : Kp no w12 w12.drew := Kp.drew w12 1
    have fd : Fro (fun _ => True) w12 ow8 w12.drew ow8 := Fro.kp0 kd
    have P13 := P12.fr fd trivial trivial trivial trivial trivial
    have hb13' := kd.blk hb12 id
    refine ⟨fun w' => Blk w' b3 (ptV q nx) T_api_Points ∧ Blk w' b4 #[.int .i64 (L[i]).tx, .int .i64 (L[i]).last, .bool (L[i]).c, .bool (L[i]).u] T_api_Live, ⟨P13.x3, hb13'⟩, _, _, _, fun w' hw => hw.1.at rfl rfl, _, fun w' hw => hw.2.at (add1 _ _) rfl, _, fun w' hw => hw.2.at (add1 _ _) rfl, _, fun w' hw => hw.2.at (add1 _ _) rfl, ?_⟩
    rw [wrap_i64 (x := lsn - 1) (by omega) (by omega)]
    refine brought_c (by omega) (by omega) ⟨_, rfl, ⟨P13.x3, hb13'⟩, ?_⟩
    have hls := emod_in (L[i]).last (m := lsn - 1) (by omega)
    rw [wrap_i64 (x := 1 + (L[i]).last % (lsn - 1)) (by omega) (by omega)]
    -- one more
    have more : ∀ (x : LV), x.tx = tx + 1 + (L[i]).tx % 5 → x.last = 1 + (L[i]).last % (lsn - 1) → (x.c && x.u) = false →
        AlF w12.drew (.cells #[.int .i64 x.tx, .int .i64 x.last, .bool x.c, .bool x.u] T_api_Live) fun b5 w16 => (Blk w16 b3 (ptV q nx) T_api_Points ∧ Blk w16 b4 #[.int .i64 (L[i]).tx, .int .i64 (L[i]).last, .bool (L[i]).c, .bool (L[i]).u] T_api_Live) ∧ RunF Try.prog (Builtin.append_ #[T_s_api_Live, T_s_api_Live] T_s_api_Live #[.slice q.la q.ll q.lc, .slice (some ⟨b5, 0, none⟩) 1 1]) w16 fun r4 w17 => ∃ (a6 : Option Addr) (l6 c6 : Nat), r4 = .slice a6 l6 c6 ∧ (Blk w17 b3 (ptV q nx) T_api_Points ∧ Blk w17 b4 #[.int .i64 (L[i]).tx, .int .i64 (L[i]).last, .bool (L[i]).c, .bool (L[i]).u] T_api_Live) ∧ StF w17 ⟨b3, 0, none⟩ (.slice a6 l6 c6) fun w18 => ((∃ i' : Nat, i' ≤ 32 ∧ ((i + 1 : Nat) : Int) = (i' : Int) ∧ ∃ ow q L', Pp w w18 ow b1 b2 b3 m next q nx L' [] ∧ L'.length ≤ i' ∧ liB nx lsn 0 L' = true ∧ (lsn = 1 → L' = []) ∧ ltx 0 L' ≤ tx + 1 + (L[i]).tx % 5 ∧ 0 ≤ tx + 1 + (L[i]).tx % 5 ∧ tx + 1 + (L[i]).tx % 5 ≤ 5 * (i' : Int)) ∧ 32 - (((i + 1 : Nat) : Int)).toNat < 32 - ((i : Nat) : Int).toNat) := fun x x1 x2 x3 => by
      refine AlF.intro fun b5 w16 hb5e hb5 k16 _ => ?_
      have f16 : Fro (fun _ => True) w12.drew ow8 w16 (ext ow8 w12.drew.heap.size 1) := Fro.of_kp0 1 k16
      have P16 := P13.fr f16 trivial trivial trivial trivial trivial
      obtain ⟨hb16', t16'⟩ := blk_fr hb13' t4 f16 trivial
      generalize ext ow8 w12.drew.heap.size 1 = ow16 at *
      have hql := P16.ll
      refine ⟨⟨P16.x3, hb16'⟩, app_c er_lv P16.lv (rd_cells hb5 (rfl : _ = LV.cs x)) (by rfl) (fun h => by cases h) (LV.cs1 x) (by omega) (by omega) fun a6 c6 w17 hs17 k17 f17 => ⟨_, _, _, rfl, ?_⟩⟩
      have P17o := P16.old.fr f17 (by omega)
      obtain ⟨y1, ty1⟩ := blk_fr P16.x1 P16.t1 f17 (by omega)
      obtain ⟨y2, ty2⟩ := blk_fr P16.x2 P16.t2 f17 (by omega)
      obtain ⟨y3, ty3⟩ := blk_fr P16.x3 P16.t3 f17 (by omega)
      obtain ⟨hb17', _⟩ := blk_fr hb16' t16' f17 (by omega)
      have dv17 := P16.dv.fr f17 (by omega)
      generalize ext ow16 w16.heap.size 4 = ow17 at *
      refine ⟨⟨y3, hb17'⟩, StF.at rfl y3 (Nat.le_of_ble_eq_true rfl) fun w18 hb18 k18 _ => ?_⟩
      have f18 : Fro (fun u => u ≠ 7) w17 ow17 w18 ow17 := Fro.of_kp' k18 fun j _ hj hne => hne (by rw [hj]; exact ty3)
      obtain ⟨z1, tz1⟩ := blk_fr y1 ty1 f18 (by omega)
      obtain ⟨z2, tz2⟩ := blk_fr y2 ty2 f18 (by omega)
      have hfl : flatV LV.cs (L' ++ [x]) = flatV LV.cs L' ++ LV.cs x := by rw [flatV_app]; simp [flatV]
      refine ⟨⟨i + 1, by omega, rfl, ow17, { q with la := a6, ll := q.ll + 1, lc := c6 }, L' ++ [x], ⟨P17o.fr f18 (by omega), z1, tz1, z2, tz2, hb18, ty3, by rw [hfl]; exact hs17.fr f18 (by omega), dv17.fr f18 (by omega), by simp [hql], P16.dl⟩, by simp; omega, liB_snoc nx lsn L' 0 x hLB (by omega) (by omega) (by omega) (by omega) (by rw [x2]; exact belL _ hl1) x3, fun hl => by omega, by rw [ltx_snoc]; omega, by omega, by omega⟩, dec⟩
    refine cond_b (fun hq4 => ⟨_, fun w' hw => hw.2.at (add1 _ _) rfl, ?_⟩) (fun hq4 => ?_)
    · exact more ⟨tx + 1 + (L[i]).tx % 5, 1 + (L[i]).last % (lsn - 1), (L[i]).c, !(L[i]).c⟩ rfl rfl (by cases (L[i]).c <;> rfl)
    · exact more ⟨tx + 1 + (L[i]).tx % 5, 1 + (L[i]).last % (lsn - 1), (L[i]).c, false⟩ rfl rfl (by cases (L[i]).c <;> rfl)
  rintro _ w7 ⟨ow7, q, L', P7, hL32, hLB, hL1⟩ _
  -- the dirty ones
  refine ⟨fun _ w' => ∃ ow q D', Pp w w' ow b1 b2 b3 m next q nx L' D' ∧ D'.length ≤ 16 ∧ diB lsn (-1) D' = true ∧ (lsn = 1 → D' = []), ?_, ?_⟩
  · refine loopN (fun s w' => ∃ i : Nat, i ≤ 16 ∧ s.2.1 = (i : Int) ∧ ∃ ow q D', Pp w w' ow b1 b2 b3 m next q nx L' D' ∧ D'.length ≤ i ∧ diB lsn (-1) D' = true ∧ (lsn = 1 → D' = []) ∧ lpg (-1) D' ≤ s.1 ∧ -1 ≤ s.1 ∧ s.1 ≤ 4 * (i : Int)) (fun s _ => 16 - s.2.1.toNat)
      ⟨0, by omega, rfl, ow7, q, [], P7, Nat.le_refl _, rfl, fun _ => rfl, Int.le_refl _, Int.le_refl _, by omega⟩ ?_
    rintro ⟨pg, i0, u⟩ w8 ⟨i, hi16, hi0, ow8, q, D', P8, hDi, hDB, hD1, hlt, hpg0, hpg1⟩ _
    dsimp only at hi0 hlt hpg0 hpg1 ⊢
    subst hi0
    have fin : ∃ ow q D', Pp w w8 ow b1 b2 b3 m next q nx L' D' ∧ D'.length ≤ 16 ∧ diB lsn (-1) D' = true ∧ (lsn = 1 → D' = []) := ⟨ow8, q, D', P8, by omega, hDB, hD1⟩
    refine ⟨_, _, _, P8.x1.at (add1 _ _) rfl, cond_d (fun hlt2 => cond_d (fun h16 => cond_d (fun hl1 => ?_) (fun _ => fin)) (fun _ => fin)) (fun _ => fin)⟩
    have hkl : i < D.length := by omega
    refine ⟨_, _, _, P8.x1.at (add1 _ _) rfl, rd_el DV.csl (by omega) (hi.kp0 P8.old.kp).d hkl hdl fun b o ha hc => ?_⟩
    have cell0 : w8.cell? ((⟨b, o, none⟩ : Addr).add (Int.toNat (i : Int) * 2)) = some (.int .i64 (D[i]).page) := by
      rw [Int.toNat_natCast, add_at]; exact hc 0 _ rfl
    refine ⟨_, cell0, brought_c (by omega) (by omega) ⟨_, rfl, ?_⟩⟩
    have h4 := emod_in (D[i]).page (m := 4) (by omega)
    have e1 : IntKind.wrap .i64 (IntKind.wrap .i64 (pg + 1) + (D[i]).page % 4) = pg + 1 + (D[i]).page % 4 := by rw [wrap_i64 (x := pg + 1) (by omega) (by omega), wrap_i64 (by omega) (by omega)]
    rw [e1, wi i (by omega)]
    have dec : 16 - (((i + 1 : Nat) : Int)).toNat < 16 - ((i : Nat) : Int).toNat := by simp only [Int.toNat_natCast]; omega
    refine cond_d (fun h64 => ?_) (fun h64 => ⟨⟨i + 1, by omega, rfl, ow8, q, D', P8, by omega, hDB, hD1, by omega, by omega, by omega⟩, dec⟩)
    have kd : Kp no w8 w8.drew := Kp.drew w8 1
    have fd : Fro (fun _ => True) w8 ow8 w8.drew ow8 := Fro.kp0 kd
    have P9 := P8.fr fd trivial trivial trivial trivial trivial
    have li9 := hi.kp0 P9.old.kp
    refine ⟨fun w' => Blk w' b3 (ptV q nx) T_api_Points ∧ Blk w' b1 (ptV m next) T_api_Points ∧ Rd w' m.da (flatV DV.cs D), ⟨P9.x3, P9.x1, li9.d⟩, _, _, _, fun w' hw => hw.1.at (add1 _ _) rfl, _, _, _, fun w' hw => hw.2.1.at (add1 _ _) rfl, ?_⟩
    refine rd_el DV.csl (by omega) li9.d hkl hdl fun b' o' ha' hc' => ?_
    rw [ha] at ha'
    cases ha'
    have cellS : ∀ w', Rd w' m.da (flatV DV.cs D) → w'.cell? (Addr.add ((⟨b, o, none⟩ : Addr).add (Int.toNat (i : Int) * 2)) 1) = some (.int .i64 (D[i]).since) := fun w' hw => by
      have hq := flatV_get DV.csl D i hkl 1 (by omega)
      obtain ⟨b'', o'', ha'', hcc⟩ := hw (i * 2 + 1) _ (by rw [hq]; rfl)
      rw [ha] at ha''
      cases ha''
      rw [Int.toNat_natCast, add_at, add_at, Nat.add_assoc]
      exact hcc
    refine ⟨_, fun w' hw => cellS w' hw.2.2, ?_⟩
    rw [wrap_i64 (x := lsn - 1) (by omega) (by omega)]
    refine brought_c (by omega) (by omega) ⟨_, rfl, ⟨P9.x3, P9.x1, li9.d⟩, ?_⟩
    have hls := emod_in (D[i]).since (m := lsn - 1) (by omega)
    rw [wrap_i64 (x := 1 + (D[i]).since % (lsn - 1)) (by omega) (by omega)]
    refine AlF.intro fun b5 w16 hb5e hb5 k16 _ => ?_
    have f16 : Fro (fun _ => True) w8.drew ow8 w16 (ext ow8 w8.drew.heap.size 1) := Fro.of_kp0 1 k16
    have P16 := P9.fr f16 trivial trivial trivial trivial trivial
    generalize ext ow8 w8.drew.heap.size 1 = ow16 at *
    have hql := P16.dl
    refine ⟨⟨P16.x3, P16.x1, (hi.kp0 P16.old.kp).d⟩, app_c er_dv P16.dv (rd_cells hb5 (rfl : _ = DV.cs ⟨pg + 1 + (D[i]).page % 4, 1 + (D[i]).since % (lsn - 1)⟩)) (by rfl) (fun h => by cases h) (DV.cs1 _) (by omega) (by omega) fun a6 c6 w17 hs17 k17 f17 => ⟨_, _, _, rfl, ?_⟩⟩
    have P17o := P16.old.fr f17 (by omega)
    obtain ⟨y1, ty1⟩ := blk_fr P16.x1 P16.t1 f17 (by omega)
    obtain ⟨y2, ty2⟩ := blk_fr P16.x2 P16.t2 f17 (by omega)
    obtain ⟨y3, ty3⟩ := blk_fr P16.x3 P16.t3 f17 (by omega)
    have lv17 := P16.lv.fr f17 (by omega)
    generalize ext ow16 w16.heap.size 5 = ow17 at *
    refine ⟨⟨y3, y1, (hi.kp0 P17o.kp).d⟩, StF.at (add1 _ _) y3 (Nat.le_of_ble_eq_true rfl) fun w18 hb18 k18 _ => ?_⟩
    have f18 : Fro (fun u => u ≠ 7) w17 ow17 w18 ow17 := Fro.of_kp' k18 fun j _ hj hne => hne (by rw [hj]; exact ty3)
    obtain ⟨z1, tz1⟩ := blk_fr y1 ty1 f18 (by omega)
    obtain ⟨z2, tz2⟩ := blk_fr y2 ty2 f18 (by omega)
    have hfl : flatV DV.cs (D' ++ [⟨pg + 1 + (D[i]).page % 4, 1 + (D[i]).since % (lsn - 1)⟩]) = flatV DV.cs D' ++ DV.cs ⟨pg + 1 + (D[i]).page % 4, 1 + (D[i]).since % (lsn - 1)⟩ := by rw [flatV_app]; simp [flatV]
    refine ⟨⟨i + 1, by omega, rfl, ow17, { q with da := a6, dl := q.dl + 1, dc := c6 }, D' ++ [⟨pg + 1 + (D[i]).page % 4, 1 + (D[i]).since % (lsn - 1)⟩], ⟨P17o.fr f18 (by omega), z1, tz1, z2, tz2, hb18, ty3, lv17.fr f18 (by omega), by rw [hfl]; exact hs17.fr f18 (by omega), P16.ll, by simp [hql]⟩, by simp; omega, diB_snoc lsn D' (-1) _ hDB (by dsimp only; omega) (by dsimp only; omega) (by dsimp only; omega) (by dsimp only; omega) (belL _ hl1), fun hl => by omega, by rw [lpg_snoc]; exact Int.le_refl _, by omega, by omega⟩, dec⟩
  rintro _ w8 ⟨ow8, q, D', P8, hD16, hDB, hD1⟩ _
  refine ⟨_, _, _, _, _, _, _, ⟨P8.x3.at rfl rfl, P8.x3.at (add1 _ _) rfl, P8.x3.at (add1 _ _) rfl, trivial⟩, ?_⟩
  refine StF.at rfl P8.x2 (Nat.le_of_ble_eq_true rfl) fun w9 hb9 k9 _ => StF.at (add1 _ _) hb9 (Nat.le_of_ble_eq_true rfl) fun w10 hb10 k10 _ => StF.at (add1 _ _) hb10 (Nat.le_of_ble_eq_true rfl) fun w11 hb11 k11 _ => ?_
  have hb11 : Blk w11 b2 (ptV q nx) T_api_Points := hb11
  have kk := (k9.trans0 k10).trans0 k11
  have f11 : Fro (fun u => u ≠ 6) w8 ow8 w11 ow8 := Fro.of_kp' kk fun j _ hj hne => hne (by rw [hj]; exact P8.t2)
  have o11 := P8.old.fr f11 (by omega)
  have lv := P8.lv.fr f11 (by omega)
  have dv := P8.dv.fr f11 (by omega)
  refine ⟨_, _, _, _, _, _, _, ⟨hb11.at rfl rfl, hb11.at (add1 _ _) rfl, hb11.at (add1 _ _) rfl, trivial⟩, ?_⟩
  have nw : ∀ (a : Option Addr) (t : Nat), t ≠ 0 → Tg ow8 t (Is a) → Fresh w a := fun a t h0 ht k hk => by
    apply Nat.le_of_not_lt
    intro hlt
    have := o11.z k hlt
    rw [ht k hk] at this
    exact h0 this
  refine h q nx L' D' w11 o11.kp ⟨by rw [← P8.ll]; exact lv.sl, by rw [← P8.dl]; exact dv.sl, P8.ll, P8.dl, nw _ 4 (by decide) lv.tg, nw _ 5 (by decide) dv.tg, fun k hk1 hk2 => ?_⟩ (by omega) (by omega) hLB hDB hL32 hD16 fun hl => ⟨hL1 hl, hD1 hl⟩
  have := lv.tg k hk1
  have := dv.tg k hk2
  omega
end Go.Proofs.Ytkfdkcclojepnaa

/- Layer 6: the statements' made. Conditions: none. -/
set_option linter.unusedVariables false
set_option linter.unusedSimpArgs false
namespace Go.Proofs.Ytkfdkcclojepnaa
open Go Go.RowKit

theorem and_t {a b : Bool} (h1 : a = true) (h2 : b = true) : (a && b) = true := by rw [h1, h2]; rfl
theorem i64_0 : i64 0 := by decide
/-- made's boxes: what came in, what goes out, what is made. -/
structure Md (w0 w : World) (b1 b2 b3 : Nat) (r : RV) (m : Mm) (q : RV) : Prop where
  kp : Kp no w0 w
  x1 : Blk w b1 (r.ca m) T_api_Record
  x2 : Blk w b2 (({} : RV).ca {}) T_api_Record
  x3 : Blk w b3 (q.ca {}) T_api_Record
  n2 : w0.heap.size ≤ b2
  n3 : w0.heap.size ≤ b3
  e1 : b1 ≠ b3
  e2 : b2 ≠ b3
theorem Md.kp0 {w0 w w' : World} {b1 b2 b3 : Nat} {r q : RV} {m : Mm} (h : Md w0 w b1 b2 b3 r m q) (k : Kp no w w') : Md w0 w' b1 b2 b3 r m q :=
  ⟨h.kp.trans0 k, k.blk h.x1 id, k.blk h.x2 id, k.blk h.x3 id, h.n2, h.n3, h.e1, h.e2⟩
theorem Md.st {w0 w : World} {b1 b2 b3 o : Nat} {r q : RV} {m : Mm} {ad : Addr} {v : Value} {K : World → Prop} (h : Md w0 w b1 b2 b3 r m q) (q' : RV) (had : ad = ⟨b3, o, none⟩) (ho : o < 17) (he : (q.ca {}).setIfInBounds o v = q'.ca {})
    (hk : ∀ w', Md w0 w' b1 b2 b3 r m q' → Kp (fun j => j = b3) w w' → K w') : StF w ad v K :=
  StF.at had h.x3 ho fun w' hb' k' _ => hk w' ⟨kp_blk h.kp h.n3 k', k'.blk h.x1 h.e1, k'.blk h.x2 h.e2, he ▸ hb', h.n2, h.n3, h.e1, h.e2⟩ k'
/-- What has been laid by kind. -/
def P20 (K T tx dl i g lo hi va : Int) : Prop :=
  (K = 2 → tx = 0 ∧ dl = 0 ∧ (1 ≤ i ∧ i ≤ 1048576) ∧ (1 ≤ g ∧ g ≤ 1048576) ∧ lo ≤ va ∧ va ≤ hi) ∧
  ((K = 3 ∨ K = 4) → tx = T ∧ (1 ≤ i ∧ i ≤ 1048576) ∧ g = 0 ∧ lo = 0 ∧ hi = 0 ∧ va = 0) ∧
  (K ≠ 2 → K ≠ 3 → K ≠ 4 → tx = T ∧ dl = 0 ∧ i = 0 ∧ g = 0 ∧ lo = 0 ∧ hi = 0 ∧ va = 0) ∧ i64 dl ∧ i64 lo ∧ i64 hi ∧ i64 va
def P25 (K wp wi sp si : Int) : Prop := ((K = 2 ∨ K = 3 ∨ K = 4) → slB wp wi sp si = true) ∧ (K ≠ 2 → K ≠ 3 → K ≠ 4 → wp = 0 ∧ wi = 0 ∧ sp = 0 ∧ si = 0)
def P27 (K lsn pv : Int) : Prop := ((K = 1 ∨ K = 2) → pv = 0) ∧ (K ≠ 1 → K ≠ 2 → 1 ≤ pv ∧ pv < lsn)
theorem made_chk {K T lsn tx dl i g lo hi va wp wi sp si pv : Int} (hK : 1 ≤ K ∧ K ≤ 7) (hT : 1 ≤ T ∧ T ≤ 1048576) (hl : 1 ≤ lsn ∧ lsn ≤ 100000) (p20 : P20 K T tx dl i g lo hi va) (p25 : P25 K wp wi sp si) (p27 : P27 K lsn pv) :
    chkN { lsn := lsn, kind := K, tx := tx, prev := pv, wp := wp, wi := wi, sp := sp, si := si, delta := dl, id := i, grp := g, lo := lo, hi := hi, val := va } = 0 := by
  obtain ⟨a1, a2, a3, _⟩ := p20
  obtain ⟨b1, b2⟩ := p25
  obtain ⟨c1, c2⟩ := p27
  unfold chkN
  rw [if_neg (by dsimp only; omega), if_pos]
  unfold okB
  dsimp only
  refine and_t (inB_iff.2 (by omega)) ?_
  by_cases h2 : K = 2
  · obtain ⟨x1, x2, x3, x4, x5, x6⟩ := a1 h2
    have x7 := c1 (.inr h2)
    rw [if_pos h2]
    exact and_t (and_t (and_t (and_t (b1 (.inl h2)) (inB_iff.2 x3)) (inB_iff.2 x4)) (decide_eq_true ⟨x5, x6⟩)) (decide_eq_true ⟨x1, x7, x2, rfl, rfl, rfl⟩)
  rw [if_neg h2, if_neg (show ¬ K = 8 by omega)]
  by_cases h34 : K = 3 ∨ K = 4
  · obtain ⟨x1, x2, x3, x4, x5, x6⟩ := a2 h34
    have x7 := c2 (by omega) (by omega)
    rw [if_pos h34]
    exact and_t (and_t (and_t (and_t (b1 (.inr h34)) (inB_iff.2 x2)) (and_t (inB_iff.2 (by omega)) (decide_eq_true (.inr x7.2)))) (inB_iff.2 (by omega))) (decide_eq_true ⟨x3, x4, x5, x6, rfl, rfl, rfl⟩)
  rw [if_neg h34]
  obtain ⟨x1, x2, x3, x4, x5, x6, x7⟩ := a3 h2 (by omega) (by omega)
  obtain ⟨y1, y2, y3, y4⟩ := b2 h2 (by omega) (by omega)
  by_cases h567 : K = 5 ∨ K = 6 ∨ K = 7
  · have z := c2 (by omega) (by omega)
    rw [if_pos h567]
    exact and_t (and_t (and_t (inB_iff.2 (by omega)) (decide_eq_true (.inr z.2))) (inB_iff.2 (by omega))) (decide_eq_true ⟨y1, y2, y3, y4, x2, x3, x4, x5, x6, x7, rfl, rfl, rfl⟩)
  · have z := c1 (.inl (by omega))
    rw [if_neg h567]
    exact and_t (inB_iff.2 (by omega)) (decide_eq_true ⟨z, y1, y2, y3, y4, x2, x3, x4, x5, x6, x7, rfl, rfl, rfl⟩)
theorem ckp_chk {lsn nx : Int} {L : List LV} {D : List DV} (hl : 1 ≤ lsn ∧ lsn ≤ 100000) (h1 : 1 ≤ nx) (h2 : nx ≤ 1048576) (h3 : liB nx lsn 0 L = true) (h4 : diB lsn (-1) D = true) (h5 : L.length ≤ 32) (h6 : D.length ≤ 16) :
    chkN { lsn := lsn, kind := 8, next := nx, live := L, dirty := D } = 0 := by
  unfold chkN
  rw [if_neg (by dsimp only; omega), if_pos]
  unfold okB
  dsimp only
  refine and_t (inB_iff.2 (by omega)) ?_
  rw [if_neg (by decide), if_pos rfl]
  unfold cpB
  exact and_t (and_t (and_t (and_t (and_t (inB_iff.2 (by omega)) (decide_eq_true h5)) (decide_eq_true h6)) h3) h4) (decide_eq_true ⟨rfl, rfl, rfl, rfl, rfl, rfl, rfl, rfl, rfl, rfl, rfl, rfl⟩)
theorem slB_dots (p i p' i' : Int) : slB (p % 64) (i % 31) (if p' % 64 = p % 64 then (p % 64 + 1) % 64 else p' % 64) (i' % 84) = true := by
  unfold slB
  have h1 := emod_in p (m := 64) (by omega)
  have h2 := emod_in i (m := 31) (by omega)
  have h3 := emod_in p' (m := 64) (by omega)
  have h4 := emod_in i' (m := 84) (by omega)
  have h5 := emod_in (p % 64 + 1) (m := 64) (by omega)
  simp only [Bool.and_eq_true, inB_iff, decide_eq_true_eq]
  split <;> omega

set_option maxHeartbeats 8000000 in
theorem made_c {w : World} {r : RV} {m : Mm} {lsn : Int} {R : Ending → World → Prop} (hr : RArg w r m) (hl : 1 ≤ lsn ∧ lsn ≤ 100000)
    (h : ∀ (q : RV) (m' : Mm) (w' : World), Kp no w w' → OwnL w w' q m' → chkN { q with lsn := lsn } = 0 → q.w64 → q.lsn = 0 → (q.kind = 1 + r.kind % 8 ∨ q.kind = 1) → R (.returned (.agg (q.ca m'))) w') :
    GoC Try.prog F_law06_made #[.agg (r.ca m), .int .i64 lsn] w R := by
  refine S_law06_made ?_
  unfold W_law06_made
  have hw := hr.wf
  refine Loc.al (Kp.refl _ w) fun b1 w1 h1 k1 g1 => Loc.al h1.kp fun b2 w2 h2 k2 g2 => ?_
  have s1 := h1.blk.lt
  have h12 := h1.kp' k2
  have h12 : Loc w w2 b1 (r.ca m) T_api_Record := h12
  have h22 : Loc w w2 b2 (({} : RV).ca {}) T_api_Record := h2
  have s2 := h22.blk.lt
  refine ⟨_, h12.at rfl rfl, brought_c (by omega) (by omega) ⟨_, rfl, _, h12.at rfl rfl, brought_c (by omega) (by omega) ⟨_, rfl, ?_⟩⟩⟩
  have hk8 := emod_in r.kind (m := 8) (by omega)
  have htx := emod_in r.tx (m := 1048576) (by omega)
  rw [wrap_i64 (x := 1 + r.kind % 8) (by omega) (by omega), wrap_i64 (x := 1 + r.tx % 1048576) (by omega) (by omega)]
  generalize hKe : 1 + r.kind % 8 = K at *
  generalize hTe : 1 + r.tx % 1048576 = T at *
  have hK : 1 ≤ K ∧ K ≤ 8 := by omega
  have hT : 1 ≤ T ∧ T ≤ 1048576 := by omega
  refine Loc.al h22.kp fun b3 w3 h3 k3 g3 => ?_
  have h3 : Loc w w3 b3 (({} : RV).ca {}) T_api_Record := h3
  refine rec_st h3.blk { kind := K, tx := T } {} fun w4 hb4 k4 => ?_
  have M4 : Md w w4 b1 b2 b3 r m { kind := K, tx := T } := by
    have e1 : b1 ≠ b3 := by omega
    have e2 : b2 ≠ b3 := by omega
    exact ⟨kp_blk h3.kp h3.nw k4, k4.blk (k3.blk h12.blk id) e1, k4.blk (k3.blk h22.blk id) e2, hb4, h22.nw, h3.nw, e1, e2⟩
  -- what goes out, of what has no lists
  have out : ∀ (q : RV) (w' : World), q.live = [] → q.dirty = [] → Kp no w w' → Blk w' b2 (({} : RV).ca {}) T_api_Record → chkN { q with lsn := lsn } = 0 → q.w64 → q.lsn = 0 → (q.kind = K ∨ q.kind = 1) →
      ∀ w'', Blk w'' b2 (q.ca {}) T_api_Record → Kp (fun j => j = b2) w' w'' → R (.returned (.agg (q.ca {}))) w'' := fun q w' hq1 hq2 k' hx2 hc h64 hls hkk w'' hb'' k'' => by
    refine h q {} w'' (kp_blk k' h22.nw k'') ?_ hc h64 hls hkk
    refine ⟨?_, ?_, by rw [hq1]; rfl, by rw [hq2]; rfl, fun k hk => (is_none hk).elim, fun k hk => (is_none hk).elim, fun k hk => (is_none hk).elim⟩
    · rw [hq1]; exact Sl.nil _ _ _
    · rw [hq2]; exact Sl.nil _ _ _
  refine ⟨fun _ w' => Md w w' b1 b2 b3 r m { kind := K, tx := T } ∧ (lsn < 2 → K = 2 ∨ K = 8), cond_d (fun hl2 => cond_ne (fun hk2 => cond_ne (fun hk8' => ?_) (fun hk8' => ⟨M4, fun _ => .inr hk8'⟩)) (fun hk2 => ⟨M4, fun _ => .inl hk2⟩)) (fun hl2 => ⟨M4, fun hh => absurd hh hl2⟩), ?_⟩
  · refine rec_st M4.x2 { kind := 1, tx := T } {} fun w5 hb5 k5 => rec_rd hb5 (out { kind := 1, tx := T } w4 rfl rfl M4.kp M4.x2 ?_ ⟨i64_0, i64_0, i64_0, i64_0⟩ rfl (.inr rfl) w5 hb5 k5)
    exact made_chk (K := 1) (T := T) (by omega) hT hl ⟨by omega, by omega, fun _ _ _ => ⟨rfl, rfl, rfl, rfl, rfl, rfl, rfl⟩, i64_0, i64_0, i64_0, i64_0⟩ ⟨by omega, fun _ _ _ => ⟨rfl, rfl, rfl, rfl⟩⟩ ⟨fun _ => rfl, by omega⟩
  rintro _ w5 ⟨M5, hl5⟩ _
  clear M4
  refine ⟨fun _ w' => K ≠ 8 ∧ ∃ tx dl i g lo hi va, Md w w' b1 b2 b3 r m { kind := K, tx := tx, delta := dl, id := i, grp := g, lo := lo, hi := hi, val := va } ∧ P20 K T tx dl i g lo hi va, cond_eq (fun hk2 => ?_) (fun hk2 => ?_), ?_⟩
  · -- a counter is made
    refine ⟨_, _, _, _, _, ⟨M5.x1.at (add1 _ _) rfl, M5.x1.at (add2 _ _ _) rfl, M5.x1.at (add2 _ _ _) rfl, M5.x1.at (add2 _ _ _) rfl, M5.x1.at (add2 _ _ _) rfl, trivial⟩, ?_⟩
    refine AlF.intro fun b4 w6 hb4e hb46 k6 _ => ?_
    have M6 := M5.kp0 k6
    have n41 : b1 ≠ b4 := by have := M5.x1.lt; omega
    have n42 : b2 ≠ b4 := by have := M5.x2.lt; omega
    have n43 : b3 ≠ b4 := by have := M5.x3.lt; omega
    have n4 : w.heap.size ≤ b4 := by have := M5.kp.size; omega
    refine StF.at rfl hb46 (by simp) fun w7 hb7 k7 _ => StF.at (add1 _ _) hb7 (by simp) fun w8 hb8 k8 _ => StF.at (add1 _ _) hb8 (by simp) fun w9 hb9 k9 _ => StF.at (add1 _ _) hb9 (by simp) fun w10 hb10 k10 _ => StF.at (add1 _ _) hb10 (by simp) fun w11 hb11 k11 _ => ?_
    have kk := (((k7.trans0 k8).trans0 k9).trans0 k10).trans0 k11
    have mdk : ∀ {wa wb : World} {q : RV}, Md w wa b1 b2 b3 r m q → Kp (fun j => j = b4) wa wb → Md w wb b1 b2 b3 r m q := fun h k => ⟨kp_blk h.kp n4 k, k.blk h.x1 n41, k.blk h.x2 n42, k.blk h.x3 n43, h.n2, h.n3, h.e1, h.e2⟩
    have M11 := mdk M6 kk
    have hb11 : Blk w11 b4 #[.int .i64 r.id, .int .i64 r.grp, .int .i64 r.lo, .int .i64 r.hi, .int .i64 r.val] T_api_Counter := hb11
    refine ⟨fun _ w' => ∃ lo hi, Blk w' b4 #[.int .i64 r.id, .int .i64 r.grp, .int .i64 lo, .int .i64 hi, .int .i64 r.val] T_api_Counter ∧ lo ≤ hi ∧ i64 lo ∧ i64 hi ∧ Md w w' b1 b2 b3 r m { kind := K, tx := T }, ⟨_, hb11.at (add1 _ _) rfl, _, hb11.at (add2 _ _ _) rfl, cond_d (fun hgt => ?_) (fun hgt => ⟨_, _, hb11, by omega, hw.lo, hw.hi, M11⟩)⟩, ?_⟩
    · refine ⟨_, hb11.at (add2 _ _ _) rfl, _, hb11.at (add1 _ _) rfl, StF.at (add1 _ _) hb11 (by simp) fun w12 hb12 k12 _ => StF.at (add2 _ _ _) hb12 (by simp) fun w13 hb13 k13 _ => ?_⟩
      exact ⟨r.hi, r.lo, hb13, by omega, hw.hi, hw.lo, mdk M11 (k12.trans0 k13)⟩
    rintro _ w12 ⟨lo, hi, hb12, hlh, wlo, whi, M12⟩ _
    refine ⟨_, hb12.at (add1 _ _) rfl, _, hb12.at (add2 _ _ _) rfl, _, hb12.at (add1 _ _) rfl, ?_⟩
    refine M12.st { kind := K } (add1 _ _) (by omega) rfl fun w13 M13 k13 => ?_
    have hb13 := k13.blk hb12 (fun hh => n43 hh.symm)
    have kd : Kp no w13 w13.drew := Kp.drew w13 1
    have M14 := M13.kp0 kd
    have hb14 := kd.blk hb13 id
    refine ⟨fun w' => Blk w' b4 #[.int .i64 r.id, .int .i64 r.grp, .int .i64 lo, .int .i64 hi, .int .i64 r.val] T_api_Counter, hb14, _, fun w' hw' => hw'.at rfl rfl, _, fun w' hw' => hw'.at (add1 _ _) rfl, _, _, fun w' hw' => ⟨hw'.at (add1 _ _) rfl, hw'.at (add2 _ _ _) rfl, trivial⟩, ?_⟩
    refine brought_c (by omega) (by omega) ⟨_, rfl, hb14, brought_c (by omega) (by omega) ⟨_, rfl, hb14, ?_⟩⟩
    have hid := emod_in r.id (m := 1048576) (by omega)
    have hgr := emod_in r.grp (m := 1048576) (by omega)
    rw [wrap_i64 (x := 1 + r.id % 1048576) (by omega) (by omega), wrap_i64 (x := 1 + r.grp % 1048576) (by omega) (by omega)]
    generalize hva : (if (if r.val < hi then r.val else hi) > lo then (if r.val < hi then r.val else hi) else lo) = va
    have hva' : lo ≤ va ∧ va ≤ hi := by
      rw [← hva]
      split <;> split <;> omega
    refine M14.st { kind := K, id := 1 + r.id % 1048576 } (add1 _ _) (by omega) rfl fun w15 M15 _ => M15.st { kind := K, id := 1 + r.id % 1048576, grp := 1 + r.grp % 1048576 } (add2 _ _ _) (by omega) rfl fun w16 M16 _ => M16.st { kind := K, id := 1 + r.id % 1048576, grp := 1 + r.grp % 1048576, lo := lo } (add2 _ _ _) (by omega) rfl fun w17 M17 _ => M17.st { kind := K, id := 1 + r.id % 1048576, grp := 1 + r.grp % 1048576, lo := lo, hi := hi } (add2 _ _ _) (by omega) rfl fun w18 M18 _ => M18.st { kind := K, id := 1 + r.id % 1048576, grp := 1 + r.grp % 1048576, lo := lo, hi := hi, val := va } (add2 _ _ _) (by omega) rfl fun w19 M19 _ => ?_
    exact ⟨by omega, 0, 0, 1 + r.id % 1048576, 1 + r.grp % 1048576, lo, hi, va, M19, fun _ => ⟨rfl, rfl, by omega, by omega, hva'.1, hva'.2⟩, by omega, by omega, by decide, wlo, whi, by obtain ⟨a, b⟩ := wlo; obtain ⟨c, d⟩ := whi; exact ⟨by omega, by omega⟩⟩
  · refine ⟨fun s w' => s.1 = decide (K = 3 ∨ K = 4) ∧ Md w w' b1 b2 b3 r m { kind := K, tx := T }, cond_eq (fun hk3 => ⟨?_, M5⟩) (fun hk3 => ⟨?_, M5⟩), ?_⟩
    · show (K == 3) = _
      rw [decide_eq_true (.inl hk3), hk3]
      rfl
    · show (K == 4) = _
      by_cases hk4 : K = 4
      · rw [decide_eq_true (.inr hk4), hk4]
        rfl
      · rw [decide_eq_false (by omega)]
        simpa using hk4
    rintro ⟨s, u⟩ w6 ⟨hs, M6⟩ _
    dsimp only at hs ⊢
    subst hs
    refine cond_d (fun h34 => ?_) (fun h34 => cond_eq (fun hk8' => ?_) (fun hk8' => ?_))
    · refine ⟨_, M6.x1.at (add1 _ _) rfl, brought_c (by omega) (by omega) ⟨_, rfl, ?_⟩⟩
      have hid := emod_in r.id (m := 1048576) (by omega)
      rw [wrap_i64 (x := 1 + r.id % 1048576) (by omega) (by omega)]
      refine M6.st { kind := K, tx := T, id := 1 + r.id % 1048576 } (add1 _ _) (by omega) rfl fun w7 M7 _ => M7.st { kind := K, tx := T, id := 1 + r.id % 1048576 } (add2 _ _ _) (by omega) rfl fun w8 M8 _ => M8.st { kind := K, tx := T, id := 1 + r.id % 1048576 } (add2 _ _ _) (by omega) rfl fun w9 M9 _ => M9.st { kind := K, tx := T, id := 1 + r.id % 1048576 } (add2 _ _ _) (by omega) rfl fun w10 M10 _ => M10.st { kind := K, tx := T, id := 1 + r.id % 1048576 } (add2 _ _ _) (by omega) rfl fun w11 M11 _ => ?_
      refine ⟨_, M11.x1.at (add1 _ _) rfl, M11.st { kind := K, tx := T, id := 1 + r.id % 1048576, delta := r.delta } (add1 _ _) (by omega) rfl fun w12 M12 _ => ?_⟩
      exact ⟨by omega, T, r.delta, 1 + r.id % 1048576, 0, 0, 0, 0, M12, by omega, fun _ => ⟨rfl, by omega, rfl, rfl, rfl, rfl⟩, by omega, hw.delta, by decide, by decide, by decide⟩
    · -- a checkpoint
      subst hk8'
      refine ⟨_, _, _, _, _, _, _, ⟨M6.x1.at (add1 _ _) rfl, M6.x1.at (add2 _ _ _) rfl, M6.x1.at (add2 _ _ _) rfl, trivial⟩, ?_⟩
      refine points_c (m := m) (L := r.live) (D := r.dirty) (next := r.next) (hr.li.kp0 M6.kp) hl.1 hl.2 fun q nx L' D' w7 k7 o7 hn1 hn2 hL hD h32 h16 _ => ?_
      have M7 := M6.kp0 k7
      refine ⟨_, _, _, _, _, _, _, rfl, ?_⟩
      refine rec_st M7.x2 { kind := 8, live := L', dirty := D', next := nx } q fun w8 hb8 k8 => rec_rd hb8 ?_
      have z6 := M6.x2.lt
      have o6 := o7.from M6.kp.size
      refine h { kind := 8, live := L', dirty := D', next := nx } q w8 (kp_blk M7.kp M7.n2 k8) ⟨?_, ?_, o7.ll, o7.dl, o6.fl, o6.fd, o6.ap⟩ (ckp_chk hl hn1 hn2 hL hD h32 h16) ⟨i64_0, i64_0, i64_0, i64_0⟩ rfl (.inl rfl)
      · exact o7.l.kp k8 fun j hj hh => by have := o7.fl j hj; omega
      · exact o7.d.kp k8 fun j hj hh => by have := o7.fd j hj; omega
    · exact ⟨hk8', T, 0, 0, 0, 0, 0, 0, M6, by omega, by omega, fun _ _ _ => ⟨rfl, rfl, rfl, rfl, rfl, rfl, rfl⟩, by decide, by decide, by decide, by decide⟩
  rintro _ w6 ⟨hn8, tx, dl, i, g, lo, hi, va, M6, p20⟩ _
  clear M5
  -- the slots
  refine ⟨fun _ w' => ∃ wp wi sp si, Md w w' b1 b2 b3 r m { kind := K, tx := tx, wp := wp, wi := wi, sp := sp, si := si, delta := dl, id := i, grp := g, lo := lo, hi := hi, val := va } ∧ P25 K wp wi sp si, ?_, ?_⟩
  · refine cond_eq (fun hk => ?_) (fun hk => cond_eq (fun hk3 => ?_) (fun hk3 => cond_eq (fun hk4 => ?_) (fun hk4 => ⟨0, 0, 0, 0, M6, by omega, fun _ _ _ => ⟨rfl, rfl, rfl, rfl⟩⟩)))
    all_goals
      refine ⟨_, _, ⟨M6.x1.at (add1 _ _) rfl, M6.x1.at (add2 _ _ _) rfl, trivial⟩, dot_c (by omega) (by omega) fun w7 k7 => ⟨_, _, rfl, ?_⟩⟩
      refine (M6.kp0 k7).st { kind := K, tx := tx, wp := r.wp % 64, delta := dl, id := i, grp := g, lo := lo, hi := hi, val := va } (add1 _ _) (by omega) rfl fun w8 M8 _ => M8.st { kind := K, tx := tx, wp := r.wp % 64, wi := r.wi % 31, delta := dl, id := i, grp := g, lo := lo, hi := hi, val := va } (add2 _ _ _) (by omega) rfl fun w9 M9 _ => ?_
      refine ⟨fun _ w' => Md w w' b1 b2 b3 r m { kind := K, tx := tx, wp := r.wp % 64, wi := r.wi % 31, sp := r.sp % 64, si := r.si % 84, delta := dl, id := i, grp := g, lo := lo, hi := hi, val := va }, ⟨_, _, ⟨M9.x1.at (add1 _ _) rfl, M9.x1.at (add2 _ _ _) rfl, trivial⟩, dot_c (by omega) (by omega) fun w10 k10 => ⟨_, _, rfl, (M9.kp0 k10).st { kind := K, tx := tx, wp := r.wp % 64, wi := r.wi % 31, sp := r.sp % 64, delta := dl, id := i, grp := g, lo := lo, hi := hi, val := va } (add1 _ _) (by omega) rfl fun w11 M11 _ => M11.st { kind := K, tx := tx, wp := r.wp % 64, wi := r.wi % 31, sp := r.sp % 64, si := r.si % 84, delta := dl, id := i, grp := g, lo := lo, hi := hi, val := va } (add2 _ _ _) (by omega) rfl fun w12 M12 _ => M12⟩⟩, ?_⟩
      rintro _ w10 M10 _
      have sd := slB_dots r.wp r.wi r.sp r.si
      have hwp := emod_in r.wp (m := 64) (by omega)
      refine ⟨_, M10.x3.at (add1 _ _) rfl, _, M10.x3.at (add1 _ _) rfl, cond_eq (fun heq => ⟨_, M10.x3.at (add1 _ _) rfl, by decide, ?_⟩) (fun heq => ⟨r.wp % 64, r.wi % 31, r.sp % 64, r.si % 84, M10, fun _ => by rw [if_neg heq] at sd; exact sd, by omega⟩)⟩
      have et : Int.tmod (IntKind.wrap .i64 (r.wp % 64 + 1)) 64 = (r.wp % 64 + 1) % 64 := by
        rw [wrap_i64 (by omega) (by omega), Int.tmod_eq_emod_of_nonneg (by omega)]
      rw [et]
      rw [if_pos heq] at sd
      exact M10.st { kind := K, tx := tx, wp := r.wp % 64, wi := r.wi % 31, sp := (r.wp % 64 + 1) % 64, si := r.si % 84, delta := dl, id := i, grp := g, lo := lo, hi := hi, val := va } (add1 _ _) (by omega) rfl fun w11 M11 _ => ⟨r.wp % 64, r.wi % 31, (r.wp % 64 + 1) % 64, r.si % 84, M11, fun _ => sd, by omega⟩
  rintro _ w7 ⟨wp, wi, sp, si, M7, p25⟩ _
  clear M6
  refine ⟨fun _ w' => ∃ pv, Md w w' b1 b2 b3 r m { kind := K, tx := tx, prev := pv, wp := wp, wi := wi, sp := sp, si := si, delta := dl, id := i, grp := g, lo := lo, hi := hi, val := va } ∧ P27 K lsn pv, cond_ne (fun h1 => cond_ne (fun h2 => ?_) (fun h2 => ⟨0, M7, fun _ => rfl, by omega⟩)) (fun h1 => ⟨0, M7, fun _ => rfl, by omega⟩), ?_⟩
  · have hl2 : 2 ≤ lsn := by
      apply Int.le_of_not_gt
      intro hh
      rcases hl5 (by omega) with h5 | h5 <;> omega
    refine ⟨_, M7.x1.at (add1 _ _) rfl, ?_⟩
    rw [wrap_i64 (x := lsn - 1) (by omega) (by omega)]
    refine brought_c (by omega) (by omega) ⟨_, rfl, ?_⟩
    have hp := emod_in r.prev (m := lsn - 1) (by omega)
    rw [wrap_i64 (x := 1 + r.prev % (lsn - 1)) (by omega) (by omega)]
    exact M7.st { kind := K, tx := tx, prev := 1 + r.prev % (lsn - 1), wp := wp, wi := wi, sp := sp, si := si, delta := dl, id := i, grp := g, lo := lo, hi := hi, val := va } (add1 _ _) (by omega) rfl fun w8 M8 _ => ⟨_, M8, by omega, fun _ _ => ⟨by omega, by omega⟩⟩
  rintro _ w8 ⟨pv, M8, p27⟩ _
  have p20' := p20
  obtain ⟨_, _, _, d1, d2, d3, d4⟩ := p20'
  refine rec_rd M8.x3 (rec_st M8.x2 { kind := K, tx := tx, prev := pv, wp := wp, wi := wi, sp := sp, si := si, delta := dl, id := i, grp := g, lo := lo, hi := hi, val := va } {} fun w9 hb9 k9 => rec_rd hb9 (out { kind := K, tx := tx, prev := pv, wp := wp, wi := wi, sp := sp, si := si, delta := dl, id := i, grp := g, lo := lo, hi := hi, val := va } w8 rfl rfl M8.kp M8.x2 (made_chk (K := K) (by omega) hT hl p20 p25 p27) ⟨d1, d2, d3, d4⟩ rfl (.inl rfl) w9 hb9 k9))
end Go.Proofs.Ytkfdkcclojepnaa

/- Layer 6's falls and lives, as they are handed in. Conditions: none. -/
set_option linter.unusedVariables false
set_option linter.unusedSimpArgs false
namespace Go.Proofs.Ytkfdkcclojepnaa
open Go Go.RowKit Go.ChangeShapes Go.WideShapes

/-- A fall. -/
structure FallA where
  n : Int
  la : Option Addr
  lc : Nat
  keep : List Nat
  torn : Int
  off : Int
def FallA.cs (o : FallA) : List Value := [.int .i64 o.n, .slice o.la o.keep.length o.lc, .int .i64 o.torn, .int .i64 o.off]
theorem FallA.cs_len (o : FallA) : o.cs.length = 4 := rfl
def fFA : List FallA → List Value := flatV FallA.cs
instance : Inhabited FallA := ⟨⟨0, none, 0, [], 0, 0⟩⟩
def FallA.Ok (W : World) (o : FallA) : Prop := LossOk W o.la o.keep.length o.keep o.torn o.off
theorem fall_open' {W : World} {cs : List Value} (h : ClW Try.prog W T_quotalaw06_Fall cs) : ∃ x : FallA, cs = x.cs ∧ x.Ok W := by
  have hl := h.cl.slen (s := 4) (by kernel_rfl)
  have f0 := h.cl.field 0 (e := T_int) (o := 0) (s := 1) (by kernel_rfl)
  have f1 := h.field 1 (e := T_api_Loss) (o := 1) (s := 3) (by kernel_rfl)
  match cs, hl with
  | [x0, x1, x2, x3], _ =>
    simp only [List.drop_zero, List.drop_succ_cons, List.take_succ_cons, List.take_zero] at f0 f1
    obtain ⟨k, h0, w0⟩ := f0.int (k := .i64) (by kernel_rfl)
    obtain ⟨a, l, c, keep, torn, off, h5, hL⟩ := loss_open' f1
    cases h0; cases h5
    have hn := hL.n
    subst hn
    exact ⟨⟨k, a, c, keep, torn, off⟩, rfl, hL⟩
theorem fall_open {W : World} {v : Value} (h : ArgW Try.prog W T_quotalaw06_Fall v) : ∃ x : FallA, v = .agg #[.int .i64 x.n, .slice x.la x.keep.length x.lc, .int .i64 x.torn, .int .i64 x.off] ∧ x.Ok W := by
  obtain ⟨cells, rfl, _⟩ := h.arg.struct (s := 4) (by kernel_rfl)
  have hw := h.clw
  obtain ⟨x, he, hp⟩ := fall_open' (cs := cells.toList) hw
  refine ⟨x, ?_, hp⟩
  congr 1
  cases cells
  exact congrArg List.toArray he
structure FallsOk (W : World) (a : Option Addr) (l c : Nat) (L : List FallA) : Prop where
  n : L.length = l
  rd : Rd W a (fFA L)
  ok : ∀ x ∈ L, x.Ok W
theorem rd_flatF {W : World} {a : Option Addr} {L : List FallA} (h : ∀ (i : Nat) (hi : i < L.length) (q : Nat) (v : Value), (L[i]).cs[q]? = some v → ∃ b o, a = some ⟨b, o, none⟩ ∧ W.cell? ⟨b, o + i * 4 + q, none⟩ = some v) : Rd W a (fFA L) := by
  intro j v hv
  have hj : j < L.length * 4 := by have := (List.getElem?_eq_some_iff.1 hv).1; rwa [fFA, flatV_len FallA.cs_len] at this
  have hq : j % 4 < 4 := Nat.mod_lt _ (by omega)
  have hi : j / 4 < L.length := by omega
  have e : j / 4 * 4 + j % 4 = j := by omega
  have hg := flatV_get FallA.cs_len L (j / 4) hi (j % 4) hq
  rw [e] at hg
  unfold fFA at hv
  rw [hv] at hg
  obtain ⟨b, o, ha, hc⟩ := h (j / 4) hi (j % 4) v hg.symm
  refine ⟨b, o, ha, ?_⟩
  rwa [Nat.add_assoc, e] at hc
theorem falls_open {W : World} {v : Value} (h : ArgW Try.prog W T_s_quotalaw06_Fall v) : ∃ a l c L, v = .slice a l c ∧ FallsOk W a l c L := by
  obtain ⟨a, l, c, rfl, hc⟩ := h.arg.slice (e := T_quotalaw06_Fall) (by kernel_rfl)
  have hw : ClW Try.prog W T_s_quotalaw06_Fall [.slice a l c] := h.clw
  obtain ⟨css, h1, h2⟩ := hw.cells (e := T_quotalaw06_Fall) (s := 4) (by kernel_rfl) (by kernel_rfl) (by omega)
  have each : ∀ i, i < l → ∃ x : FallA, css i = x.cs ∧ x.Ok W := fun i hi => fall_open' (h1 i hi)
  obtain ⟨f, hf⟩ := Deep.choose_lt (α := FallA) (p := fun i x => css i = x.cs ∧ x.Ok W) each
  refine ⟨a, l, c, (List.range l).map f, rfl, by simp, rd_flatF fun i hi q v hv => ?_, fun x hx => ?_⟩
  · have hil : i < l := by simpa using hi
    have e : ((List.range l).map f)[i] = f i := by simp
    rw [e] at hv
    exact h2 i hil q v (by rw [(hf i hil).1]; exact hv)
  · simp only [List.mem_map, List.mem_range] at hx
    obtain ⟨i, hi, rfl⟩ := hx
    exact (hf i hi).2
/-- A fall's cells, in a list of falls. -/
theorem fallI {w : World} {a : Option Addr} {L : List FallA} (h : Rd w a (fFA L)) {i : Nat} (hi : i < L.length) : ∃ b o, a = some ⟨b, o, none⟩ ∧ ∀ q, q < 4 → ∀ v, (L[i]).cs[q]? = some v → w.cell? ⟨b, o + i * 4 + q, none⟩ = some v := by
  have hg := fun q hq => flatV_get FallA.cs_len L i hi q hq
  obtain ⟨b, o, ha, hc⟩ := h (i * 4) (.int .i64 (L[i]).n) (by unfold fFA; exact hg 0 (by omega))
  refine ⟨b, o, ha, fun q hq v hv => ?_⟩
  obtain ⟨b', o', ha', hc'⟩ := h (i * 4 + q) v (by unfold fFA; rw [hg q hq]; exact hv)
  rw [ha] at ha'
  cases ha'
  rw [Nat.add_assoc]
  exact hc'
theorem fallCells {w : World} {b o i : Nat} {y : FallA} (fc : ∀ q, q < 4 → ∀ v, y.cs[q]? = some v → w.cell? ⟨b, o + i * 4 + q, none⟩ = some v) :
    w.cell? (Addr.add ⟨b, o, none⟩ (Int.toNat (i : Int) * 4)) = some (.int .i64 y.n) ∧ w.cell? (Addr.add (Addr.add ⟨b, o, none⟩ (Int.toNat (i : Int) * 4)) 1) = some (.slice y.la y.keep.length y.lc) ∧
    w.cell? (Addr.add (Addr.add ⟨b, o, none⟩ (Int.toNat (i : Int) * 4)) 2) = some (.int .i64 y.torn) ∧ w.cell? (Addr.add (Addr.add ⟨b, o, none⟩ (Int.toNat (i : Int) * 4)) 3) = some (.int .i64 y.off) ∧ True := by
  rw [Int.toNat_natCast, add_at]
  exact ⟨fc 0 (by omega) _ rfl, fc 1 (by omega) _ rfl, fc 2 (by omega) _ rfl, fc 3 (by omega) _ rfl, trivial⟩
theorem fallCellsL {w : World} {b o i : Nat} {y : FallA} (fc : ∀ q, q < 4 → ∀ v, y.cs[q]? = some v → w.cell? ⟨b, o + i * 4 + q, none⟩ = some v) :
    w.cell? (Addr.add (Addr.add ⟨b, o, none⟩ (Int.toNat (i : Int) * 4)) 1) = some (.slice y.la y.keep.length y.lc) ∧
    w.cell? (Addr.add (Addr.add (Addr.add ⟨b, o, none⟩ (Int.toNat (i : Int) * 4)) 1) 1) = some (.int .i64 y.torn) ∧ w.cell? (Addr.add (Addr.add (Addr.add ⟨b, o, none⟩ (Int.toNat (i : Int) * 4)) 1) 2) = some (.int .i64 y.off) ∧ True := by
  rw [Int.toNat_natCast, add_at]
  exact ⟨fc 1 (by omega) _ rfl, fc 2 (by omega) _ rfl, fc 3 (by omega) _ rfl, trivial⟩
/-- A loss that was handed in. -/
theorem FallA.Ok.ls {W w : World} {ow : Nat → Nat} {x : FallA} {t : Nat} (ht : 1 ≤ t) (h : x.Ok W) (o : Old W w ow) : Ls w ow t x.la x.keep :=
  ⟨(o.rdT h.rd).mono fun u hu => ⟨by omega, by omega, by omega⟩, h.lt, by have := h.ln; omega, h.nn⟩
theorem FallA.Ok.k {W : World} {x : FallA} (h : x.Ok W) : x.keep.length * 8 ≤ 140737488355328 := by have := h.ln; omega

/-! ### Lives -/
/-- Records in a slice. -/
structure RsOk (W : World) (a : Option Addr) (l : Nat) (L : List (RV × Mm)) : Prop where
  n : L.length = l
  rd : Rd W a (flatV cR L)
  ok : ∀ x ∈ L, RArg W x.1 x.2
instance : Inhabited RV := ⟨{}⟩
instance : Inhabited Mm := ⟨{}⟩
theorem recs_open {W : World} {a : Option Addr} {l c : Nat} (hw : ClW Try.prog W T_s_api_Record [.slice a l c]) : ∃ L, RsOk W a l L ∧ l ≤ 1000000000000 := by
  obtain ⟨css, h1, h2⟩ := hw.cells (e := T_api_Record) (s := 17) (by kernel_rfl) (by kernel_rfl) (by omega)
  have hln := hw.len (e := T_api_Record) (by kernel_rfl)
  have b1 : Try.prog.bytesOf T_api_Record = 168 := by kernel_rfl
  have hreach : reachBytes = 140737488351232 := by decide
  rw [b1, hreach] at hln
  obtain ⟨hl, _⟩ := hw.cl.cells (e := T_api_Record) (s := 17) (by kernel_rfl) (by kernel_rfl) (by omega)
  have each : ∀ i, i < l → ∃ x : RV × Mm, css i = cR x ∧ RArg W x.1 x.2 := fun i hi => by
    obtain ⟨r, m, he, hr⟩ := rec_open (h1 i hi)
    exact ⟨(r, m), he, hr⟩
  obtain ⟨f, hf⟩ := Deep.choose_lt (α := RV × Mm) (p := fun i x => css i = cR x ∧ RArg W x.1 x.2) each
  refine ⟨(List.range l).map f, ⟨by simp, rd_flat cR_len (by omega) fun i hi q v hv => ?_, fun x hx => ?_⟩, by omega⟩
  · have hil : i < l := by simpa using hi
    have e : ((List.range l).map f)[i] = f i := by simp
    rw [e] at hv
    exact h2 i hil q v (by rw [(hf i hil).1]; exact hv)
  · simp only [List.mem_map, List.mem_range] at hx
    obtain ⟨i, hi, rfl⟩ := hx
    exact (hf i hi).2
def iv (n : Int) : Value := .int .i64 n
structure IsOk (W : World) (a : Option Addr) (l : Nat) (L : List Int) : Prop where
  n : L.length = l
  rd : Rd W a (L.map iv)
theorem ints_open {W : World} {a : Option Addr} {l c : Nat} (hw : ClW Try.prog W T_s_int [.slice a l c]) : ∃ L, IsOk W a l L ∧ l ≤ 100000000000000 := by
  obtain ⟨css, h1, h2⟩ := hw.cells (e := T_int) (s := 1) (by kernel_rfl) (by kernel_rfl) (by omega)
  have hln := hw.len (e := T_int) (by kernel_rfl)
  have b1 : Try.prog.bytesOf T_int = 8 := by kernel_rfl
  have hreach : reachBytes = 140737488351232 := by decide
  rw [b1, hreach] at hln
  obtain ⟨hl, _⟩ := hw.cl.cells (e := T_int) (s := 1) (by kernel_rfl) (by kernel_rfl) (by omega)
  have each : ∀ i, i < l → ∃ x : Int, css i = [iv x] := fun i hi => by
    obtain ⟨n, hv, _⟩ := (h1 i hi).cl.int (k := .i64) (by kernel_rfl)
    exact ⟨n, hv⟩
  obtain ⟨f, hf⟩ := Deep.choose_lt (α := Int) (p := fun i x => css i = [iv x]) each
  refine ⟨(List.range l).map f, ⟨by simp, fun i v hv => ?_⟩, by omega⟩
  have hil : i < l := by have := (List.getElem?_eq_some_iff.1 hv).1; simpa using this
  have e : v = iv (f i) := by
    rw [List.getElem?_map, List.getElem?_map, List.getElem?_range hil] at hv
    exact (Option.some.inj hv).symm
  obtain ⟨b, o, ha, hc⟩ := h2 i hil 0 v (by rw [hf i hil, e]; rfl)
  refine ⟨b, o, ha, ?_⟩
  rw [Nat.mul_one, Nat.add_zero] at hc
  exact hc
/-- A life. -/
structure LifeA where
  cnt : Int
  ra : Option Addr
  rc : Nat
  R : List (RV × Mm)
  fa : Option Addr
  fc : Nat
  F : List Int
def LifeA.v (x : LifeA) : Array Value := #[.int .i64 x.cnt, .slice x.ra x.R.length x.rc, .slice x.fa x.F.length x.fc]
structure LifeA.Ok (W : World) (x : LifeA) : Prop where
  r : RsOk W x.ra x.R.length x.R
  f : IsOk W x.fa x.F.length x.F
  rb : x.R.length ≤ 1000000000000
  fb : x.F.length ≤ 100000000000000
theorem life_open' {W : World} {cs : List Value} (hw : ClW Try.prog W T_quotalaw06_Life cs) : ∃ x : LifeA, cs = x.v.toList ∧ x.Ok W := by
  have hl := hw.cl.slen (s := 3) (by kernel_rfl)
  have f0 := hw.cl.field 0 (e := T_int) (o := 0) (s := 1) (by kernel_rfl)
  have f1 := hw.field 1 (e := T_s_api_Record) (o := 1) (s := 1) (by kernel_rfl)
  have f2 := hw.field 2 (e := T_s_int) (o := 2) (s := 1) (by kernel_rfl)
  match cs, hl with
  | [x0, x1, x2], _ =>
    simp only [List.drop_zero, List.drop_succ_cons, List.take_succ_cons, List.take_zero] at f0 f1 f2
    obtain ⟨k, h0, w0⟩ := f0.int (k := .i64) (by kernel_rfl)
    obtain ⟨a1, l1, c1, e1⟩ := f1.cl.slc (e := T_api_Record) (by kernel_rfl)
    obtain ⟨a2, l2, c2, e2⟩ := f2.cl.slc (e := T_int) (by kernel_rfl)
    cases h0; cases e1; cases e2
    obtain ⟨L, hL, hb⟩ := recs_open f1
    obtain ⟨F, hF, hfb⟩ := ints_open f2
    have n1 := hL.n
    have n2 := hF.n
    subst n1 n2
    exact ⟨⟨k, a1, c1, L, a2, c2, F⟩, rfl, ⟨hL, hF, hb, hfb⟩⟩
theorem life_open {W : World} {v : Value} (h : ArgW Try.prog W T_quotalaw06_Life v) : ∃ x : LifeA, v = .agg x.v ∧ x.Ok W := by
  obtain ⟨cells, rfl, _⟩ := h.arg.struct (s := 3) (by kernel_rfl)
  have hw := h.clw
  obtain ⟨x, he, hp⟩ := life_open' (cs := cells.toList) hw
  refine ⟨x, ?_, hp⟩
  congr 1
  cases cells
  exact congrArg List.toArray he
end Go.Proofs.Ytkfdkcclojepnaa

/- Layer 6: the statements' size, opened, forces, prefix. Conditions: none. -/
set_option linter.unusedVariables false
set_option linter.unusedSimpArgs false
namespace Go.Proofs.Ytkfdkcclojepnaa
open Go Go.RowKit

/-- Records in a list of their own. -/
structure AX (w : World) (ow : Nat → Nat) (a : Option Addr) (c : Nat) (recs : List RV) (ms : List Mm) : Prop where
  ml : ms.length = recs.length
  rs : SlT w ow T_api_Record 17 a recs.length c (flatV cR (List.zip recs ms)) 60
  li : ∀ k (h : k < recs.length) (h' : k < ms.length), LiT w ow 61 ms[k] recs[k]
theorem AX.fr {T : Nat → Prop} {w w' : World} {ow ow' : Nat → Nat} {a : Option Addr} {c : Nat} {recs : List RV} {ms : List Mm} (h : AX w ow a c recs ms) (f : Fro T w ow w' ow') (h0 : T 60) (h1 : T 61) : AX w' ow' a c recs ms :=
  ⟨h.ml, h.rs.fr f h0, fun k h' h'' => (h.li k h' h'').fr f h1⟩
theorem rcCell {w : World} {a : Option Addr} {Z : List (RV × Mm)} (h : Rd w a (flatV cR Z)) {k : Nat} (hk : k < Z.length) {b o : Nat} (ha : a = some ⟨b, o, none⟩) : ∀ j v, (cR Z[k])[j]? = some v → w.cell? (Addr.add ((⟨b, o, none⟩ : Addr).add (k * 17)) j) = some v := fun j v hv => by
  have hj : j < 17 := (List.getElem?_eq_some_iff.1 hv).1
  have e := flatV_get cR_len Z k hk j hj
  obtain ⟨b', o', ha', hc⟩ := h (k * 17 + j) v (by rw [e]; exact hv)
  rw [ha] at ha'
  cases ha'
  rw [add_at, add_at, Nat.add_assoc]
  exact hc
theorem rcCell0 {w : World} {a : Option Addr} {Z : List (RV × Mm)} (h : Rd w a (flatV cR Z)) {k : Nat} (hk : k < Z.length) {b o : Nat} (ha : a = some ⟨b, o, none⟩) : ∀ v, (cR Z[k])[0]? = some v → w.cell? ((⟨b, o, none⟩ : Addr).add (k * 17)) = some v := fun v hv => by
  have := rcCell h hk ha 0 v hv
  rw [add_at, add_at] at this
  rw [add_at]
  exact this
theorem rcAddr {w : World} {a : Option Addr} {Z : List (RV × Mm)} (h : Rd w a (flatV cR Z)) {k : Nat} (hk : k < Z.length) : ∃ b o, a = some ⟨b, o, none⟩ := by
  have e := flatV_get cR_len Z k hk 0 (by omega)
  obtain ⟨b, o, ha, _⟩ := h (k * 17 + 0) (.int .i64 (Z[k]).1.lsn) (by rw [e]; rfl)
  exact ⟨b, o, ha⟩

section
variable {w : World} {ow : Nat → Nat} {t lb db : Nat} {g : Lg} {R : Ending → World → Prop}
set_option maxHeartbeats 2000000 in
theorem prefix_c {a : Option Addr} {c l : Nat} {recs : List RV} {ms : List Mm} {most : Int} (h : LG w ow t lb db g) (he : g.err = 0) (hA : AX w ow a c recs ms) (hl : recs.length = l) (h1 : g.recs.length ≤ recs.length) (h2 : (g.recs.length : Int) ≤ most) (hp : ∀ k (h : k < g.recs.length) (h' : k < recs.length), g.recs[k] = recs[k])
    (hK : ∀ w', Kp no w w' → R (.returned (.bool true)) w') : GoC Try.prog F_law06_prefix #[.pointer (some ⟨lb, 0, none⟩), .slice a l c, .int .i64 most] w R := by
  subst hl
  refine S_law06_prefix ?_
  unfold W_law06_prefix
  have hok := h.ok
  have okn := hok.n
  have okc := hok.c
  have ml := hA.ml
  refine last_c h ⟨_, rfl, cond_d (fun hh => by omega) (fun _ => cond_d (fun hh => by omega) (fun _ => ?_))⟩
  refine loopN (fun s w' => Kp no w w' ∧ ∃ k : Nat, k ≤ g.recs.length ∧ s.1 = ((k + 1 : Nat) : Int)) (fun s _ => g.recs.length + 1 - s.1.toNat) ⟨Kp.refl _ _, 0, Nat.zero_le _, rfl⟩ ?_
  rintro ⟨i0, u⟩ w1 ⟨k1, k, hk, hi0⟩ _
  dsimp only at hi0 ⊢
  subst hi0
  refine cond_d (fun hle => ?_) (fun _ => hK w1 k1)
  have hkl : k < g.recs.length := by omega
  have hkr : k < recs.length := by omega
  have X1 := h.kp0 k1
  have A1 := hA.fr (Fro.kp0 k1) trivial trivial
  have hg : getG g ((k + 1 : Nat) : Int) = (recs[k], 0) := by
    unfold getG
    rw [if_neg (by omega), if_neg (by omega), if_neg (by omega), Int.toNat_natCast, Nat.add_sub_cancel, List.getD_eq_getElem?_getD, List.getElem?_eq_getElem hkl]
    show (g.recs[k], 0) = _
    rw [hp k hkl hkr]
  refine lget_c X1 ⟨by omega, by omega⟩ fun m' w2 k2 o2 => ?_
  rw [hg] at o2 ⊢
  refine ⟨_, _, _, _, _, _, _, _, _, _, _, _, _, _, _, _, _, _, _, _, _, _, rfl, ?_⟩
  refine rec_cp recs[k] m' fun b1 w3 h3 => ?_
  have kd : Kp no w3 w3.drew := Kp.drew w3 1
  have k13 := (k2.trans0 h3.kp).trans0 kd
  have x4 := kd.blk h3.blk id
  have A4 := A1.fr (Fro.kp0 k13) trivial trivial
  have hz : k < (List.zip recs ms).length := by rw [List.length_zip]; omega
  have ez : (List.zip recs ms)[k] = (recs[k], ms[k]'(by omega)) := List.getElem_zip
  obtain ⟨b, o, ha⟩ := rcAddr A4.rs.sl.rd hz
  refine ⟨fun w' => Blk w' b1 (recs[k].ca m') T_api_Record ∧ Rd w' a (flatV cR (List.zip recs ms)), ⟨x4, A4.rs.sl.rd⟩, num_c ⟨_, rfl, ⟨x4, A4.rs.sl.rd⟩, cond_f rfl ?_⟩⟩
  refine ⟨_, _, _, _, _, _, _, _, _, _, _, _, _, _, _, _, _, _, _, _, _, fun w' hw => ⟨hw.1.at rfl rfl, hw.1.at rfl rfl, hw.1.at rfl rfl, hw.1.at rfl rfl, hw.1.at rfl rfl, hw.1.at rfl rfl, hw.1.at rfl rfl, hw.1.at rfl rfl, hw.1.at rfl rfl, hw.1.at rfl rfl, hw.1.at rfl rfl, hw.1.at rfl rfl, hw.1.at rfl rfl, hw.1.at rfl rfl, hw.1.at rfl rfl, hw.1.at rfl rfl, hw.1.at rfl rfl, trivial⟩, ?_⟩
  have e1 : IntKind.wrap .i64 (((k + 1 : Nat) : Int) - 1) = (k : Int) := by rw [wrap_i64 (by omega) (by omega)]; omega
  rw [e1]
  refine ⟨by omega, by omega, _, ha, ?_⟩
  simp only [Int.toNat_natCast]
  have c0 : ∀ w', Rd w' a (flatV cR (List.zip recs ms)) → ∀ v, (cR (recs[k], ms[k]'(by omega)))[0]? = some v → w'.cell? ((⟨b, o, none⟩ : Addr).add (k * 17)) = some v := fun w' hw v hv => rcCell0 hw hz ha v (by rw [ez]; exact hv)
  have cj : ∀ w', Rd w' a (flatV cR (List.zip recs ms)) → ∀ j v, (cR (recs[k], ms[k]'(by omega)))[j]? = some v → w'.cell? (Addr.add ((⟨b, o, none⟩ : Addr).add (k * 17)) j) = some v := fun w' hw j v hv => rcCell hw hz ha j v (by rw [ez]; exact hv)
  refine ⟨_, _, _, _, _, _, _, _, _, _, _, _, _, _, _, _, _, _, _, _, _, fun w' hw => ⟨c0 w' hw.2 _ rfl, cj w' hw.2 1 _ rfl, cj w' hw.2 2 _ rfl, cj w' hw.2 3 _ rfl, cj w' hw.2 4 _ rfl, cj w' hw.2 5 _ rfl, cj w' hw.2 6 _ rfl, cj w' hw.2 7 _ rfl, cj w' hw.2 8 _ rfl, cj w' hw.2 9 _ rfl, cj w' hw.2 10 _ rfl, cj w' hw.2 11 _ rfl, cj w' hw.2 12 _ rfl, cj w' hw.2 13 _ rfl, cj w' hw.2 14 _ rfl, cj w' hw.2 15 _ rfl, cj w' hw.2 16 _ rfl, trivial⟩, ?_⟩
  have hli := A4.li k hkr (by omega)
  have o4 := (o2.kp0 h3.kp).kp0 kd
  have lb1 := hli.lb
  have db1 := hli.db
  have ll1 := hli.ll
  have dl1 := hli.dl
  have oll : m'.ll = recs[k].live.length := o4.ll
  have odl : m'.dl = recs[k].dirty.length := o4.dl
  have li1 : LiIn w3.drew m' recs[k].live recs[k].dirty := ⟨o4.l.rd, oll.symm, by omega, o4.d.rd, odl.symm, by omega⟩
  refine rsame_c (r := recs[k]) (q := recs[k]) (m := m') (n := ms[k]'(by omega)) li1 hli.li fun w5 k5 => ⟨_, rfl, ⟨k5.blk x4 id, A4.rs.sl.rd.kp0 k5⟩, ?_⟩
  rw [decide_eq_true rfl]
  have wi : IntKind.wrap .i64 (((k + 1 : Nat) : Int) + 1) = ((k + 1 + 1 : Nat) : Int) := by rw [wrap_i64 (by omega) (by omega)]; omega
  rw [wi]
  refine cond_f rfl ⟨⟨(k1.trans0 k13).trans0 k5, k + 1, by omega, rfl⟩, ?_⟩
  show g.recs.length + 1 - (((k + 1 + 1 : Nat) : Int)).toNat < g.recs.length + 1 - (((k + 1 : Nat) : Int)).toNat
  simp only [Int.toNat_natCast]
  omega
end

/-- How many sectors a life's log has. -/
def LifeA.sz (x : LifeA) : Nat := (1 + x.cnt % 40).toNat
theorem LifeA.sz_in (x : LifeA) : (x.sz : Int) = 1 + x.cnt % 40 ∧ 1 ≤ x.sz ∧ x.sz ≤ 40 := by
  have := emod_in x.cnt (m := 40) (by omega)
  unfold LifeA.sz
  omega
section
variable {w : World} {R : Ending → World → Prop}
theorem lsize_c {x : LifeA} (h : ∀ w', Kp no w w' → R (.returned (.int .i64 (x.sz : Int))) w') : GoC Try.prog F_law06_Life_size #[.agg x.v] w R := by
  refine S_law06_Life_size ?_
  unfold W_law06_Life_size
  refine AlF.intro fun b1 w1 hb1e hb1 k1 _ => ⟨_, hb1.at rfl rfl, brought_c (by omega) (by omega) ⟨_, rfl, ?_⟩⟩
  have := x.sz_in
  rw [wrap_i64 (by omega) (by omega), ← this.1]
  exact h w1 k1
theorem forces_c {W : World} {x : LifeA} {n : Nat} (hx : x.Ok W) (k0 : Kp no W w) (hn : 1 ≤ n) (hn2 : n ≤ 1000) (h : ∀ (k : Nat) w', Kp no w w' → k ≤ n → R (.returned (.int .i64 (k : Int))) w') : GoC Try.prog F_law06_Life_forces #[.agg x.v, .int .i64 (n : Int)] w R := by
  refine S_law06_Life_forces ?_
  unfold W_law06_Life_forces
  refine AlF.intro fun b1 w1 hb1e hb1 k1 _ => ⟨_, _, _, hb1.at (add1 _ _) rfl, cond_d (fun hgt => h 0 w1 k1 (by omega)) (fun hle => ⟨_, _, _, hb1.at (add1 _ _) rfl, ?_⟩)⟩
  have e1 : IntKind.wrap .i64 ((n : Int) - 1) = ((n - 1 : Nat) : Int) := by rw [wrap_i64 (by omega) (by omega)]; omega
  rw [e1]
  have hnl : n - 1 < x.F.length := by omega
  refine rdI (i := n - 1) ((hx.f.rd.kp0 k0).kp0 k1) (v := iv x.F[n - 1]) (by simp [hnl]) rfl hnl fun b o ha hc => ⟨_, hc, brought_c (by omega) (by omega) ⟨_, rfl, cond_eq (fun _ => h n w1 k1 (Nat.le_refl _)) (fun _ => cond_eq (fun _ => h (n - 1) w1 k1 (by omega)) (fun _ => h 0 w1 k1 (by omega)))⟩⟩
theorem opened_c {ow : Nat → Nat} {t : Nat} {x : LifeA} (hK : ∀ db lb w' ow', DX w' ow' t db (Dv.new (x.sz + 3)) → LG w' ow' t lb db ⟨2, x.sz, [], 0, 0⟩ → Fro (To t) w ow w' ow' → R (.returned (.tuple #[.pointer (some ⟨db, 0, none⟩), .pointer (some ⟨lb, 0, none⟩)])) w') : GoC Try.prog F_law06_Life_opened #[.agg x.v] w R := by
  refine S_law06_Life_opened ?_
  unfold W_law06_Life_opened
  have hsz := x.sz_in
  refine Loc.al (Kp.refl _ w) fun b1 w1 h1 k1 g1 => ?_
  have h1 : Loc w w1 b1 x.v T_quotalaw06_Life := h1
  refine ⟨_, _, _, _, _, _, _, ⟨h1.at rfl rfl, h1.at (add1 _ _) rfl, h1.at (add1 _ _) rfl, trivial⟩, lsize_c (x := x) fun w2 k2 => ⟨_, rfl, ?_⟩⟩
  have e1 : IntKind.wrap .i64 (IntKind.wrap .i64 (2 + (x.sz : Int)) + 1) = ((x.sz + 3 : Nat) : Int) := by
    rw [wrap_i64 (x := 2 + (x.sz : Int)) (by omega) (by omega), wrap_i64 (by omega) (by omega)]
    omega
  rw [e1]
  have h2 := h1.kp' k2
  refine new_c (ow := ow) (n := x.sz + 3) (by omega) (by omega) t fun db w3 ow3 D3 k3 ag3 ge3 => ⟨_, _, rfl, cond_f rfl (num_c ⟨_, rfl, cond_f rfl ?_⟩)⟩
  have h3 := h2.kp' k3
  refine ⟨_, _, _, _, _, _, _, ⟨h3.at rfl rfl, h3.at (add1 _ _) rfl, h3.at (add1 _ _) rfl, trivial⟩, lsize_c (x := x) fun w4 k4 => ⟨_, rfl, ?_⟩⟩
  have D4 := D3.kp0 k4
  have F4 : Fro (To t) w ow w4 ow3 := ⟨((h2.kp.trans0 k3).trans0 k4).of_no, fun j hj _ => by rw [ag3 j (by have := h2.kp.size; omega)]⟩
  have eo : openR (Dv.new (x.sz + 3)) ((2 : Nat) : Int) ((x.sz : Nat) : Int) = ((0, 0), Dv.new (x.sz + 3), []) := open_zero (new_ok (by omega) (by omega)) rfl rfl (by rw [new_n]; omega) (by omega) (by omega) fun k hk => sect_new (by omega)
  have eo : openR (Dv.new (x.sz + 3)) 2 ((x.sz : Nat) : Int) = ((0, 0), Dv.new (x.sz + 3), []) := eo
  refine open_c (t := t) D4 (new_sm _ _) ⟨by omega, by omega⟩ ⟨by omega, by omega⟩ (fun hne => absurd (by rw [eo]) hne) fun _ lb w5 ow5 D5 L5 f5 _ => ⟨_, _, rfl, .inl ⟨rfl, cond_f rfl ?_⟩⟩
  rw [eo] at D5 L5
  have e2 : Int.toNat 2 = 2 := rfl
  rw [e2, Int.toNat_natCast] at L5
  exact hK db lb w5 ow5 D5 L5 (F4.trans f5)
end
end Go.Proofs.Ytkfdkcclojepnaa

/- The document's sector of a record. Conditions: none. -/
set_option linter.unusedVariables false
set_option linter.unusedSimpArgs false
namespace Go.Proofs.Ytkfdkcclojepnaa
open Go Go.RowKit

set_option maxRecDepth 100000 in
theorem lay3 (n m : Nat) : ((over ((List.replicate 512 (0 : UInt8)).set 0 108) 1 (leB8 4 n)).set 5 (UInt8.ofNat (m % 256))).set 6 (UInt8.ofNat (m / 256 % 256)) = (108 :: (leB8 4 n ++ leB8 2 m)) ++ List.replicate 505 0 := rfl
theorem rsector_c {w : World} {a : Option Addr} {n l c : Nat} {bs : List UInt8} {R : Ending → World → Prop} (hr : Rd w a (bvs bs)) (hl : bs.length = l) (hl2 : l ≤ 502) (h0 : a = none → l = 0) (hn : n < 4294967296)
    (h : ∀ b w', B8 w' b (secB n bs) → Kp no w w' → w.heap.size ≤ b → R (.returned (.slice (some ⟨b, 0, none⟩) 512 512)) w') : GoC Try.prog F_ref06_Sector #[.int .i64 (n : Int), .slice a l c] w R := by
  subst hl
  refine S_ref06_Sector ?_
  unfold W_ref06_Sector
  refine make_u8 (n := 512) (by omega) fun b w1 cur hb1 hcur k1 hbe => ⟨_, _, _, rfl, ?_⟩
  have x1 : B8 w1 b (List.replicate 512 0) := ⟨cur, hb1, hcur⟩
  have hge : w.heap.size ≤ b := by omega
  refine ⟨by decide, by decide, _, rfl, ?_⟩
  refine x1.st (i := 0) (x := 108) (by rw [List.length_replicate]; omega) rfl fun w2 x2 k2 => ?_
  have k02 := kp_blk k1 hge k2
  have l2 : ((List.replicate 512 (0 : UInt8)).set 0 108).length = 512 := by rw [List.length_set, List.length_replicate]
  have l8 := leB8_len 4 n
  refine loopN (fun s w' => ∃ k : Nat, k ≤ 4 ∧ s.1 = (k : Int) ∧ B8 w' b (over ((List.replicate 512 (0 : UInt8)).set 0 108) 1 ((leB8 4 n).take k)) ∧ Kp no w w') (fun s _ => 4 - s.1.toNat) ⟨0, by omega, rfl, by rw [List.take_zero, over_ovr, ovr_nil]; exact x2, k02⟩ ?_
  rintro ⟨k0, u⟩ w3 ⟨k, hk, hk0, x3, k03⟩ _
  dsimp only at hk0 ⊢
  subst hk0
  refine cond_d (fun hlt => ?_) (fun hge4 => ?_)
  · have hk4 : k < 4 := by omega
    have e1 : IntKind.wrap .u64 (IntKind.wrap .i64 (8 * (k : Int))) = ((8 * k : Nat) : Int) := by
      rw [wrap_i64 (by omega) (by omega), wrap_u64 (by omega) (by omega)]
      omega
    have e2 : IntKind.wrap .i64 (1 + (k : Int)) = ((1 + k : Nat) : Int) := by rw [wrap_i64 (by omega) (by omega)]; omega
    have e3 : IntKind.wrap .i64 ((k : Int) + 1) = ((k + 1 : Nat) : Int) := by rw [wrap_i64 (by omega) (by omega)]; omega
    rw [e1, e2, e3]
    refine ⟨by omega, by omega, by omega, _, rfl, ?_⟩
    have hval : (Value.int .u8 (IntKind.wrap .u8 (shrV .i64 (n : Int) ((8 * k : Nat) : Int)))) = bv (UInt8.ofNat (n / 256 ^ k % 256)) := by
      rw [shrV_nat (by simp only [IntKind.bits]; omega), u8_mod, pow256]
      exact bv_of (by omega)
    rw [hval]
    have htl : ((leB8 4 n).take k).length = k := by rw [List.length_take]; omega
    have hol : (over ((List.replicate 512 (0 : UInt8)).set 0 108) 1 ((leB8 4 n).take k)).length = 512 := by rw [over_len (by omega), l2]
    refine x3.st (i := 1 + k) (by rw [hol]; omega) (by rw [Int.toNat_natCast, add_at, Nat.zero_add]) fun w4 x4 k4 => ⟨⟨k + 1, by omega, rfl, ?_, kp_blk k03 hge k4⟩, by simp only [Int.toNat_natCast]; omega⟩
    have hk8 : (leB8 4 n)[k]? = some (UInt8.ofNat (n / 256 ^ k % 256)) := leB8_get 4 n k hk4
    have htk : (leB8 4 n).take (k + 1) = (leB8 4 n).take k ++ [UInt8.ofNat (n / 256 ^ k % 256)] := by
      rw [List.take_add_one, hk8]; rfl
    have hs := over_set (l := (List.replicate 512 (0 : UInt8)).set 0 108) (x := (leB8 4 n).take k) (i := 1) (c := UInt8.ofNat (n / 256 ^ k % 256)) (by omega)
    rw [htl] at hs
    rw [htk, ← hs]
    exact x4
  · have hke : k = 4 := by omega
    subst hke
    have x3 : B8 w3 b (over ((List.replicate 512 (0 : UInt8)).set 0 108) 1 (leB8 4 n)) := x3
    have l3 : (over ((List.replicate 512 (0 : UInt8)).set 0 108) 1 (leB8 4 n)).length = 512 := by rw [over_len (by omega), l2]
    refine ⟨by decide, by decide, _, rfl, ?_⟩
    have v5 : (Value.int .u8 (IntKind.wrap .u8 ((bs.length : Nat) : Int))) = bv (UInt8.ofNat (bs.length % 256)) := by
      rw [u8_mod]
      exact bv_of (by omega)
    rw [v5]
    refine x3.st (i := 5) (by omega) (by rw [add_at]; rfl) fun w5 x5 k5 => ⟨by decide, by decide, by decide, _, rfl, ?_⟩
    have v6 : (Value.int .u8 (IntKind.wrap .u8 (shrV .i64 ((bs.length : Nat) : Int) 8))) = bv (UInt8.ofNat (bs.length / 256 % 256)) := by
      have e8 : (8 : Int) = ((8 : Nat) : Int) := rfl
      rw [e8, shrV_nat (by simp only [IntKind.bits]; omega), u8_mod]
      exact bv_of (by omega)
    rw [v6]
    refine x5.st (i := 6) (by rw [List.length_set]; omega) (by rw [add_at]; rfl) fun w6 x6 k6 => ?_
    rw [lay3] at x6
    have x6 : B8 w6 b (secH n bs ++ List.replicate 505 0) := x6
    have k06 := kp_blk (kp_blk k03 hge k5) hge k6
    have l4 : (secH n bs ++ List.replicate 505 (0 : UInt8)).length = 512 := by rw [List.length_append, secH_len, List.length_replicate]
    have s4 := x6.sl
    rw [l4] at s4
    refine ⟨trivial, by show (0 : Int) ≤ 7 ∧ (7 : Int) ≤ ((512 : Nat) : Int); omega, ?_⟩
    refine copy_own (ow := fun _ => 0) (t := 0) (o := 7) (dl := 505) ⟨s4, fun _ _ => rfl⟩ (hr.kp0 k06) (fun hh => List.eq_nil_of_length_eq_zero (h0 hh)) (by omega) (by omega) fun w7 s7 k7 f7 => ⟨_, rfl, ?_⟩
    have l5 : (ovr (secH n bs ++ List.replicate 505 (0 : UInt8)) 7 bs).length = 512 := by rw [ovr_len (by omega), l4]
    have x7 : B8 w7 b (ovr (secH n bs ++ List.replicate 505 0) 7 bs) := B8.of (by rw [l5]; exact s7.sl)
    have k07 : Kp no w w7 := k06.trans k7 (fun _ _ h => h) fun j hj hh => by obtain ⟨_, he, rfl⟩ := hh; cases he; exact absurd hj (by show ¬ b < w.heap.size; omega)
    refine ⟨by decide, by decide, _, rfl, ?_⟩
    refine x7.st (i := 511) (x := 165) (by omega) (by rw [add_at]; rfl) fun w8 x8 k8 => ?_
    rw [lay2 n bs hl2] at x8
    exact h b w8 x8 (kp_blk k07 hge k8) hge
/-- Part of some bytes that are read. -/
theorem rd_part {w : World} {a : Option Addr} {c lo n : Nat} {bs : List UInt8} (h : Rd w a (bvs bs)) (hc : bs.length ≤ c) : Rd w (subA a c lo 1) (bvs ((bs.drop lo).take n)) := by
  have := (rd_drop (k := lo) h hc).take n
  rw [bvs_take] at this
  exact this
theorem rd_none {w : World} {a : Option Addr} {c lo n : Nat} {bs : List UInt8} (h : Rd w a (bvs bs)) (hb : 0 < bs.length) : subA a c lo 1 = none → n = 0 := fun hz => by
  exfalso
  obtain ⟨b, o, ha, _⟩ := h 0 _ (bvs_get hb)
  rw [ha] at hz
  unfold subA at hz
  split at hz <;> cases hz

end Go.Proofs.Ytkfdkcclojepnaa

/- LogReads: what stands in a sector. Conditions: none. -/
set_option linter.unusedVariables false
set_option linter.unusedSimpArgs false
namespace Go.Proofs.Ytkfdkcclojepnaa
open Go Go.RowKit Go.ChangeShapes Go.WideShapes

/-- A Put. -/
structure PutA where
  r : RV
  m : Mm
  off : Int
  none_ : Bool
  sp : Bool
  at_ : Int
  cut : Int
  to : UInt8
  raw : Bool
def PutA.cs (x : PutA) : List Value := (x.r.ca x.m).toList ++ [.int .i64 x.off, .bool x.none_, .bool x.sp, .int .i64 x.at_, .int .i64 x.cut, bv x.to, .bool x.raw]
theorem PutA.cs_len (x : PutA) : x.cs.length = 24 := rfl
instance : Inhabited PutA := ⟨⟨{}, {}, 0, false, false, 0, 0, 0, false⟩⟩
structure PutA.Ok (W : World) (x : PutA) : Prop where
  r : RArg W x.r x.m
  cut : i64 x.cut
theorem put_open' {W : World} {cs : List Value} (h : ClW Try.prog W T_quotalaw06_Put cs) : ∃ x : PutA, cs = x.cs ∧ x.Ok W := by
  have hl := h.cl.slen (s := 24) (by kernel_rfl)
  have f0 := h.field 0 (e := T_api_Record) (o := 0) (s := 17) (by kernel_rfl)
  have f1 := h.cl.field 1 (e := T_int) (o := 17) (s := 1) (by kernel_rfl)
  have f2 := h.cl.field 2 (e := T_bool) (o := 18) (s := 1) (by kernel_rfl)
  have f3 := h.cl.field 3 (e := T_bool) (o := 19) (s := 1) (by kernel_rfl)
  have f4 := h.cl.field 4 (e := T_int) (o := 20) (s := 1) (by kernel_rfl)
  have f5 := h.cl.field 5 (e := T_int) (o := 21) (s := 1) (by kernel_rfl)
  have f6 := h.cl.field 6 (e := T_uint8) (o := 22) (s := 1) (by kernel_rfl)
  have f7 := h.cl.field 7 (e := T_bool) (o := 23) (s := 1) (by kernel_rfl)
  obtain ⟨r, m, hr, hra⟩ := rec_open f0
  match cs, hl with
  | [x0, x1, x2, x3, x4, x5, x6, x7, x8, x9, x10, x11, x12, x13, x14, x15, x16, y1, y2, y3, y4, y5, y6, y7], _ =>
    simp only [List.drop_zero, List.drop_succ_cons, List.take_succ_cons, List.take_zero] at hr f1 f2 f3 f4 f5 f6 f7
    obtain ⟨n1, e1, w1⟩ := f1.int (k := .i64) (by kernel_rfl)
    obtain ⟨q2, e2⟩ := f2.bool (by kernel_rfl)
    obtain ⟨q3, e3⟩ := f3.bool (by kernel_rfl)
    obtain ⟨n4, e4, w4⟩ := f4.int (k := .i64) (by kernel_rfl)
    obtain ⟨n5, e5, w5⟩ := f5.int (k := .i64) (by kernel_rfl)
    obtain ⟨n6, e6, w6⟩ := f6.int (k := .u8) (by kernel_rfl)
    obtain ⟨q7, e7⟩ := f7.bool (by kernel_rfl)
    cases e1; cases e2; cases e3; cases e4; cases e5; cases e6; cases e7
    obtain ⟨to, rfl⟩ := u8_wf w6
    refine ⟨⟨r, m, n1, q2, q3, n4, n5, to, q7⟩, ?_, ⟨hra, i64_wf w5⟩⟩
    unfold PutA.cs
    dsimp only
    rw [← hr]
    rfl
structure PutsOk (W : World) (a : Option Addr) (l : Nat) (L : List PutA) : Prop where
  n : L.length = l
  rd : Rd W a (flatV PutA.cs L)
  ok : ∀ x ∈ L, x.Ok W
  b : l ≤ 1000000000000
theorem puts_open {W : World} {v : Value} (h : ArgW Try.prog W T_s_quotalaw06_Put v) : ∃ a l c L, v = .slice a l c ∧ PutsOk W a l L := by
  obtain ⟨a, l, c, rfl, hc⟩ := h.arg.slice (e := T_quotalaw06_Put) (by kernel_rfl)
  have hw : ClW Try.prog W T_s_quotalaw06_Put [.slice a l c] := h.clw
  obtain ⟨css, h1, h2⟩ := hw.cells (e := T_quotalaw06_Put) (s := 24) (by kernel_rfl) (by kernel_rfl) (by omega)
  have hln := hw.len (e := T_quotalaw06_Put) (by kernel_rfl)
  have b1 : Try.prog.bytesOf T_quotalaw06_Put = 208 := by kernel_rfl
  have hreach : reachBytes = 140737488351232 := by decide
  rw [b1, hreach] at hln
  obtain ⟨hl, _⟩ := hw.cl.cells (e := T_quotalaw06_Put) (s := 24) (by kernel_rfl) (by kernel_rfl) (by omega)
  have each : ∀ i, i < l → ∃ x : PutA, css i = x.cs ∧ x.Ok W := fun i hi => put_open' (h1 i hi)
  obtain ⟨f, hf⟩ := Deep.choose_lt (α := PutA) (p := fun i x => css i = x.cs ∧ x.Ok W) each
  refine ⟨a, l, c, (List.range l).map f, rfl, by simp, rd_flat PutA.cs_len (by omega) fun i hi q v hv => ?_, fun x hx => ?_, by omega⟩
  · have hil : i < l := by simpa using hi
    have e : ((List.range l).map f)[i] = f i := by simp
    rw [e] at hv
    exact h2 i hil q v (by rw [(hf i hil).1]; exact hv)
  · simp only [List.mem_map, List.mem_range] at hx
    obtain ⟨i, hi, rfl⟩ := hx
    exact (hf i hi).2
/-- Its cells, in a list. -/
theorem putCell {w : World} {a : Option Addr} {L : List PutA} (h : Rd w a (flatV PutA.cs L)) {k : Nat} (hk : k < L.length) {b o : Nat} (ha : a = some ⟨b, o, none⟩) : ∀ j v, (L[k]).cs[j]? = some v → w.cell? (Addr.add ((⟨b, o, none⟩ : Addr).add (k * 24)) j) = some v := fun j v hv => by
  have hj : j < 24 := (List.getElem?_eq_some_iff.1 hv).1
  have e := flatV_get PutA.cs_len L k hk j hj
  obtain ⟨b', o', ha', hc⟩ := h (k * 24 + j) v (by rw [e]; exact hv)
  rw [ha] at ha'
  cases ha'
  rw [add_at, add_at, Nat.add_assoc]
  exact hc
theorem putCell0 {w : World} {a : Option Addr} {L : List PutA} (h : Rd w a (flatV PutA.cs L)) {k : Nat} (hk : k < L.length) {b o : Nat} (ha : a = some ⟨b, o, none⟩) : ∀ v, (L[k]).cs[0]? = some v → w.cell? ((⟨b, o, none⟩ : Addr).add (k * 24)) = some v := fun v hv => by
  have := putCell h hk ha 0 v hv
  rw [add_at, add_at] at this
  rw [add_at]
  exact this
theorem putAddr {w : World} {a : Option Addr} {L : List PutA} (h : Rd w a (flatV PutA.cs L)) {k : Nat} (hk : k < L.length) : ∃ b o, a = some ⟨b, o, none⟩ := by
  have e := flatV_get PutA.cs_len L k hk 0 (by omega)
  obtain ⟨b, o, ha, _⟩ := h (k * 24 + 0) (.int .i64 (L[k]).r.lsn) (by rw [e]; rfl)
  exact ⟨b, o, ha⟩

set_option maxHeartbeats 4000000 in
set_option maxRecDepth 100000 in
theorem psector_c {W w : World} {x : PutA} {n : Nat} {R : Ending → World → Prop} (hx : x.Ok W) (k0 : Kp no W w) (h1 : 1 ≤ n) (h2 : n ≤ 1000)
    (h : ∀ b S w', B8 w' b S → S.length = 512 → Kp no w w' → w.heap.size ≤ b → R (.returned (.slice (some ⟨b, 0, none⟩) 512 512)) w') : GoC Try.prog F_law06_Put_sector #[.agg x.cs.toArray, .int .i64 (n : Int)] w R := by
  refine S_law06_Put_sector ?_
  unfold W_law06_Put_sector
  refine Loc.al (Kp.refl _ w) fun b1 w1 l1 k1 g1 => ?_
  have l1 : Loc w w1 b1 x.cs.toArray T_quotalaw06_Put := l1
  refine ⟨_, l1.at (add1 _ _) rfl, cond_b (fun _ => make_u8 (n := 512) (by omega) fun b w2 cur hb hcur k2 hbe => ⟨_, _, _, rfl, h b (List.replicate 512 0) w2 ⟨cur, hb, hcur⟩ List.length_replicate (k1.trans0 k2) (by have := k1.size; omega)⟩) (fun _ => ?_)⟩
  refine ⟨_, l1.at (add1 _ _) rfl, brought_c (by omega) (by omega) ⟨_, rfl, ?_⟩⟩
  have h3 := emod_in x.off (m := 3) (by omega)
  obtain ⟨d, hd⟩ := Int.eq_ofNat_of_zero_le h3.1
  rw [hd] at h3 ⊢
  have e1 : IntKind.wrap .i64 ((n : Int) + (d : Int)) = ((n + d : Nat) : Int) := by rw [wrap_i64 (by omega) (by omega)]; omega
  have e2 : IntKind.wrap .i64 (((n + d : Nat) : Int) + 5) = ((n + d + 5 : Nat) : Int) := by rw [wrap_i64 (by omega) (by omega)]; omega
  rw [e1, e2]
  refine ⟨fun s w' => w' = w1 ∧ ∃ M : Nat, s.1 = (M : Int) ∧ 1 ≤ M ∧ M ≤ 2000, ⟨_, l1.at (add1 _ _) rfl, cond_b (fun _ => ⟨rfl, n + d + 5, rfl, by omega, by omega⟩) (fun _ => ⟨rfl, n + d, rfl, by omega, by omega⟩)⟩, ?_⟩
  rintro ⟨M0, u⟩ w2 ⟨hw2, M, hM0, hM1, hM2⟩ _
  dsimp only at hM0 ⊢
  subst hw2 hM0
  refine ⟨_, _, _, _, _, _, _, _, _, _, _, _, _, _, _, _, _, _, _, _, _, ⟨l1.at rfl rfl, l1.at rfl rfl, l1.at rfl rfl, l1.at rfl rfl, l1.at rfl rfl, l1.at rfl rfl, l1.at rfl rfl, l1.at rfl rfl, l1.at rfl rfl, l1.at rfl rfl, l1.at rfl rfl, l1.at rfl rfl, l1.at rfl rfl, l1.at rfl rfl, l1.at rfl rfl, l1.at rfl rfl, l1.at rfl rfl, trivial⟩, ?_⟩
  refine made_c (r := x.r) (m := x.m) ((hx.r.kp0 k0).kp0 l1.kp) ⟨by omega, by omega⟩ fun q m' w3 k3 o3 qc q64 ql _ => ⟨_, _, _, _, _, _, _, _, _, _, _, _, _, _, _, _, _, _, _, _, _, rfl, ?_⟩
  obtain ⟨qs1, qs2⟩ := chk_short qc
  have qs1 : q.live.length ≤ 32 := qs1
  have qs2 : q.dirty.length ≤ 16 := qs2
  have oll := o3.ll
  have odl := o3.dl
  have qc0 : chkN q = 0 := by
    have := chk_lsn0 qc
    have e : ({ ({ q with lsn := (M : Int) } : RV) with lsn := 0 } : RV) = q := by
      show ({ q with lsn := 0 } : RV) = q
      rw [← ql]
    rw [e] at this
    exact this
  obtain ⟨en1, en2⟩ := enc_len qc0 q64
  have li3 : LiIn w3 m' q.live q.dirty := ⟨o3.l.rd, oll.symm, by omega, o3.d.rd, odl.symm, by omega⟩
  refine encode_c (r := q) (m := m') li3 q64 (fun hne => absurd qc0 hne) (fun _ a c w4 k4 hs4 fr4 => ⟨_, _, _, _, rfl, ?_⟩)
  refine rsector_c (n := n + d) hs4.rd rfl en2 (sl_some' hs4) (by omega) fun b w5 hb5 k5 ge5 => ⟨_, _, _, rfl, ?_⟩
  have k35 := (k3.trans0 k4).trans0 k5
  have l5 := l1.kp' k35
  have sl : (secB (n + d) (encB q)).length = 512 := secB_len (by omega)
  have gw : w.heap.size ≤ b := by have := l1.kp.size; have := k3.size; have := k4.size; omega
  have hne : b1 ≠ b := by have := l1.blk.lt; have := k3.size; have := k4.size; omega
  -- spoilt
  refine ⟨fun _ w' => ∃ S, B8 w' b S ∧ S.length = 512 ∧ Loc w w' b1 x.cs.toArray T_quotalaw06_Put, ⟨_, l5.at (add1 _ _) rfl, cond_b (fun _ => ?_) (fun _ => ⟨_, hb5, sl, l5⟩)⟩, ?_⟩
  · have kd : Kp no w5 w5.drew := Kp.drew w5 1
    have ld := l5.kp' kd
    have hbd : B8 w5.drew b (secB (n + d) (encB q)) := by
      obtain ⟨cur, hb, hc⟩ := hb5
      exact ⟨cur, kd.blk hb id, hc⟩
    refine ⟨fun w' => Blk w' b1 x.cs.toArray T_quotalaw06_Put, ld.blk, _, fun w' hw => hw.at (add1 _ _) rfl, _, fun w' hw => hw.at (add1 _ _) rfl, ?_⟩
    refine brought_c (by omega) (by omega) ⟨_, rfl, ld.blk, ?_⟩
    have h5 := emod_in x.at_ (m := 512) (by omega)
    obtain ⟨i, hi⟩ := Int.eq_ofNat_of_zero_le h5.1
    rw [hi] at h5 ⊢
    refine ⟨by omega, by omega, _, rfl, ?_⟩
    refine hbd.st (i := i) (x := x.to) (by omega) (by rw [Int.toNat_natCast, add_at, Nat.zero_add]) fun w6 hb6 k6 => ⟨_, hb6, by rw [List.length_set]; exact sl, ?_⟩
    exact ⟨k6.blk ld.blk (fun hh => hne hh), ld.nw, kp_blk ld.kp gw k6⟩
  rintro _ w6 ⟨S, hb6, sl6, l6⟩ _
  refine loopN (fun s w' => ∃ i S, s.1 = ((i : Nat) : Int) ∧ i ≤ 512 ∧ B8 w' b S ∧ S.length = 512 ∧ Loc w w' b1 x.cs.toArray T_quotalaw06_Put) (fun s _ => 512 - s.1.toNat) ⟨0, S, rfl, by omega, hb6, sl6, l6⟩ ?_
  rintro ⟨i0, u2⟩ w7 ⟨i, S, hi0, hi, hb7, sl7, l7⟩ _
  dsimp only at hi0 ⊢
  subst hi0
  refine ⟨_, l7.at (add1 _ _) rfl, cond_d (fun _ => cond_d (fun hlt => ?_) (fun _ => h b S w7 hb7 sl7 l7.kp gw)) (fun _ => h b S w7 hb7 sl7 l7.kp gw)⟩
  have e3 : IntKind.wrap .i64 (511 - (i : Int)) = ((511 - i : Nat) : Int) := by rw [wrap_i64 (by omega) (by omega)]; omega
  have e4 : IntKind.wrap .i64 ((i : Int) + 1) = ((i + 1 : Nat) : Int) := by rw [wrap_i64 (by omega) (by omega)]; omega
  rw [e3, e4]
  refine ⟨by omega, by omega, _, rfl, ?_⟩
  refine hb7.st (i := 511 - i) (x := 0) (by omega) (by rw [Int.toNat_natCast, add_at, Nat.zero_add]) fun w8 hb8 k8 => ⟨⟨i + 1, _, rfl, by omega, hb8, by rw [List.length_set]; exact sl7, ⟨k8.blk l7.blk (fun hh => hne hh), l7.nw, kp_blk l7.kp gw k8⟩⟩, ?_⟩
  show 512 - (((i + 1 : Nat) : Int)).toNat < 512 - ((i : Nat) : Int).toNat
  simp only [Int.toNat_natCast]
  omega
end Go.Proofs.Ytkfdkcclojepnaa

/- LogReads: the document's Bytes; is; plain: what an Open leaves of an image. Conditions: none. -/
set_option linter.unusedVariables false
set_option linter.unusedSimpArgs false
namespace Go.Proofs.Ytkfdkcclojepnaa
open Go Go.RowKit

theorem leN_step {bs : List UInt8} {i j s : Nat} (hj : j < s) (h : i + j < bs.length) : leN ((bs.drop (i + j)).take (s - j)) = (bs[i + j]).toNat + 256 * leN ((bs.drop (i + (j + 1))).take (s - (j + 1))) := by
  rw [List.drop_eq_getElem_cons h]
  obtain ⟨d, hd⟩ : ∃ d, s - j = d + 1 := ⟨s - j - 1, by omega⟩
  rw [hd, List.take_succ_cons, leN]
  congr 3
  congr 1
  omega
theorem rnumber_c {w : World} {a : Option Addr} {l c i s : Nat} {bs : List UInt8} {I S : Int} {R : Ending → World → Prop} (hr : Rd w a (bvs bs)) (hl : bs.length = l) (hl2 : l < 1000000) (hs : 1 ≤ s) (hs4 : s ≤ 4) (hi : i + s ≤ l) (hI : I = (i : Int)) (hS : S = (s : Int))
    (h : R (.returned (.int .i64 ((leN ((bs.drop i).take s) : Nat) : Int))) w) : GoC Try.prog F_ref06_number #[.slice a l c, .int .i64 I, .int .i64 S] w R := by
  subst hl hI hS
  refine S_ref06_number ?_
  unfold W_ref06_number
  refine loopN (fun st w' => w' = w ∧ ∃ j : Nat, j ≤ s ∧ st.2.1 = (j : Int) - 1 ∧ st.1 = ((leN ((bs.drop (i + j)).take (s - j)) : Nat) : Int)) (fun st _ => (st.2.1 + 1).toNat) ⟨rfl, s, Nat.le_refl _, by rw [wrap_i64 (by omega) (by omega)], by rw [Nat.sub_self]; rfl⟩ ?_
  rintro ⟨n0, j0, u⟩ w1 ⟨hw, j, hj, hj0, hn0⟩ _
  dsimp only at hj0 hn0 ⊢
  subst hw hj0 hn0
  refine cond_d (fun hge => ?_) (fun hlt => ?_)
  · obtain ⟨k, rfl⟩ : ∃ k, j = k + 1 := ⟨j - 1, by omega⟩
    have hks : k < s := by omega
    have hkl : i + k < bs.length := by omega
    have e0 : (((k + 1 : Nat) : Int) - 1) = (k : Int) := by omega
    rw [e0]
    have e1 : IntKind.wrap .i64 ((i : Int) + (k : Int)) = ((i + k : Nat) : Int) := by rw [wrap_i64 (by omega) (by omega)]; omega
    rw [e1]
    have hlt := leN_lt ((bs.drop (i + (k + 1))).take (s - (k + 1)))
    have h2 : 256 ^ ((bs.drop (i + (k + 1))).take (s - (k + 1))).length ≤ 256 ^ 4 := Nat.pow_le_pow_right (by omega) (by rw [List.length_take]; omega)
    have h3 : (256 : Nat) ^ 4 = 4294967296 := by decide
    have hx := u8_lt bs[i + k]
    refine rd_u8 hr hkl rfl hkl fun d hd => ⟨_, hd, ⟨rfl, k, by omega, ?_, ?_⟩, ?_⟩
    · rw [wrap_i64 (by omega) (by omega)]
    · rw [wrap_i64 (x := ((leN ((bs.drop (i + (k + 1))).take (s - (k + 1))) : Nat) : Int) * 256) (by omega) (by omega), wrap_i64 (x := ((bs[i + k]).toNat : Int)) (by omega) (by omega), wrap_i64 (by omega) (by omega), leN_step hks hkl]
      omega
    · rw [wrap_i64 (x := (k : Int) - 1) (by omega) (by omega)]
      omega
  · have hj0 : j = 0 := by omega
    subst hj0
    exact h
set_option maxRecDepth 100000 in
theorem rbytes_c {w : World} {a : Option Addr} {c n : Nat} {s : List UInt8} {R : Ending → World → Prop} (hr : Rd w a (bvs s)) (hl : s.length = 512) (hc : 512 ≤ c) (hn : n ≤ 100000)
    (hno : isSec s n = false → R (.returned (.tuple #[.slice none 0 0, .bool false])) w)
    (hyes : isSec s n = true → ∀ a' c' w', Sl w' T_uint8 1 a' (bytN s) c' (bvs (bytB s)) → Kp no w w' → Fresh w a' → R (.returned (.tuple #[.slice a' (bytN s) c', .bool true])) w') : GoC Try.prog F_ref06_Bytes #[.slice a 512 c, .int .i64 (n : Int)] w R := by
  refine S_ref06_Bytes ?_
  unfold W_ref06_Bytes
  have hbl : bytN s < 65536 := by
    have := leN_lt ((s.drop 5).take 2)
    have h2 : ((s.drop 5).take 2).length = 2 := by rw [List.length_take, List.length_drop]; omega
    rw [h2] at this
    unfold bytN
    omega
  refine cond_ne (fun hh => absurd rfl hh) (fun _ => ?_)
  refine rd_u8 hr (i := 0) (by omega) rfl (by omega) fun d2 hc2 => ⟨_, hc2, cond_ne (fun h1 => hno ?_) (fun h1 => ?_)⟩
  · unfold isSec
    rw [getD_of (by omega), decide_eq_false (by omega)]
    simp
  refine rd_u8 hr (i := 511) (by omega) rfl (by omega) fun d3 hc3 => ⟨_, hc3, cond_ne (fun h2 => hno ?_) (fun h2 => ?_)⟩
  · unfold isSec
    rw [getD_of (k := 511) (by omega), decide_eq_false (p := (s[511]).toNat = 165) (by omega)]
    simp
  refine rnumber_c hr hl (by omega) (by omega) (by omega) (by omega : 1 + 4 ≤ 512) rfl rfl ⟨_, rfl, cond_ne (fun h3 => hno ?_) (fun h3 => ?_)⟩
  · unfold isSec
    rw [decide_eq_false (p := leN ((s.drop 1).take 4) = n) (by omega)]
    simp
  refine rnumber_c hr hl (by omega) (by omega) (by omega) (by omega : 5 + 2 ≤ 512) rfl rfl ⟨_, rfl, ?_⟩
  have hbn : leN ((s.drop 5).take 2) = bytN s := rfl
  rw [hbn]
  refine cond_d (fun h4 => hno ?_) (fun h4 => cond_d (fun h5 => hno ?_) (fun h5 => ?_))
  · unfold isSec
    rw [decide_eq_false (p := 1 ≤ bytN s) (by omega)]
    simp
  · unfold isSec
    rw [decide_eq_false (p := bytN s ≤ 502) (by omega)]
    simp
  have hle : bytN s ≤ 502 := by omega
  have hw7 : IntKind.wrap .i64 (7 + (bytN s : Int)) = ((7 + bytN s : Nat) : Int) := by rw [wrap_i64 (by omega) (by omega)]; omega
  rw [hw7]
  have tl : (s.drop (7 + bytN s)).length = 505 - bytN s := by rw [List.length_drop]; omega
  refine loopN (fun st w' => w' = w ∧ ∃ j : Nat, j ≤ 504 - bytN s ∧ st.1 = ((7 + bytN s + j : Nat) : Int) ∧ zerosB ((s.drop (7 + bytN s)).take j) = true) (fun st _ => 511 - st.1.toNat) ⟨rfl, 0, Nat.zero_le _, rfl, rfl⟩ ?_
  rintro ⟨j0, u2⟩ w2 ⟨hw, j, hj, hj0, hz⟩ _
  dsimp only at hj0 ⊢
  subst hw hj0
  refine cond_d (fun hjl => ?_) (fun hjl => ?_)
  · have hj5 : j < 504 - bytN s := by omega
    have eg : (s.drop (7 + bytN s))[j]'(by omega) = s[7 + bytN s + j]'(by omega) := List.getElem_drop
    refine rd_u8 hr (i := 7 + bytN s + j) (by omega) rfl (by omega) fun d4 hc4 => ⟨_, hc4, cond_ne (fun hne => hno ?_) (fun he => ?_)⟩
    · have hzf : zerosB ((s.drop (7 + bytN s)).take (504 - bytN s)) = false := by
        unfold zerosB
        simp only [Bool.not_eq_false']
        rw [List.any_eq_true]
        refine ⟨(s.drop (7 + bytN s))[j]'(by omega), ?_, decide_eq_true (by rw [eg]; omega)⟩
        rw [List.mem_iff_getElem?]
        exact ⟨j, by rw [List.getElem?_take, if_pos hj5, List.getElem?_eq_getElem (by omega)]⟩
      unfold isSec
      rw [hzf]
      simp
    · have hwj : IntKind.wrap .i64 (((7 + bytN s + j : Nat) : Int) + 1) = ((7 + bytN s + (j + 1) : Nat) : Int) := by rw [wrap_i64 (by omega) (by omega)]; omega
      rw [hwj]
      refine ⟨⟨rfl, j + 1, by omega, rfl, ?_⟩, by simp only [Int.toNat_natCast]; omega⟩
      rw [take_snoc_get _ j (by omega)]
      unfold zerosB at hz ⊢
      rw [List.any_append]
      simp only [Bool.not_eq_true'] at hz ⊢
      rw [hz]
      have : ((s.drop (7 + bytN s))[j]'(by omega)).toNat = 0 := by rw [eg]; omega
      rw [List.any_cons, this]
      rfl
  have hje : j = 504 - bytN s := by omega
  subst hje
  have good : isSec s n = true := by
    unfold isSec
    rw [getD_of (by omega), getD_of (k := 511) (by omega), hz, decide_eq_true (p := (s[0]).toNat = 108) (by omega), decide_eq_true (p := (s[511]).toNat = 165) (by omega), decide_eq_true (p := leN ((s.drop 1).take 4) = n) (by omega), decide_eq_true (p := 1 ≤ bytN s) (by omega), decide_eq_true hle]
    rfl
  refine ⟨by show (0 : Int) ≤ ((7 + bytN s : Nat) : Int) ∧ ((7 + bytN s : Nat) : Int) ≤ ((c : Nat) : Int); omega, by show (0 : Int) ≤ 7 ∧ (7 : Int) ≤ (((Int.toNat ((7 + bytN s : Nat) : Int)) : Nat) : Int); omega, ?_⟩
  have e7 : Int.toNat 7 = 7 := rfl
  rw [e7, Int.toNat_natCast]
  have e77 : 7 + bytN s - 7 = bytN s := by omega
  rw [e77]
  have bl : (bytB s).length = bytN s := by unfold bytB; rw [List.length_take, List.length_drop]; omega
  have rd7 : Rd w2 (subA a c 7 1) (bvs (bytB s)) := rd_part hr (by omega)
  exact append_new er_u8 rd7 (by rw [bvs_len]; omega) (fun hz => by have := rd_none (n := 1) hr (by omega) hz; omega) bvs_one (by omega) (by omega) fun a' c' w' hs' k' hf' _ => ⟨_, _, _, rfl, hyes good a' c' w' hs' k' hf'⟩
/-- The statements' is, of the error that is told. -/
theorem is_c {w : World} {v : Value} {z z1 : ByteArray} {a a1 n : Int} {R : Ending → World → Prop} (ev : ErrV w v z a n) (hz : n ≠ 0 → z1 = z ∧ a1 = a) (h : ∀ w', Kp no w w' → R (.returned (.bool true)) w') : GoC Try.prog F_law06_is #[v, .agg #[.string z1, .int .i64 a1, .int .i64 n]] w R := by
  refine S_law06_is ?_
  unfold W_law06_is
  refine AlF.intro fun b1 w1 hb1e hb1 k1 _ => ⟨_, hb1.at (add1 _ _) rfl, ?_⟩
  rcases ev with ⟨h0, rfl⟩ | ⟨h0, b, rfl, hb⟩
  · subst h0
    exact cond_t rfl (.inl ⟨rfl, h w1 k1⟩)
  · obtain ⟨rfl, rfl⟩ := hz h0
    refine cond_eq (fun hh => absurd hh h0) (fun _ => .inr ⟨_, _, rfl, .inl ⟨rfl, _, rfl, cond_f rfl ?_⟩⟩)
    have hb' := k1.blk hb id
    refine NilF.intro rfl ⟨_, hb'.at rfl rfl, _, hb1.at rfl rfl, ?_⟩
    refine cond_f (by simp) (NilF.intro rfl ⟨_, hb'.at (add1 _ _) rfl, _, hb1.at (add1 _ _) rfl, fun k => cond_ne (fun hh => absurd rfl hh) (fun _ => ?_)⟩)
    have kd := Kp.drew w1 k
    have hb2 := kd.blk hb' id
    have hb12 := kd.blk hb1 id
    refine NilF.intro rfl ⟨_, hb2.at (add1 _ _) rfl, .inr ⟨_, _, rfl, .inl ⟨rfl, _, rfl, ?_⟩⟩⟩
    have kd2 := Kp.drew (w1.drewN k) 1
    have hb13 := kd2.blk hb12 id
    refine ⟨fun w' => Blk w' b1 #[.string z1, .int .i64 a1, .int .i64 n] T_quotaref06_Fault, hb13, _, fun w' hw => hw.at (add1 _ _) rfl, num_c ⟨_, rfl, hb13, ?_⟩⟩
    rw [show (n == n) = true by simp]
    exact h _ ((k1.trans0 kd).trans0 kd2)

/-! ### Plain -/
/-- Images whose sectors are the same. -/
theorem img_ext {a b : List UInt8} {n : Nat} (ha : a.length = n * 512) (hb : b.length = n * 512) (h : ∀ j, j < n → (a.drop (j * 512)).take 512 = (b.drop (j * 512)).take 512) : a = b := by
  apply List.ext_getElem?
  intro i
  by_cases hi : i < n * 512
  · have hj : i / 512 < n := by omega
    have e : i / 512 * 512 + i % 512 = i := by omega
    have hm : i % 512 < 512 := by omega
    have := congrArg (fun l => l[i % 512]?) (h (i / 512) hj)
    simp only [List.getElem?_take, if_pos hm, List.getElem?_drop, e] at this
    exact this
  · rw [List.getElem?_eq_none (by omega), List.getElem?_eq_none (by omega)]
theorem sect_ovr_z {img : List UInt8} {n a k j : Nat} (h : img.length = n * 512) (hk : a + k ≤ n) (hj : j < n) : ((ovr img (a * 512) (List.replicate (k * 512) 0)).drop (j * 512)).take 512 = if a ≤ j ∧ j < a + k then zer512 else (img.drop (j * 512)).take 512 := by
  have h1 : a * 512 + (List.replicate (k * 512) (0 : UInt8)).length ≤ img.length := by rw [List.length_replicate]; omega
  apply List.ext_getElem?
  intro r
  rw [List.getElem?_take]
  by_cases hr : r < 512
  · rw [if_pos hr, List.getElem?_drop, ovr_get h1, List.length_replicate]
    by_cases hc : a ≤ j ∧ j < a + k
    · rw [if_pos hc, if_pos (by omega), List.getElem?_replicate, if_pos (by omega)]
      unfold zer512
      rw [List.getElem?_replicate, if_pos hr]
    · rw [if_neg hc, if_neg (by omega), List.getElem?_take, if_pos hr, List.getElem?_drop]
  · rw [if_neg hr]
    split
    · unfold zer512
      rw [List.getElem?_replicate, if_neg hr]
    · rw [List.getElem?_take, if_neg hr]
/-- What an Open does on a disk that stands still and won't give up. -/
theorem open_reads {v : Dv} {f c : Nat} (hok : v.Ok) (hd : v.down = false) (hq : v.q = []) (hst : v.step = 0) (hr : f + c ≤ v.n) (hc : 1 ≤ c) :
    ((readS v f c).1 ≠ 0 → openR v (f : Int) (c : Int) = (((readS v f c).1, 60), v, [])) ∧
    ((readS v f c).1 = 0 → (openR v (f : Int) (c : Int)).1 = (0, 0) ∧ (openR v (f : Int) (c : Int)).2.2 = (readS v f c).2 ∧ (openR v (f : Int) (c : Int)).2.1.q = [] ∧ (openR v (f : Int) (c : Int)).2.1.n = v.n ∧
      ∀ j, j < v.n → (openR v (f : Int) (c : Int)).2.1.sect j = if f + (readS v f c).2.length ≤ j ∧ j < f + c then zer512 else v.sect j) := by
  rw [openR_nil hd hq hr hc]
  refine ⟨fun h => by unfold openS; rw [if_pos h], fun h => ?_⟩
  have rl := readS_len v f c
  have ls := secsOf_len v f c
  have s512 : ∀ j, j < v.n → (v.sect j).length = 512 := fun j hj => sect_len hok hj
  have dg : ∀ k (hk : k < ((secsOf v f c).drop (readS v f c).2.length).length), ((secsOf v f c).drop (readS v f c).2.length)[k] = v.sect (f + (readS v f c).2.length + k) := fun k hk => by
    rw [List.getElem_drop, secsOf_sect hd hq hr (by rw [List.length_drop] at hk; omega), Nat.add_assoc]
  have dl : ((secsOf v f c).drop (readS v f c).2.length).length = c - (readS v f c).2.length := by rw [List.length_drop, ls]
  obtain ⟨po, pm⟩ := wipP_one ((secsOf v f c).drop (readS v f c).2.length) ((f + (readS v f c).2.length : Nat) : Int)
  have wm := wipP_mem ((secsOf v f c).drop (readS v f c).2.length) ((f + (readS v f c).2.length : Nat) : Int)
  have hW : wipeS v f c = if wipP ((f + (readS v f c).2.length : Nat) : Int) ((secsOf v f c).drop (readS v f c).2.length) = [] then (0, v) else putP v (wipP ((f + (readS v f c).2.length : Nat) : Int) ((secsOf v f c).drop (readS v f c).2.length)) := by
    unfold wipeS
    rw [wipeL_0]
  generalize wipP ((f + (readS v f c).2.length : Nat) : Int) ((secsOf v f c).drop (readS v f c).2.length) = P at *
  generalize hL : (readS v f c).2.length = m at *
  have fin : (wipeS v f c).1 = 0 ∧ (wipeS v f c).2.q = [] ∧ (wipeS v f c).2.n = v.n ∧ ∀ j, j < v.n → (wipeS v f c).2.sect j = if f + m ≤ j ∧ j < f + c then zer512 else v.sect j := by
    by_cases hP : P = []
    · rw [hW, if_pos hP]
      refine ⟨rfl, hq, rfl, fun j hj => ?_⟩
      split
      · rename_i hj2
        rcases wm (j - (f + m)) (by omega) with h1 | h1
        · rw [dg] at h1
          have e : f + m + (j - (f + m)) = j := by omega
          rw [e] at h1
          exact zeros_eq h1 (s512 _ hj)
        · rw [hP] at h1
          cases h1
      · rfl
    · rw [hW, if_neg hP]
      have hp : Pok v.n P := fun p hp => by
        obtain ⟨a1, a2, a3⟩ := pm p hp
        rw [a3]
        exact ⟨by omega, by omega, List.length_replicate⟩
      obtain ⟨b1, b2, b3, b4⟩ := putP_sect hok hd hq hp po
      rcases b4 with ⟨c1, c2, c3, c4⟩ | ⟨c0, _⟩
      rotate_left
      · exact absurd hst c0
      refine ⟨c1, b2, b3, fun j hj => ?_⟩
      split
      · rename_i hj2
        have e : f + m + (j - (f + m)) = j := by omega
        by_cases hm : (((f + m : Nat) : Int) + ((j - (f + m) : Nat) : Int), zer512) ∈ P
        · exact (c4 j hj).1 _ hm (by dsimp only; omega)
        · have h1 : zerosB (v.sect j) = true := by
            rcases wm (j - (f + m)) (by omega) with h1 | h1
            · rw [dg, e] at h1
              exact h1
            · exact absurd h1 hm
          rw [(c4 j hj).2 fun p hp hh => ?_]
          · exact zeros_eq h1 (s512 _ hj)
          · obtain ⟨a1, a2, a3⟩ := pm p hp
            refine hm ?_
            have ep : p = (((f + m : Nat) : Int) + ((j - (f + m) : Nat) : Int), zer512) := Prod.ext (by dsimp only; omega) a3
            rw [← ep]
            exact hp
      · rename_i hj2
        exact (c4 j hj).2 fun p hp hh => by have := pm p hp; omega
  have e : openS v f c = ((0, 0), (wipeS v f c).2, (readS v f c).2) := by unfold openS; rw [if_neg (by omega), if_neg (by omega)]
  rw [e]
  exact ⟨rfl, rfl, fin.2.1, fin.2.2.1, fin.2.2.2⟩
end Go.Proofs.Ytkfdkcclojepnaa

/- LogReads' walk. Conditions: none. -/
set_option linter.unusedVariables false
set_option linter.unusedSimpArgs false
namespace Go.Proofs.Ytkfdkcclojepnaa
open Go Go.RowKit Go.ChangeShapes Go.WideShapes

theorem copy_l {w : World} {ow : Nat → Nat} {a sa : Option Addr} {l c o dl dc sc sl t : Nat} {img bs : List UInt8} (hsl : bs.length = sl) (h : SlT w ow T_uint8 1 a l c (bvs img) t) (hs : Rd w sa (bvs bs)) (hs0 : sa = none → bs = []) (hd : bs.length ≤ dl) (ho : o + dl ≤ l) {K : Value → World → Prop}
    (hK : ∀ w', SlT w' ow T_uint8 1 a l c (bvs (ovr img o bs)) t → Kp (Is a) w w' → Fro (fun u => u ≠ t) w ow w' ow → K (.int .i64 (bs.length : Int)) w') :
    RunF Try.prog (Builtin.copy_ #[T_s_uint8, T_s_uint8] T_int #[.slice (subA a c o 1) dl dc, .slice sa sl sc]) w K := by
  subst hsl
  exact copy_own h hs hs0 hd ho hK
theorem load_l {w : World} {ow : Nat → Nat} {R : Ending → World → Prop} {a : Option Addr} {l c n : Nat} {bs : List UInt8} (hsl : bs.length = l) (hr : Rd w a (bvs bs)) (hl : bs.length = n * 512) (h1 : 1 ≤ n) (h2 : n ≤ 8192) (t : Nat) (hK : ∀ b w' ow', DX w' ow' t b (Dv.load bs) → Kp no w w' → (∀ j, j < w.heap.size → ow' j = ow j) → w.heap.size ≤ b → R (.returned (.tuple #[.pointer (some ⟨b, 0, none⟩), .int .i64 0])) w') :
    GoC Try.prog F_sectors_Load #[.slice a l c] w R := by
  subst hsl
  exact load_c (ow := ow) hr hl h1 h2 t hK
theorem readR_nil (i : Nat) : readR [] i = (0, []) := rfl

set_option maxRecDepth 100000 in
set_option maxHeartbeats 8000000 in
theorem reads_law {W : World} {a1 : Option Addr} {l1 c1 : Nat} {P : List PutA} {R : Ending → World → Prop} (hP : PutsOk W a1 l1 P) (hK : ∀ w', Kp no W w' → R (.returned (.bool true)) w') : GoC Try.prog F_law06_LogReads #[.slice a1 l1 c1] W R := by
  refine S_law06_LogReads ?_
  unfold W_law06_LogReads
  have hn := hP.n
  have hb := hP.b
  refine awake_c fun w1 k1 => ⟨_, rfl, cond_f rfl ?_⟩
  obtain ⟨N, hN1, hN2, hNe⟩ : ∃ N : Nat, 1 ≤ N ∧ N ≤ 21 ∧ IntKind.wrap .i64 ((1 : Int) + (if (20 : Int) < ((l1 : Nat) : Int) then (20 : Int) else ((l1 : Nat) : Int))) = (N : Int) ∧ N = 1 + min l1 20 := by
    refine ⟨1 + min l1 20, by omega, by omega, ?_, rfl⟩
    split
    · rw [wrap_i64 (by omega) (by omega)]
      omega
    · rw [wrap_i64 (by omega) (by omega)]
      omega
  obtain ⟨hNe, hNm⟩ := hNe
  rw [hNe]
  have m0 : IntKind.wrap .i64 (IntKind.wrap .i64 (3 + (N : Int)) * 512) = (((N + 3) * 512 : Nat) : Int) := by
    rw [wrap_i64 (x := 3 + (N : Int)) (by omega) (by omega), wrap_i64 (by omega) (by omega)]; omega
  rw [m0]
  have o1 : Old W w1 fun _ => 0 := ⟨k1, fun _ _ => rfl⟩
  refine make_u8 (n := (N + 3) * 512) (by omega) fun bi w2 cur hbi hcur k2 hbie => ⟨_, _, _, rfl, ?_⟩
  have x2 : B8 w2 bi (List.replicate ((N + 3) * 512) 0) := ⟨cur, hbi, hcur⟩
  have f2 : Fro (fun _ => True) w1 (fun _ => 0) w2 (ext (fun _ => 0) w1.heap.size 66) := Fro.of_kp0 66 k2
  have o2 := o1.fr f2 trivial
  have s2 : SlT w2 (ext (fun _ => 0) w1.heap.size 66) T_uint8 1 (some ⟨bi, 0, none⟩) ((N + 3) * 512) ((N + 3) * 512) (bvs (List.replicate ((N + 3) * 512) 0)) 66 := by
    have := x2.sl
    rw [List.length_replicate] at this
    exact ⟨this, fun j hj => by obtain ⟨_, he, rfl⟩ := hj; cases he; exact ext_new (by show w1.heap.size ≤ bi; omega)⟩
  generalize ext (fun _ => 0) w1.heap.size 66 = ow2 at *
  have hil0 : (List.replicate ((N + 3) * 512) (0 : UInt8)).length = (N + 3) * 512 := List.length_replicate
  generalize List.replicate ((N + 3) * 512) (0 : UInt8) = img0 at *
  -- the sectors are laid
  refine ⟨fun _ w' => ∃ ow img, Old W w' ow ∧ img.length = (N + 3) * 512 ∧ SlT w' ow T_uint8 1 (some ⟨bi, 0, none⟩) ((N + 3) * 512) ((N + 3) * 512) (bvs img) 66, ?_, ?_⟩
  · refine loopN (fun s w' => ∃ i : Nat, i ≤ 20 ∧ i ≤ l1 ∧ s.1 = (i : Int) ∧ ∃ ow img, Old W w' ow ∧ img.length = (N + 3) * 512 ∧ SlT w' ow T_uint8 1 (some ⟨bi, 0, none⟩) ((N + 3) * 512) ((N + 3) * 512) (bvs img) 66) (fun s _ => 20 - s.1.toNat) ⟨0, by omega, by omega, rfl, ow2, img0, o2, hil0, s2⟩ ?_
    rintro ⟨i0, u⟩ w3 ⟨i, hi20, hil, hi0, ow3, img, o3, hl3, s3⟩ _
    dsimp only at hi0 ⊢
    subst hi0
    refine cond_d (fun hlt => cond_d (fun hlt2 => ?_) (fun _ => ⟨ow3, img, o3, hl3, s3⟩)) (fun _ => ⟨ow3, img, o3, hl3, s3⟩)
    have hiP : i < P.length := by omega
    have kd : Kp no w3 w3.drew := Kp.drew w3 1
    have fd : Fro (fun _ => True) w3 ow3 w3.drew ow3 := Fro.kp0 kd
    have od := o3.fr fd trivial
    have sd := s3.fr fd trivial
    have rdP := hP.rd.kp0 od.kp
    obtain ⟨b, o, ha⟩ := putAddr rdP hiP
    have m1 : IntKind.wrap .i64 (IntKind.wrap .i64 (2 + (i : Int)) * 512) = (((2 + i) * 512 : Nat) : Int) := by
      rw [wrap_i64 (x := 2 + (i : Int)) (by omega) (by omega), wrap_i64 (by omega) (by omega)]; omega
    have m2 : IntKind.wrap .i64 (IntKind.wrap .i64 (3 + (i : Int)) * 512) = (((3 + i) * 512 : Nat) : Int) := by
      rw [wrap_i64 (x := 3 + (i : Int)) (by omega) (by omega), wrap_i64 (by omega) (by omega)]; omega
    have m3 : IntKind.wrap .i64 ((i : Int) + 1) = ((i + 1 : Nat) : Int) := by rw [wrap_i64 (by omega) (by omega)]; omega
    rw [m1, m2, m3, Int.toNat_natCast, Int.toNat_natCast, Int.toNat_natCast]
    have e512 : (3 + i) * 512 - (2 + i) * 512 = 512 := by omega
    rw [e512]
    refine ⟨fun w' => Rd w' a1 (flatV PutA.cs P), rdP, ⟨by show (0 : Int) ≤ (((3 + i) * 512 : Nat) : Int) ∧ (((3 + i) * 512 : Nat) : Int) ≤ (((N + 3) * 512 : Nat) : Int); omega, by show (0 : Int) ≤ (((2 + i) * 512 : Nat) : Int) ∧ (((2 + i) * 512 : Nat) : Int) ≤ (((Int.toNat (((3 + i) * 512 : Nat) : Int)) : Nat) : Int); rw [Int.toNat_natCast]; omega, ?_⟩⟩
    refine ⟨by omega, by omega, _, ha, ?_⟩
    have c0 := fun w' (hw : Rd w' a1 (flatV PutA.cs P)) => putCell0 hw hiP ha
    have cj := fun w' (hw : Rd w' a1 (flatV PutA.cs P)) => putCell hw hiP ha
    refine ⟨_, _, _, _, _, _, _, _, _, _, _, _, _, _, _, _, _, _, _, _, _, _, _, _, _, _, _, _, fun w' hw => ⟨c0 w' hw _ rfl, cj w' hw 1 _ rfl, cj w' hw 2 _ rfl, cj w' hw 3 _ rfl, cj w' hw 4 _ rfl, cj w' hw 5 _ rfl, cj w' hw 6 _ rfl, cj w' hw 7 _ rfl, cj w' hw 8 _ rfl, cj w' hw 9 _ rfl, cj w' hw 10 _ rfl, cj w' hw 11 _ rfl, cj w' hw 12 _ rfl, cj w' hw 13 _ rfl, cj w' hw 14 _ rfl, cj w' hw 15 _ rfl, cj w' hw 16 _ rfl, cj w' hw 17 _ rfl, cj w' hw 18 _ rfl, cj w' hw 19 _ rfl, cj w' hw 20 _ rfl, cj w' hw 21 _ rfl, cj w' hw 22 _ rfl, cj w' hw 23 _ rfl, trivial⟩, ?_⟩
    refine psector_c (W := W) (x := P[i]) (n := i + 1) (hP.ok _ (List.getElem_mem hiP)) od.kp (by omega) (by omega) fun b5 S w4 hb5 sl5 k4 ge4 => ⟨_, _, _, rfl, rdP.kp0 k4, ?_⟩
    have f4 : Fro (fun _ => True) w3.drew ow3 w4 (ext ow3 w3.drew.heap.size 64) := Fro.of_kp0 64 k4
    have o4 := od.fr f4 trivial
    have s4 := sd.fr f4 trivial
    generalize ext ow3 w3.drew.heap.size 64 = ow4 at *
    refine copy_l sl5 s4 hb5.sl.rd (fun hh => by cases hh) (by omega) (by omega) fun w5 s5 k5 f5 => ⟨_, rfl, hP.rd.kp0 (o4.fr f5 (by omega)).kp, ⟨i + 1, by omega, by omega, rfl, ow4, _, o4.fr f5 (by omega), ?_, s5⟩, ?_⟩
    · rw [ovr_len (by omega), hl3]
    · show 20 - (((i + 1 : Nat) : Int)).toNat < 20 - ((i : Nat) : Int).toNat
      simp only [Int.toNat_natCast]
      omega
  rintro _ w3 ⟨ow3, img, o3, hl3, s3⟩ _
  clear s2 o2 hil0 x2 f2 k2
  -- what is wanted
  have nl : (Dv.load img).n = N + 3 := Dv.n_of hl3
  have lok : (Dv.load img).Ok := Dv.Ok.load hl3 (by omega) (by omega)
  have room : 2 + N ≤ (Dv.load img).n := by omega
  have lsl := secsOf_len (Dv.load img) 2 N
  have lsg := fun k (hk : k < (secsOf (Dv.load img) 2 N).length) => secsOf_sect (v := Dv.load img) rfl rfl room hk
  have Bl : (bytsOf (secsOf (Dv.load img) 2 N)).length = foundN (secsOf (Dv.load img) 2 N) 0 := by
    unfold bytsOf
    have := foundN_le (secsOf (Dv.load img) 2 N) 0
    rw [List.length_map, List.length_take]
    omega
  have hRS : readS (Dv.load img) 2 N = readR (bytsOf (secsOf (Dv.load img) 2 N)) 0 := rfl
  refine ⟨fun s w' => ∃ ow L ms, ∃ bad : Nat, Old W w' ow ∧ SlT w' ow T_uint8 1 (some ⟨bi, 0, none⟩) ((N + 3) * 512) ((N + 3) * 512) (bvs img) 66 ∧ AX w' ow s.1.1 s.1.2.2 L ms ∧ s.1.2.1 = L.length ∧ s.2.1 = (bad : Int) ∧ readS (Dv.load img) 2 N = (bad, L), ?_, ?_⟩
  · refine loopN (fun s w' => ∃ k bad : Nat, k ≤ N ∧ s.2.2.1 = ((k + 1 : Nat) : Int) ∧ s.2.1 = (bad : Int) ∧ ∃ ow L ms, Old W w' ow ∧ SlT w' ow T_uint8 1 (some ⟨bi, 0, none⟩) ((N + 3) * 512) ((N + 3) * 512) (bvs img) 66 ∧ AX w' ow s.1.1 s.1.2.2 L ms ∧ s.1.2.1 = L.length ∧
        ((bad = 0 ∧ foundN (secsOf (Dv.load img) 2 N) 0 = k + foundN ((secsOf (Dv.load img) 2 N).drop k) k ∧ L.length = k ∧ (readS (Dv.load img) 2 N).1 = (readR ((bytsOf (secsOf (Dv.load img) 2 N)).drop k) k).1 ∧ (readS (Dv.load img) 2 N).2 = L ++ (readR ((bytsOf (secsOf (Dv.load img) 2 N)).drop k) k).2) ∨ (bad ≠ 0 ∧ readS (Dv.load img) 2 N = (bad, L)))) (fun s _ => N + 1 - s.2.2.1.toNat)
      ⟨0, 0, by omega, rfl, rfl, ow3, [], [], o3, s3, ⟨rfl, slt_nil _ _ _ _ _, fun k h => absurd h (by simp)⟩, rfl, .inl ⟨rfl, by simp, rfl, by rw [hRS]; rfl, by rw [hRS]; rfl⟩⟩ ?_
    rintro ⟨⟨a, l, c⟩, bad0, i0, u⟩ w4 ⟨k, bad, hk, hi0, hbad0, ow4, L, ms, o4, s4, A4, hlL, hst⟩ _
    dsimp only at hi0 hbad0 A4 hlL ⊢
    subst hi0 hbad0 hlL
    -- the ends
    have stop : bad = 0 → foundN (secsOf (Dv.load img) 2 N) 0 ≤ k → readS (Dv.load img) 2 N = (bad, L) := fun hb0 hF => by
      rcases hst with ⟨_, _, _, q4, q5⟩ | ⟨hne, _⟩
      · have hd : (bytsOf (secsOf (Dv.load img) 2 N)).drop k = [] := List.drop_eq_nil_of_le (by omega)
        rw [hd, readR_nil] at q4 q5
        rw [List.append_nil] at q5
        exact Prod.ext (by rw [q4, hb0]) q5
      · exact absurd hb0 hne
    have done : ∀ w', Kp no w4 w' → readS (Dv.load img) 2 N = (bad, L) → ∃ ow L' ms', ∃ bad' : Nat, Old W w' ow ∧ SlT w' ow T_uint8 1 (some ⟨bi, 0, none⟩) ((N + 3) * 512) ((N + 3) * 512) (bvs img) 66 ∧ AX w' ow a c L' ms' ∧ L.length = L'.length ∧ (bad : Int) = (bad' : Int) ∧ readS (Dv.load img) 2 N = (bad', L') := fun w' k' he =>
      ⟨ow4, L, ms, bad, o4.fr (Fro.kp0 k') trivial, s4.fr (Fro.kp0 k') trivial, A4.fr (Fro.kp0 k') trivial trivial, rfl, rfl, he⟩
    have Fle := foundN_le (secsOf (Dv.load img) 2 N) 0
    refine cond_d (fun hle => cond_eq (fun hb0 => ?_) (fun hb0 => done w4 (Kp.refl _ _) ?_)) (fun hgt => done w4 (Kp.refl _ _) ?_)
    rotate_left
    · rcases hst with ⟨q1, _⟩ | ⟨_, he⟩
      · exact absurd (by omega) hb0
      · exact he
    · rcases hst with ⟨q1, _⟩ | ⟨_, he⟩
      · exact stop q1 (by omega)
      · exact he
    have hkN : k < N := by omega
    have hbz : bad = 0 := by omega
    rcases hst with ⟨_, q2, q3, q4, q5⟩ | ⟨hne, _⟩
    rotate_left
    · exact absurd hbz hne
    have hkS : k < (secsOf (Dv.load img) 2 N).length := by omega
    have m1 : IntKind.wrap .i64 (IntKind.wrap .i64 (1 + ((k + 1 : Nat) : Int)) * 512) = (((2 + k) * 512 : Nat) : Int) := by
      rw [wrap_i64 (x := 1 + ((k + 1 : Nat) : Int)) (by omega) (by omega), wrap_i64 (by omega) (by omega)]; omega
    have m2 : IntKind.wrap .i64 (IntKind.wrap .i64 (2 + ((k + 1 : Nat) : Int)) * 512) = (((3 + k) * 512 : Nat) : Int) := by
      rw [wrap_i64 (x := 2 + ((k + 1 : Nat) : Int)) (by omega) (by omega), wrap_i64 (by omega) (by omega)]; omega
    have m3 : IntKind.wrap .i64 (((k + 1 : Nat) : Int) + 1) = ((k + 1 + 1 : Nat) : Int) := by rw [wrap_i64 (by omega) (by omega)]; omega
    rw [m1, m2, m3, Int.toNat_natCast, Int.toNat_natCast]
    have e512 : (3 + k) * 512 - (2 + k) * 512 = 512 := by omega
    rw [e512]
    refine ⟨by show (0 : Int) ≤ (((3 + k) * 512 : Nat) : Int) ∧ (((3 + k) * 512 : Nat) : Int) ≤ (((N + 3) * 512 : Nat) : Int); omega, by show (0 : Int) ≤ (((2 + k) * 512 : Nat) : Int) ∧ (((2 + k) * 512 : Nat) : Int) ≤ (((Int.toNat (((3 + k) * 512 : Nat) : Int)) : Nat) : Int); rw [Int.toNat_natCast]; omega, ?_⟩
    have hsec : (secsOf (Dv.load img) 2 N)[k] = (img.drop ((2 + k) * 512)).take 512 := lsg k hkS
    have sl : ((img.drop ((2 + k) * 512)).take 512).length = 512 := by rw [List.length_take, List.length_drop]; omega
    have q2' := q2
    rw [foundN_drop _ hkS, hsec] at q2'
    refine rbytes_c (n := k + 1) (s := (img.drop ((2 + k) * 512)).take 512) (rd_part s4.sl.rd (by omega)) sl (by omega) (by omega) (fun hno => ⟨_, _, _, _, rfl, cond_t rfl (done w4 (Kp.refl _ _) (stop hbz (by rw [hno] at q2'; simp at q2'; omega)))⟩) (fun hyes a6 c6 w5 s5 k5 fr5 => ⟨_, _, _, _, rfl, cond_f rfl ?_⟩)
    rw [hyes, if_pos rfl] at q2'
    have hkB : k < (bytsOf (secsOf (Dv.load img) 2 N)).length := by omega
    have hBk : (bytsOf (secsOf (Dv.load img) 2 N))[k] = bytB ((img.drop ((2 + k) * 512)).take 512) := by
      have e : (bytsOf (secsOf (Dv.load img) 2 N))[k]? = some (bytB ((img.drop ((2 + k) * 512)).take 512)) := by
        unfold bytsOf
        rw [List.getElem?_map, List.getElem?_take, if_pos (by omega), List.getElem?_eq_getElem hkS, hsec]
        rfl
      rw [List.getElem?_eq_getElem hkB] at e
      exact Option.some.inj e
    have hdr : (bytsOf (secsOf (Dv.load img) 2 N)).drop k = bytB ((img.drop ((2 + k) * 512)).take 512) :: (bytsOf (secsOf (Dv.load img) 2 N)).drop (k + 1) := by rw [List.drop_eq_getElem_cons hkB, hBk]
    rw [hdr, readR] at q4 q5
    obtain ⟨sb1, sb2⟩ := isSec_n hyes
    have bl : (bytB ((img.drop ((2 + k) * 512)).take 512)).length = bytN ((img.drop ((2 + k) * 512)).take 512) := by unfold bytB; rw [List.length_take, List.length_drop]; omega
    generalize bytN ((img.drop ((2 + k) * 512)).take 512) = nb at *
    generalize bytB ((img.drop ((2 + k) * 512)).take 512) = B at *
    obtain ⟨sh1, sh2⟩ := dec_short B
    refine decode_c s5.rd bl (sl_some' s5) (by omega) fun m w6 ow6 k6 o6 l6 => ⟨_, _, _, _, _, _, _, _, _, _, _, _, _, _, _, _, _, _, _, _, _, _, rfl, ?_⟩
    have own6 := l6.own o6
    refine rec_cp (decB B).1 m fun b1 w7 h7 => ?_
    refine h7.st rfl (Nat.le_of_ble_eq_true rfl) fun w8 h8 k8 => ?_
    have h8 : Loc w6 w8 b1 ((recOf B k).ca m) T_api_Record := h8
    have z7 := h7.nw
    have own8 : OwnL w5 w8 (recOf B k) m := by
      have e := own6.kp0 h7.kp
      have nl' : ∀ j, j < w6.heap.size → j ≠ b1 := fun j hj hh => by omega
      exact ⟨e.l.kp k8 fun j hj hh => nl' j (own6.l.lt j hj) hh, e.d.kp k8 fun j hj hh => nl' j (own6.d.lt j hj) hh, e.ll, e.dl, e.fl, e.fd, e.ap⟩
    have k48 := (k5.trans0 k6).trans0 h8.kp
    have hll : m.ll = (decB B).1.live.length := own6.ll
    have hdl : m.dl = (decB B).1.dirty.length := own6.dl
    have lin8 : LiIn w8 m (recOf B k).live (recOf B k).dirty := ⟨own8.l.rd, hll.symm, by omega, own8.d.rd, hdl.symm, by omega⟩
    refine ⟨fun s w9 => Kp no w8 w9 ∧ s.1 = (recE B k : Int), num_c ⟨_, rfl, cond_eq (fun h0 => ?_) (fun h0 => ⟨Kp.refl _ _, ?_⟩)⟩, ?_⟩
    · refine rec_rd h8.blk (check_c (r := recOf B k) (m := m) lin8 fun w9 k9 => ⟨_, rfl, k9, ?_⟩)
      show ((chkN (recOf B k) : Nat) : Int) = _
      unfold recE
      rw [if_pos (by omega)]
    · show (((decB B).2 : Nat) : Int) = _
      unfold recE
      rw [if_neg (by omega)]
    rintro ⟨n0, u0⟩ w9 ⟨k89, hn0⟩ _
    dsimp only at hn0 ⊢
    subst hn0
    have k49 := k48.trans0 k89
    have dec : N + 1 - (((k + 1 + 1 : Nat) : Int)).toNat < N + 1 - (((k + 1 : Nat) : Int)).toNat := by simp only [Int.toNat_natCast]; omega
    refine num_c ⟨_, rfl, cond_ne (fun hne => ?_) (fun he => ?_)⟩
    · rw [if_pos (by omega)] at q4 q5
      rw [List.append_nil] at q5
      exact ⟨⟨k + 1, k + 1, by omega, rfl, rfl, ow4, L, ms, o4.fr (Fro.kp0 k49) trivial, s4.fr (Fro.kp0 k49) trivial, A4.fr (Fro.kp0 k49) trivial trivial, rfl, .inr ⟨by omega, Prod.ext q4 q5⟩⟩, dec⟩
    rw [if_neg (by omega)] at q4 q5
    dsimp only at q4 q5
    have f9 : Fro (fun _ => True) w4 ow4 w9 (ext ow4 w4.heap.size 61) := Fro.of_kp0 61 k49
    have own9 : OwnL w4 w9 (recOf B k) m := (own8.kp0 k89).from k5.size
    have q9 : LiT w9 (ext ow4 w4.heap.size 61) 61 m (recOf B k) := own9.lit 61 (by omega) (by omega)
    have o9 := o4.fr f9 trivial
    have s9 := s4.fr f9 trivial
    have A9 := A4.fr f9 trivial trivial
    have hb9 := k89.blk h8.blk id
    generalize ext ow4 w4.heap.size 61 = ow9 at *
    refine rec_rd hb9 (AlF.intro fun b2 w10 hb2e hb210 k10 _ => ?_)
    have f10 : Fro (fun _ => True) w9 ow9 w10 (ext ow9 w9.heap.size 64) := Fro.of_kp0 64 k10
    have o10 := o9.fr f10 trivial
    have s10 := s9.fr f10 trivial
    have A10 := A9.fr f10 trivial trivial
    have q10 := q9.fr f10 trivial
    generalize ext ow9 w9.heap.size 64 = ow10 at *
    have hb210 : Blk w10 b2 ((recOf B k).ca m) T_api_Record := hb210
    have aml := A10.ml
    refine app_c er_rec A10.rs (rd_cells hb210 (rfl : _ = cR (recOf B k, m))) (by rfl) (fun h => by cases h) (cR_one _) (by omega) (by omega) fun a' c' w12 hs12 k12 f12 => ⟨_, _, _, rfl, ?_⟩
    have q12 := q10.fr f12 (by omega)
    have li12 := fun k h' h'' => (A10.li k h' h'').fr f12 (by omega)
    have elen : (L ++ [recOf B k]).length = L.length + 1 := by simp
    refine ⟨⟨k + 1, bad, by omega, rfl, rfl, _, L ++ [recOf B k], ms ++ [m], o10.fr f12 (by omega), s10.fr f12 (by omega), ⟨?_, ?_, fun j hj1 hj2 => ?_⟩, elen.symm, .inl ⟨hbz, by omega, by rw [elen]; omega, q4, by rw [q5]; simp⟩⟩, dec⟩
    · rw [List.length_append, List.length_append, aml]
      rfl
    · rw [elen, List.zip_append aml.symm, flatV_app]
      have e : flatV cR (List.zip [recOf B k] [m]) = cR (recOf B k, m) := by simp [flatV]
      rw [e]
      exact hs12
    · by_cases hjl : j < L.length
      · have ea : (L ++ [recOf B k])[j] = L[j] := List.getElem_append_left hjl
        have eb : (ms ++ [m])[j] = ms[j]'(by omega) := List.getElem_append_left (by omega)
        rw [ea, eb]
        exact li12 j hjl _
      · have hje : j = L.length := by omega
        subst hje
        have ea : (L ++ [recOf B k])[L.length] = recOf B k := by simp
        have eb : (ms ++ [m])[L.length] = m := by simp [← aml]
        rw [ea, eb]
        exact q12
  rintro ⟨⟨a, l, c⟩, bad0, u⟩ w4 ⟨ow4, L, ms, bad, o4, s4, A4, hlL, hbad0, hrs⟩ _
  dsimp only at hlL hbad0 A4 ⊢
  subst hlL hbad0
  clear s3 o3
  -- loaded, and opened
  refine load_l (ow := ow4) (n := N + 3) hl3 s4.sl.rd hl3 (by omega) (by omega) 10 fun db w5 ow5 D5 k5 ag5 ge5 => ⟨_, _, rfl, cond_f rfl (num_c ⟨_, rfl, cond_f rfl ?_⟩)⟩
  have f5 : Fro (fun _ => True) w4 ow4 w5 ow5 := ⟨k5.of_no, fun j hj _ => ag5 j hj⟩
  have o5 := o4.fr f5 trivial
  have s5 := s4.fr f5 trivial
  have A5 := A4.fr f5 trivial trivial
  obtain ⟨orb, org⟩ := open_reads (v := Dv.load img) (f := 2) (c := N) lok rfl rfl rfl room hN1
  have e2 : ((2 : Nat) : Int) = 2 := rfl
  rw [e2, hrs] at orb org
  dsimp only at orb org
  have t2 : Int.toNat 2 = 2 := rfl
  have smL : (Dv.load img).Sm 600000 := ⟨by show 0 ≤ _; omega, by show 0 * 8 ≤ _; omega⟩
  have too : ∀ u, u = 0 ∨ 60 ≤ u → To 10 u := fun u hu => ⟨⟨by omega, by omega, by omega⟩, by omega, by omega, by omega⟩
  refine open_c (t := 10) D5 smL ⟨by omega, by omega⟩ ⟨by omega, by omega⟩ (fun hne e w6 ow6 D6 f6 ev ef => ⟨_, _, rfl, ?_⟩) (fun he lb w6 ow6 D6 L6 f6 _ => ⟨_, _, rfl, ?_⟩)
  · have hb : bad ≠ 0 := fun hb => hne (by rw [(org hb).1])
    have eo := orb hb
    rw [eo] at D6 ev
    have o6 := o5.fr f6 (too _ (by omega))
    have s6 := s5.fr f6 (too _ (by omega))
    refine cond_d (fun _ => cond_t rfl ?_) (fun hh => absurd (by omega) hh)
    refine is_c (z := zOp) ev (fun _ => ⟨rfl, rfl⟩) fun w7 k7 => ⟨_, rfl, cond_t rfl ?_⟩
    have D7 : DX w7 ow6 10 db (Dv.load img) := D6.kp0 k7
    refine calls_c D7 ⟨_, rfl, cond_t rfl ?_⟩
    refine image_c D7 fun ai ci w8 si k8 fi => ⟨_, _, _, rfl, ?_⟩
    have iz : ai = none → (Dv.load img).img.length = 0 := fun hh => sl_some' si hh
    refine same_c (b1 := img) (b2 := img) si.rd rfl iz ((s6.sl.rd.kp0 k7).kp0 k8) hl3 (fun hh => by cases hh) ⟨_, rfl, ?_⟩
    rw [decide_eq_true rfl]
    exact hK w8 ((o6.kp.trans0 k7).trans0 k8)
  · have hb : bad = 0 := Decidable.by_contra fun hb => by
      rw [orb hb] at he
      exact absurd he (by show ¬ (60 = 0); decide)
    obtain ⟨g1, g2, g3, g4, g5⟩ := org hb
    rw [g2, t2, Int.toNat_natCast] at L6
    have o6 := o5.fr f6 (too _ (by omega))
    have s6 := s5.fr f6 (too _ (by omega))
    have A6 := A5.fr f6 (too _ (by omega)) (too _ (by omega))
    have v6ok := D6.ok
    generalize (openR (Dv.load img) 2 (N : Int)).2.1 = v6 at *
    have Ln : L.length ≤ N := L6.ok.n
    refine cond_d (fun hh => by omega) (fun _ => ?_)
    refine ⟨fun _ w' => Kp no w6 w', .inl ⟨rfl, cond_f rfl (cond_f rfl ?_)⟩, ?_⟩
    · refine last_c L6 ⟨_, rfl, cond_ne (fun hh => absurd rfl hh) (fun _ => forced_c L6 ⟨_, rfl, cond_ne (fun hh => absurd rfl hh) (fun _ => ?_)⟩)⟩
      exact prefix_c L6 rfl A6 rfl (Nat.le_refl _) (Int.le_refl _) (fun k h1 h2 => rfl) fun w7 k7 => ⟨_, rfl, cond_f rfl k7⟩
    rintro _ w7 k7 _
    have f7 : Fro (fun _ => True) w6 ow6 w7 ow6 := Fro.kp0 k7
    have o7 := o6.fr f7 trivial
    have s7 := s6.fr f7 trivial
    have D7 := D6.fr f7 trivial trivial trivial trivial
    have kd : Kp no w7 w7.drew := Kp.drew w7 1
    have fd : Fro (fun _ => True) w7 ow6 w7.drew ow6 := Fro.kp0 kd
    have o8 := o7.fr fd trivial
    have s8 := s7.fr fd trivial
    have D8 := D7.fr fd trivial trivial trivial trivial
    have m1 : IntKind.wrap .i64 (IntKind.wrap .i64 (2 + ((L.length : Nat) : Int)) * 512) = (((2 + L.length) * 512 : Nat) : Int) := by
      rw [wrap_i64 (x := 2 + ((L.length : Nat) : Int)) (by omega) (by omega), wrap_i64 (by omega) (by omega)]; omega
    have m2 : IntKind.wrap .i64 (IntKind.wrap .i64 (2 + (N : Int)) * 512) = (((2 + N) * 512 : Nat) : Int) := by
      rw [wrap_i64 (x := 2 + (N : Int)) (by omega) (by omega), wrap_i64 (by omega) (by omega)]; omega
    have m3 : IntKind.wrap .i64 (IntKind.wrap .i64 ((N : Int) - ((L.length : Nat) : Int)) * 512) = (((N - L.length) * 512 : Nat) : Int) := by
      rw [wrap_i64 (x := (N : Int) - ((L.length : Nat) : Int)) (by omega) (by omega), wrap_i64 (by omega) (by omega)]; omega
    rw [m1, m2, m3, Int.toNat_natCast, Int.toNat_natCast]
    have e8 : (2 + N) * 512 - (2 + L.length) * 512 = (N - L.length) * 512 := by omega
    rw [e8]
    refine ⟨fun _ => True, trivial, ⟨by show (0 : Int) ≤ (((2 + N) * 512 : Nat) : Int) ∧ (((2 + N) * 512 : Nat) : Int) ≤ (((N + 3) * 512 : Nat) : Int); omega, by show (0 : Int) ≤ (((2 + L.length) * 512 : Nat) : Int) ∧ (((2 + L.length) * 512 : Nat) : Int) ≤ (((Int.toNat (((2 + N) * 512 : Nat) : Int)) : Nat) : Int); rw [Int.toNat_natCast]; omega, ?_⟩⟩
    refine make_u8 (n := (N - L.length) * 512) (by omega) fun bz w9 cur hbz hcur k9 hbze => ⟨_, _, _, rfl, trivial, ?_⟩
    have xz : B8 w9 bz (List.replicate ((N - L.length) * 512) 0) := ⟨cur, hbz, hcur⟩
    have f9 : Fro (fun _ => True) w7.drew ow6 w9 (ext ow6 w7.drew.heap.size 64) := Fro.of_kp0 64 k9
    have o9 := o8.fr f9 trivial
    have s9 := s8.fr f9 trivial
    have D9 := D8.fr f9 trivial trivial trivial trivial
    generalize ext ow6 w7.drew.heap.size 64 = ow9 at *
    refine copy_l (o := (2 + L.length) * 512) (dl := (N - L.length) * 512) List.length_replicate s9 xz.sl.rd (fun hh => by cases hh) (by rw [List.length_replicate]; omega) (by omega) fun w10 s10 k10 f10 => ⟨_, rfl, trivial, ?_⟩
    have o10 := o9.fr f10 (by omega)
    have D10 := D9.fr f10 (by omega) (by omega) (by omega) (by omega)
    refine image_c D10 fun ai ci w11 si k11 fi => ⟨_, _, _, rfl, ?_⟩
    have iz : ai = none → v6.img.length = 0 := fun hh => sl_some' si hh
    have v6l : v6.img.length = (N + 3) * 512 := by
      have := v6ok.len
      rw [g4, nl] at this
      exact this
    have ol : (ovr img ((2 + L.length) * 512) (List.replicate ((N - L.length) * 512) 0)).length = (N + 3) * 512 := by rw [ovr_len (by rw [List.length_replicate]; omega), hl3]
    have himg : v6.img = ovr img ((2 + L.length) * 512) (List.replicate ((N - L.length) * 512) 0) := by
      refine img_ext v6l ol fun j hj => ?_
      rw [sect_ovr_z hl3 (by omega) hj]
      have := g5 j (by rw [nl]; exact hj)
      unfold Dv.sect at this
      rw [this]
      have ec : (2 + L.length ≤ j ∧ j < 2 + N) ↔ (2 + L.length ≤ j ∧ j < 2 + L.length + (N - L.length)) := by omega
      simp only [ec]
      rfl
    refine same_c (b1 := v6.img) (b2 := ovr img ((2 + L.length) * 512) (List.replicate ((N - L.length) * 512) 0)) si.rd rfl iz (s10.sl.rd.kp0 k11) ol (fun hh => by cases hh) ⟨_, rfl, ?_⟩
    rw [decide_eq_true himg]
    refine cond_t rfl (cache_c (D10.kp0 k11) (by rw [g3]; exact Nat.zero_le _) fun ac cc X w12 ca hX => ⟨_, _, _, rfl, ?_⟩)
    rw [g3]
    exact hK w12 ((o10.kp.trans0 k11).trans0 ca.k)
theorem logReads_walk {W : World} {v0 : Value} (h0 : ArgW Try.prog W T_s_quotalaw06_Put v0) : GoC Try.prog F_law06_LogReads #[v0] W fun e W' => e = .returned (.bool true) ∧ Kp no W W' := by
  obtain ⟨a, l, c, L, rfl, hL⟩ := puts_open h0
  exact reads_law hL fun w' k => ⟨rfl, k⟩
end Go.Proofs.Ytkfdkcclojepnaa
