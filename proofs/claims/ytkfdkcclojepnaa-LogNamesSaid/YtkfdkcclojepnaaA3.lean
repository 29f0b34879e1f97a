/- Several texts as one. Conditions: none. -/
import Derived.Test.YtkfdkcclojepnaaA2
/- Layer 6, plain: what a Force, a crash and an Open leave in the sectors. Conditions: none. -/
set_option linter.unusedVariables false
set_option linter.unusedSimpArgs false
namespace Go.Proofs.Ytkfdkcclojepnaa
open Go Go.RowKit

/-- Writes and a sync. -/
def putP : Dv → List (Int × List UInt8) → Nat × Dv
  | v, [] => v.sync
  | v, p :: r => if (v.write p.1 p.2).1 ≠ 0 then v.write p.1 p.2 else putP (v.write p.1 p.2).2 r
theorem putL_P : ∀ (l : List (List UInt8)) (v : Dv) (i : Int), putL v i l = putP v (zipI i l)
  | [], v, i => rfl
  | b :: r, v, i => by
    rw [putL, zipI, putP]
    dsimp only
    rw [putL_P r]
def wipP : Int → List (List UInt8) → List (Int × List UInt8)
  | _, [] => []
  | i, s :: r => if zerosB s then wipP (i + 1) r else (i, zer512) :: wipP (i + 1) r
theorem wipeL_P : ∀ (l : List (List UInt8)) (v : Dv) (i : Int), wipeL v i l true = putP v (wipP i l)
  | [], v, i => rfl
  | s :: r, v, i => by
    rw [wipeL, wipP]
    split
    · exact wipeL_P r v (i + 1)
    · rw [putP]
      dsimp only
      rw [wipeL_P r]
theorem wipeL_0 : ∀ (l : List (List UInt8)) (v : Dv) (i : Int), wipeL v i l false = if wipP i l = [] then (0, v) else putP v (wipP i l)
  | [], v, i => rfl
  | s :: r, v, i => by
    rw [wipeL, wipP]
    split
    · exact wipeL_0 r v (i + 1)
    · rw [if_neg (c := (i, zer512) :: wipP (i + 1) r = []) (by simp), putP]
      dsimp only
      rw [wipeL_P r]
/-- Places and bytes that may be written. -/
def Pok (n : Nat) (P : List (Int × List UInt8)) : Prop := ∀ p ∈ P, 0 ≤ p.1 ∧ p.1 < (n : Int) ∧ p.2.length = 512
theorem wok {v : Dv} (hd : v.down = false) {p : Int × List UInt8} (hp : 0 ≤ p.1 ∧ p.1 < (v.n : Int) ∧ p.2.length = 512) : v.write p.1 p.2 = if v.step = 1 then (40, (v.bump.add p.1 p.2).fall v.keep v.torn v.off) else (0, v.bump.add p.1 p.2) := by
  unfold Dv.write
  rw [hd, if_neg (by simp), if_neg (fun hh => hh ⟨hp.1, hp.2.1⟩), if_neg (fun hh => hh hp.2.2)]
theorem putP_Ok : ∀ (P : List (Int × List UInt8)) {v : Dv}, v.Ok → (putP v P).2.Ok
  | [], v, h => h.sync
  | p :: r, v, h => by
    rw [putP]
    split
    · exact h.write _ _
    · exact putP_Ok r (h.write _ _)
theorem putP_up : ∀ (P : List (Int × List UInt8)) {v : Dv}, v.Ok → v.down = false → Pok v.n P → (v.step = 0 ∨ (P.length : Int) + 1 < v.step) →
    (putP v P).1 = 0 ∧ (putP v P).2.down = false ∧ (putP v P).2.q = [] ∧ (putP v P).2.img = syncL (v.q ++ P) v.img ∧ (v.step = 0 → (putP v P).2.step = 0) ∧ (0 ≤ v.calls → v.calls + P.length + 1 < 1000000000000 → (putP v P).2.calls = v.calls + (P.length + 1)) ∧ (putP v P).2.n = v.n
  | [], v, hok, hd, hp, hs => by
    have e : v.sync = (0, v.bump.synced) := by
      unfold Dv.sync
      rw [hd, if_neg (by simp), if_neg]
      have := hok.step
      simp only [List.length_nil] at hs
      omega
    have hn := sync_n hok
    rw [putP, e, List.append_nil]
    rw [e] at hn
    refine ⟨rfl, hd, rfl, rfl, ?_, ?_, hn⟩
    · intro h0
      show (if v.step = 0 then (0 : Int) else v.step - 1) = _
      rw [if_pos h0]
    · intro hc hc2
      show IntKind.wrap .i64 (v.calls + 1) = _
      simp only [List.length_nil] at hc2 ⊢
      rw [wrap_i64 (by omega) (by omega)]
      rfl
  | p :: r, v, hok, hd, hp, hs => by
    rw [List.length_cons] at hs
    have hp0 := hp p (by simp)
    have st := hok.step
    have e : v.write p.1 p.2 = (0, v.bump.add p.1 p.2) := by rw [wok hd hp0, if_neg (by omega)]
    have ok1 := hok.write p.1 p.2
    rw [e] at ok1
    have sE : (v.bump.add p.1 p.2).step = if v.step = 0 then 0 else v.step - 1 := rfl
    have ih := putP_up r (v := v.bump.add p.1 p.2) ok1 hd (fun x hx => hp x (by simp [hx])) (by rw [sE]; split <;> omega)
    rw [putP, e, if_neg (by simp)]
    refine ⟨ih.1, ih.2.1, ih.2.2.1, ?_, ?_, ?_, ih.2.2.2.2.2.2⟩
    · rw [ih.2.2.2.1]
      show syncL ((v.q ++ [(p.1, p.2)]) ++ _) v.img = _
      rw [List.append_assoc]
      rfl
    · intro h0
      exact ih.2.2.2.2.1 (by rw [sE, if_pos h0])
    · intro hc hc2
      rw [List.length_cons] at hc2
      have cE : (v.bump.add p.1 p.2).calls = v.calls + 1 := by
        show IntKind.wrap .i64 (v.calls + 1) = _
        rw [wrap_i64 (by omega) (by omega)]
      rw [ih.2.2.2.2.2.1 (by omega) (by omega), cE, List.length_cons]
      omega
theorem putP_fall : ∀ (P : List (Int × List UInt8)) {v : Dv}, v.Ok → v.down = false → Pok v.n P → (1 ≤ v.step ∧ v.step ≤ (P.length : Int) + 1) →
    (putP v P).1 = 40 ∧ (putP v P).2.down = true ∧ (putP v P).2.q = [] ∧ ∃ m, (putP v P).2.img = fallL v.keep v.torn v.off 0 (v.q ++ P.take m) v.img
  | [], v, hok, hd, hp, hs => by
    simp only [List.length_nil] at hs
    have e : v.sync = (40, v.bump.fall v.keep v.torn v.off) := by
      unfold Dv.sync
      rw [hd, if_neg (by simp), if_pos (by omega)]
    rw [putP, e]
    exact ⟨rfl, rfl, rfl, 0, by simp [Dv.fall, Dv.bump]⟩
  | p :: r, v, hok, hd, hp, hs => by
    rw [List.length_cons] at hs
    have hp0 := hp p (by simp)
    have st := hok.step
    by_cases h1 : v.step = 1
    · have e : v.write p.1 p.2 = (40, (v.bump.add p.1 p.2).fall v.keep v.torn v.off) := by rw [wok hd hp0, if_pos h1]
      rw [putP, e, if_pos (by simp)]
      exact ⟨rfl, rfl, rfl, 1, rfl⟩
    · have e : v.write p.1 p.2 = (0, v.bump.add p.1 p.2) := by rw [wok hd hp0, if_neg h1]
      have ok1 := hok.write p.1 p.2
      rw [e] at ok1
      have sE : (v.bump.add p.1 p.2).step = if v.step = 0 then 0 else v.step - 1 := rfl
      obtain ⟨i1, i2, i3, m, i6⟩ := putP_fall r (v := v.bump.add p.1 p.2) ok1 hd (fun x hx => hp x (by simp [hx])) (by rw [sE, if_neg (by omega)]; omega)
      rw [putP, e, if_neg (by simp)]
      refine ⟨i1, i2, i3, m + 1, ?_⟩
      rw [i6]
      show fallL v.keep v.torn v.off 0 ((v.q ++ [(p.1, p.2)]) ++ r.take m) v.img = _
      rw [List.take_succ_cons, List.append_assoc]
      rfl
/-- Places are named once. -/
def Pone (P : List (Int × List UInt8)) : Prop := P.Pairwise fun a b => a.1 ≠ b.1
theorem read_one {j : Int} : ∀ (P : List (Int × List UInt8)) (o : List UInt8), Pone P → (∀ p ∈ P, p.1 = j → readL j P o = p.2) ∧ ((∀ p ∈ P, p.1 ≠ j) → readL j P o = o)
  | [], o, _ => ⟨fun p hp => absurd hp (by simp), fun _ => rfl⟩
  | q :: r, o, h => by
    obtain ⟨h1, h2⟩ := List.pairwise_cons.1 h
    constructor
    · intro p hp hpj
      rw [readL]
      rcases List.mem_cons.1 hp with rfl | hp
      · rw [if_pos hpj]
        exact (read_one r _ h2).2 fun x hx => by rw [← hpj]; exact fun hh => h1 x hx hh.symm
      · exact (read_one r _ h2).1 p hp hpj
    · intro hn
      rw [readL, if_neg (hn q (by simp))]
      exact (read_one r _ h2).2 fun x hx => hn x (by simp [hx])
theorem fall_one {n j : Nat} (hj : j < n) (keep : List Nat) (torn off : Int) : ∀ (P : List (Int × List UInt8)) (k : Nat) (img : List UInt8), img.length = n * 512 → Pok n P → Pone P → ∀ p ∈ P, p.1 = (j : Int) →
    Mix p.2 ((img.drop (j * 512)).take 512) (((fallL keep torn off k P img).drop (j * 512)).take 512)
  | [], _, _, _, _, _, p, hp, _ => by cases hp
  | q :: r, k, img, h, hq, h1, p, hp, hpj => by
    obtain ⟨h1, h2⟩ := List.pairwise_cons.1 h1
    have hq0 := hq q (by simp)
    have step : ∀ img1, (∃ c, c ≤ 512 ∧ img1 = (if keptN keep k then ovr img (q.1.toNat * 512) q.2 else if (k : Int) = torn then ovr img (q.1.toNat * 512) (q.2.take (clampN off)) else img)) → img1.length = n * 512 := by
      rintro img1 ⟨_, _, rfl⟩
      split
      · exact lay_ln h (by omega) (by omega)
      · split
        · exact lay_ln h (by omega) (by rw [List.length_take]; omega)
        · exact h
    have l1 := step _ ⟨0, by omega, rfl⟩
    rw [fallL]
    rcases List.mem_cons.1 hp with rfl | hp
    · rw [sect_fall hj keep torn off r _ _ l1 (fun x hx => hq x (by simp [hx])) fun x hx => by rw [← hpj]; exact fun hh => h1 x hx hh.symm]
      have hjt : p.1.toNat = j := by omega
      rw [hjt]
      split
      · refine ⟨512, by omega, ?_⟩
        rw [sect_all h hj hq0.2.2, if_pos rfl, List.take_of_length_le (by omega), List.drop_eq_nil_of_le (by rw [List.length_take]; omega), List.append_nil]
      · split
        · refine ⟨clampN off, clamp_le off, ?_⟩
          have hl : (p.2.take (clampN off)).length = clampN off := by have := clamp_le off; rw [List.length_take]; omega
          rw [sect_ovr h hj (by have := clamp_le off; omega), if_pos rfl, hl]
        · exact ⟨0, by omega, by simp⟩
    · have ih := fall_one hj keep torn off r (k + 1) _ l1 (fun x hx => hq x (by simp [hx])) h2 p hp hpj
      have hne : q.1 ≠ (j : Int) := by rw [← hpj]; exact h1 p hp
      have e : ((if keptN keep k then ovr img (q.1.toNat * 512) q.2 else if (k : Int) = torn then ovr img (q.1.toNat * 512) (q.2.take (clampN off)) else img).drop (j * 512)).take 512 = (img.drop (j * 512)).take 512 := by
        split
        · rw [sect_all h (by omega) hq0.2.2, if_neg (by omega)]
        · split
          · rw [sect_ovr h (by omega) (by rw [List.length_take]; omega), if_neg (by omega)]
          · rfl
      rw [e] at ih
      exact ih
theorem zipI_one : ∀ (l : List (List UInt8)) (i : Int), Pone (zipI i l) ∧ ∀ p ∈ zipI i l, i ≤ p.1
  | [], i => ⟨.nil, fun p hp => by cases hp⟩
  | b :: r, i => by
    obtain ⟨h1, h2⟩ := zipI_one r (i + 1)
    refine ⟨List.pairwise_cons.2 ⟨fun x hx => ?_, h1⟩, fun p hp => ?_⟩
    · have := h2 x hx
      show i ≠ x.1
      omega
    · rcases List.mem_cons.1 hp with rfl | hp
      · exact Int.le_refl _
      · have := h2 p hp
        omega
theorem wipP_one : ∀ (l : List (List UInt8)) (i : Int), Pone (wipP i l) ∧ ∀ p ∈ wipP i l, i ≤ p.1 ∧ p.1 < i + l.length ∧ p.2 = zer512
  | [], i => ⟨.nil, fun p hp => by cases hp⟩
  | s :: r, i => by
    obtain ⟨h1, h2⟩ := wipP_one r (i + 1)
    rw [wipP, List.length_cons]
    split
    · exact ⟨h1, fun p hp => by have := h2 p hp; exact ⟨by omega, by omega, this.2.2⟩⟩
    · refine ⟨List.pairwise_cons.2 ⟨fun x hx => ?_, h1⟩, fun p hp => ?_⟩
      · have := h2 x hx
        show i ≠ x.1
        omega
      · rcases List.mem_cons.1 hp with rfl | hp
        · exact ⟨Int.le_refl _, by show i < _; omega, rfl⟩
        · have := h2 p hp
          exact ⟨by omega, by omega, this.2.2⟩
theorem Pone.take {P : List (Int × List UInt8)} (h : Pone P) (m : Nat) : Pone (P.take m) := List.Pairwise.sublist (List.take_sublist m P) h

/-- What writes and a sync leave, on a disk of which nothing is pending. -/
theorem putP_sect {v : Dv} {P : List (Int × List UInt8)} (hok : v.Ok) (hd : v.down = false) (hq : v.q = []) (hp : Pok v.n P) (h1 : Pone P) :
    (putP v P).2.Ok ∧ (putP v P).2.q = [] ∧ (putP v P).2.n = v.n ∧
    (((putP v P).1 = 0 ∧ (putP v P).2.down = false ∧ (v.step = 0 → (putP v P).2.step = 0) ∧ (∀ j, j < v.n → (∀ p ∈ P, p.1 = (j : Int) → (putP v P).2.sect j = p.2) ∧ ((∀ p ∈ P, p.1 ≠ (j : Int)) → (putP v P).2.sect j = v.sect j))) ∨
     (v.step ≠ 0 ∧ (putP v P).1 = 40 ∧ (putP v P).2.down = true ∧ (∀ j, j < v.n → ((∃ p ∈ P, p.1 = (j : Int) ∧ Mix p.2 (v.sect j) ((putP v P).2.sect j)) ∨ (putP v P).2.sect j = v.sect j)))) := by
  have ok' := putP_Ok P hok
  have st := hok.step
  by_cases hs : v.step = 0 ∨ (P.length : Int) + 1 < v.step
  · obtain ⟨a1, a2, a3, a4, a5, _, a6⟩ := putP_up P hok hd hp hs
    refine ⟨ok', a3, a6, .inl ⟨a1, a2, a5, fun j hj => ?_⟩⟩
    rw [hq, List.nil_append] at a4
    unfold Dv.sect
    rw [a4, sect_sync hj P v.img hok.len hp]
    exact read_one P _ h1
  · obtain ⟨a1, a2, a3, m, a4⟩ := putP_fall P hok hd hp (by omega)
    rw [hq, List.nil_append] at a4
    have hpt : Pok v.n (P.take m) := fun p hp' => hp p (List.mem_of_mem_take hp')
    have hn : (putP v P).2.n = v.n := by
      have := fallL_len v.keep v.torn v.off v.n (P.take m) 0 v.img hok.len hpt
      rw [← a4] at this
      exact Dv.n_of this
    refine ⟨ok', a3, hn, .inr ⟨by omega, a1, a2, fun j hj => ?_⟩⟩
    unfold Dv.sect
    rw [a4]
    by_cases hex : ∃ p ∈ P.take m, p.1 = (j : Int)
    · obtain ⟨p, hp1, hp2⟩ := hex
      exact .inl ⟨p, List.mem_of_mem_take hp1, hp2, fall_one hj _ _ _ (P.take m) 0 v.img hok.len hpt (h1.take m) p hp1 hp2⟩
    · exact .inr (sect_fall hj _ _ _ (P.take m) 0 v.img hok.len hpt fun p hp1 hp2 => hex ⟨p, hp1, hp2⟩)
end Go.Proofs.Ytkfdkcclojepnaa

/- Layer 6, plain: a log's sectors behind a Force, a crash, an Open. Conditions: none. -/
set_option linter.unusedVariables false
set_option linter.unusedSimpArgs false
namespace Go.Proofs.Ytkfdkcclojepnaa
open Go Go.RowKit

theorem zipI_mem' : ∀ (l : List (List UInt8)) (i : Int) (p : Int × List UInt8), p ∈ zipI i l ↔ ∃ k, ∃ h : k < l.length, p = (i + k, l[k])
  | [], i, p => by simp [zipI]
  | b :: r, i, p => by
    rw [zipI, List.mem_cons, zipI_mem' r (i + 1) p]
    constructor
    · rintro (rfl | ⟨k, h, rfl⟩)
      · exact ⟨0, by simp, by simp⟩
      · exact ⟨k + 1, by simp; omega, by simp; omega⟩
    · rintro ⟨k, h, rfl⟩
      cases k with
      | zero => exact .inl (by simp)
      | succ k => exact .inr ⟨k, by simpa using h, by simp; omega⟩
theorem secL_get : ∀ (L : List RV) (f k : Nat) (h : k < (secL f L).length) (h' : k < L.length), (secL f L)[k] = secB (f + k + 1) (encB L[k])
  | [], _, _, _, h' => absurd h' (by simp)
  | r :: l, f, 0, _, _ => rfl
  | r :: l, f, k + 1, h, h' => by
    have := secL_get l (f + 1) k (by rw [secL_len]; simpa using h') (by simpa using h')
    simp only [secL, List.getElem_cons_succ]
    rw [this]
    congr 1
    omega
theorem isSec_zer (n : Nat) : isSec zer512 n = false := isSec_last (by unfold zer512; rw [List.getD_eq_getElem?_getD, List.getElem?_replicate, if_pos (by omega)]; rfl)
theorem isSec_first {s : List UInt8} {n : Nat} (h : (s.getD 0 0).toNat = 0) : isSec s n = false := by
  unfold isSec
  rw [h]
  simp
theorem zeros_eq {s : List UInt8} (h : zerosB s = true) (hl : s.length = 512) : s = zer512 := by
  unfold zerosB at h
  simp only [Bool.not_eq_true'] at h
  rw [List.any_eq_false] at h
  unfold zer512
  rw [List.eq_replicate_iff]
  refine ⟨hl, fun x hx => ?_⟩
  have := h x hx
  simp only [decide_eq_true_eq, Decidable.not_not] at this
  exact UInt8.toNat_inj.1 (by simpa using this)
theorem zer_zeros : zerosB zer512 = true := by
  unfold zerosB zer512
  rw [replicate_any]
  rfl
/-- A log's sectors on a disk that stands still. -/
structure LogD (v : Dv) (g : Lg) : Prop where
  ok : v.Ok
  up : v.down = false
  q : v.q = []
  room : g.first + g.count ≤ v.n
  rc : ∀ k (h : k < g.recs.length), k < g.forced → v.sect (g.first + k) = secB (k + 1) (encB g.recs[k])
  z : ∀ k, g.forced ≤ k → k < g.count → v.sect (g.first + k) = zer512
/-- The first so many records lie there, and the next does not. -/
structure Cr (v : Dv) (f c : Nat) (recs : List RV) (m : Nat) : Prop where
  ok : v.Ok
  q : v.q = []
  room : f + c ≤ v.n
  mc : m ≤ c
  mr : m ≤ recs.length
  rc : ∀ k (h : k < recs.length), k < m → v.sect (f + k) = secB (k + 1) (encB recs[k])
  st : m < c → isSec (v.sect (f + m)) (m + 1) = false
def RecsOk (recs : List RV) : Prop := ∀ k (h : k < recs.length), chkN recs[k] = 0 ∧ (recs[k]).w64 ∧ (recs[k]).lsn = ((k + 1 : Nat) : Int)
theorem upto (P : Nat → Prop) (a : Nat) : ∀ d, ∃ m, a ≤ m ∧ m ≤ a + d ∧ (∀ k, a ≤ k → k < m → P k) ∧ (m < a + d → ¬ P m)
  | 0 => ⟨a, Nat.le_refl _, Nat.le_refl _, fun k h1 h2 => by omega, fun h => by omega⟩
  | d + 1 => by
    obtain ⟨m, h1, h2, h3, h4⟩ := upto P a d
    by_cases hm : m < a + d
    · exact ⟨m, h1, by omega, h3, fun _ => h4 hm⟩
    · have hme : m = a + d := by omega
      by_cases hp : P m
      · refine ⟨m + 1, by omega, by omega, fun k hk1 hk2 => ?_, fun h => by omega⟩
        by_cases hkm : k < m
        · exact h3 k hk1 hkm
        · have : k = m := by omega
          rw [this]
          exact hp
      · exact ⟨m, h1, by omega, h3, fun _ => hp⟩
theorem frcP_law {v : Dv} {g : Lg} (hg : g.Ok) (h : LogD v g) {n : Nat} (h1 : g.forced < n) (h2 : n ≤ g.recs.length) :
    ((frcP v g n).1 = 0 ∧ LogD (frcP v g n).2 { g with forced := n } ∧ (v.step = 0 → (frcP v g n).2.step = 0) ∧ (frcP v g n).2.n = v.n) ∨
    (v.step ≠ 0 ∧ (frcP v g n).1 = 40 ∧ (frcP v g n).2.down = true ∧ (frcP v g n).2.n = v.n ∧ ∃ m, g.forced ≤ m ∧ m ≤ n ∧ Cr (frcP v g n).2 g.first g.count g.recs m) := by
  have gf := hg.f
  have gn := hg.n
  have room := h.room
  have Ll : ((g.recs.drop g.forced).take (n - g.forced)).length = n - g.forced := by rw [List.length_take, List.length_drop]; omega
  have Sl : (frcL g n).length = n - g.forced := by unfold frcL; rw [secL_len, Ll]
  have Sg : ∀ k (hk : k < (frcL g n).length) (hk2 : g.forced + k < g.recs.length), (frcL g n)[k] = secB (g.forced + k + 1) (encB g.recs[g.forced + k]) := fun k hk hk2 => by
    have := secL_get ((g.recs.drop g.forced).take (n - g.forced)) g.forced k hk (by rw [Ll]; omega)
    have e : ((g.recs.drop g.forced).take (n - g.forced))[k]'(by rw [Ll]; omega) = g.recs[g.forced + k] := by rw [List.getElem_take, List.getElem_drop]
    rw [e] at this
    exact this
  have el : ∀ k (hk : k < g.recs.length), (encB g.recs[k]).length ≤ 502 := fun k hk => (enc_len (hg.r k hk).1 (hg.r k hk).2.1).2
  have mem : ∀ p, p ∈ zipI ((g.first + g.forced : Nat) : Int) (frcL g n) ↔ ∃ k, ∃ hk : g.forced + k < g.recs.length, g.forced + k < n ∧ p = (((g.first + g.forced + k : Nat) : Int), secB (g.forced + k + 1) (encB g.recs[g.forced + k])) := fun p => by
    rw [zipI_mem']
    constructor
    · rintro ⟨k, hk, rfl⟩
      refine ⟨k, by omega, by omega, ?_⟩
      rw [Sg k hk (by omega)]
      congr 1
    · rintro ⟨k, hk, hk2, rfl⟩
      refine ⟨k, by omega, ?_⟩
      rw [Sg k (by omega) hk]
      congr 1
  have hp : Pok v.n (zipI ((g.first + g.forced : Nat) : Int) (frcL g n)) := fun p hp => by
    obtain ⟨k, hk, hk2, rfl⟩ := (mem p).1 hp
    refine ⟨by dsimp only; omega, by dsimp only; omega, ?_⟩
    have := el _ hk
    exact secB_len (by omega)
  obtain ⟨b1, b2, b3, b4⟩ := putP_sect h.ok h.up h.q hp (zipI_one _ _).1
  rw [← putL_P] at b1 b2 b3 b4
  have hfp : putL v ((g.first + g.forced : Nat) : Int) (frcL g n) = frcP v g n := rfl
  rw [hfp] at b1 b2 b3 b4
  rcases b4 with ⟨c1, c2, c3, c4⟩ | ⟨c0, c1, c2, c4⟩
  · refine .inl ⟨c1, ⟨b1, c2, b2, by rw [b3]; exact room, fun k hk hkn => ?_, fun k hk1 hk2 => ?_⟩, c3, b3⟩
    · show (frcP v g n).2.sect (g.first + k) = secB (k + 1) (encB g.recs[k])
      have hk' : k < g.recs.length := hk
      have hkn' : k < n := hkn
      by_cases hkf : k < g.forced
      · rw [(c4 (g.first + k) (by omega)).2 fun p hp => ?_]
        · exact h.rc k hk' hkf
        · obtain ⟨j, hj, hj2, rfl⟩ := (mem p).1 hp
          dsimp only
          omega
      · have := (c4 (g.first + k) (by omega)).1 (((g.first + g.forced + (k - g.forced) : Nat) : Int), secB (g.forced + (k - g.forced) + 1) (encB (g.recs[g.forced + (k - g.forced)]'(by omega)))) ((mem _).2 ⟨k - g.forced, by omega, by omega, rfl⟩) (by dsimp only; omega)
        rw [this]
        have ek : g.forced + (k - g.forced) = k := by omega
        dsimp only
        simp only [ek]
    · show (frcP v g n).2.sect (g.first + k) = zer512
      have hk1' : n ≤ k := hk1
      have hk2' : k < g.count := hk2
      rw [(c4 (g.first + k) (by omega)).2 fun p hp => ?_]
      · exact h.z k (by omega) hk2'
      · obtain ⟨j, hj, hj2, rfl⟩ := (mem p).1 hp
        dsimp only
        omega
  · have sec : ∀ k, g.forced ≤ k → ∀ hk : k < g.recs.length, k < n → (frcP v g n).2.sect (g.first + k) = secB (k + 1) (encB g.recs[k]) ∨ isSec ((frcP v g n).2.sect (g.first + k)) (k + 1) = false := fun k hkf hk hkn => by
      have hz := h.z k hkf (by omega)
      rcases c4 (g.first + k) (by omega) with ⟨p, hp1, hp2, hmx⟩ | he
      · obtain ⟨j, hj, hj2, rfl⟩ := (mem p).1 hp1
        dsimp only at hp2 hmx
        have hjk : g.forced + j = k := by omega
        simp only [hjk] at hmx
        rw [hz] at hmx
        rcases torn_sec (el k hk) hmx with h5 | h5
        · exact .inl h5
        · exact .inr (isSec_last h5)
      · rw [he, hz]
        exact .inr (isSec_zer _)
    obtain ⟨m, m1, m2, m3, m4⟩ := upto (fun k => ∃ hk : k < g.recs.length, (frcP v g n).2.sect (g.first + k) = secB (k + 1) (encB g.recs[k])) g.forced (n - g.forced)
    refine .inr ⟨c0, c1, c2, b3, m, m1, by omega, ⟨b1, b2, by rw [b3]; exact room, by omega, by omega, fun k hk hkm => ?_, fun hmc => ?_⟩⟩
    · by_cases hkf : k < g.forced
      · rcases c4 (g.first + k) (by omega) with ⟨p, hp1, hp2, _⟩ | he
        · obtain ⟨j, hj, hj2, rfl⟩ := (mem p).1 hp1
          dsimp only at hp2
          omega
        · rw [he]
          exact h.rc k hk hkf
      · obtain ⟨_, h5⟩ := m3 k (by omega) hkm
        exact h5
    · by_cases hmn : m < n
      · rcases sec m m1 (by omega) hmn with h5 | h5
        · exact absurd ⟨by omega, h5⟩ (m4 (by omega))
        · exact h5
      · rcases c4 (g.first + m) (by omega) with ⟨p, hp1, hp2, _⟩ | he
        · obtain ⟨j, hj, hj2, rfl⟩ := (mem p).1 hp1
          dsimp only at hp2
          omega
        · rw [he, h.z m m1 hmc]
          exact isSec_zer _
/-- A crash where nothing is pending. -/
theorem crash_law {v : Dv} {g : Lg} (hg : g.Ok) (h : LogD v g) (keep : List Nat) (torn off : Int) : (v.crash keep torn off).2.down = true ∧ (v.crash keep torn off).2.n = v.n ∧ Cr (v.crash keep torn off).2 g.first g.count g.recs g.forced := by
  have e : (v.crash keep torn off) = (0, v.fall keep torn off) := by unfold Dv.crash; rw [h.up, if_neg (by simp)]
  have ei : (v.fall keep torn off).img = v.img := by unfold Dv.fall; rw [h.q]; rfl
  have es : ∀ j, (v.fall keep torn off).sect j = v.sect j := fun j => by unfold Dv.sect; rw [ei]
  have ok := h.ok.crash keep torn off
  have en : (v.fall keep torn off).n = v.n := by unfold Dv.n; rw [ei]
  have gf := hg.f
  have gn := hg.n
  rw [e] at ok ⊢
  refine ⟨rfl, en, ⟨ok, rfl, by dsimp only; rw [en]; exact h.room, by omega, gf, fun k hk hkf => ?_, fun hf => ?_⟩⟩
  · dsimp only
    rw [es]
    exact h.rc k hk hkf
  · dsimp only
    rw [es, h.z _ (Nat.le_refl _) hf]
    exact isSec_zer _
end Go.Proofs.Ytkfdkcclojepnaa

/- Layer 6, plain: Open on such sectors. Conditions: none. -/
set_option linter.unusedVariables false
set_option linter.unusedSimpArgs false
namespace Go.Proofs.Ytkfdkcclojepnaa
open Go Go.RowKit

theorem foundN_eq : ∀ (S : List (List UInt8)) (i m : Nat), m ≤ S.length → (∀ k (h : k < S.length), k < m → isSec S[k] (i + k + 1) = true) → (∀ h : m < S.length, isSec S[m] (i + m + 1) = false) → foundN S i = m
  | [], i, m, hm, _, _ => by simp at hm; subst hm; rfl
  | s :: r, i, 0, _, _, h => by
    have := h (by simp)
    rw [foundN]
    rw [if_neg]
    simpa using this
  | s :: r, i, m + 1, hm, h1, h2 => by
    have h0 := h1 0 (by simp) (by omega)
    rw [foundN]
    rw [if_pos (by simpa using h0)]
    rw [foundN_eq r (i + 1) m (by simpa using hm) (fun k hk hkm => ?_) (fun hk => ?_)]
    · have := h1 (k + 1) (by simpa using hk) (by omega)
      rw [show i + 1 + k + 1 = i + (k + 1) + 1 by omega]
      exact this
    · have := h2 (by simpa using hk)
      rw [show i + 1 + m + 1 = i + (m + 1) + 1 by omega]
      exact this
theorem recOf_enc {r : RV} {i : Nat} (hc : chkN r = 0) (h64 : r.w64) (hl : r.lsn = ((i + 1 : Nat) : Int)) : recOf (encB r) i = r ∧ recE (encB r) i = 0 := by
  have hd := dec_enc hc h64 []
  rw [List.append_nil, if_pos rfl] at hd
  have e : recOf (encB r) i = r := by
    unfold recOf
    rw [hd]
    show ({ r with lsn := ((i + 1 : Nat) : Int) } : RV) = r
    rw [← hl]
  refine ⟨e, ?_⟩
  unfold recE
  rw [if_pos (by rw [hd]), e, hc]
theorem readR_enc : ∀ (L : List RV) (i : Nat), (∀ k (h : k < L.length), chkN L[k] = 0 ∧ (L[k]).w64 ∧ (L[k]).lsn = ((i + k + 1 : Nat) : Int)) → readR (L.map encB) i = (0, L)
  | [], i, _ => rfl
  | r :: l, i, h => by
    obtain ⟨h1, h2, h3⟩ := h 0 (by simp)
    obtain ⟨e1, e2⟩ := recOf_enc (i := i) h1 h2 h3
    have e1 : recOf (encB r) i = r := e1
    have e2 : recE (encB r) i = 0 := e2
    rw [List.map_cons, readR, e2, if_neg (by simp), e1, readR_enc l (i + 1) fun k hk => ?_]
    have := h (k + 1) (by simpa using hk)
    rw [show i + 1 + k + 1 = i + (k + 1) + 1 by omega]
    exact this
theorem wipP_mem : ∀ (l : List (List UInt8)) (i : Int) (k : Nat) (h : k < l.length), zerosB l[k] = true ∨ (i + k, zer512) ∈ wipP i l
  | s :: r, i, 0, _ => by
    rw [wipP]
    split
    · rename_i h; exact .inl h
    · exact .inr (by simp)
  | s :: r, i, k + 1, h => by
    rw [wipP]
    rcases wipP_mem r (i + 1) k (by simpa using h) with h1 | h1
    · exact .inl h1
    · have e : i + ((k + 1 : Nat) : Int) = i + 1 + (k : Int) := by omega
      rw [e]
      split
      · exact .inr h1
      · exact .inr (List.mem_cons_of_mem _ h1)
theorem read_sect {v : Dv} (hd : v.down = false) (hq : v.q = []) {i : Nat} (hi : i < v.n) : v.read (i : Int) = (v.sect i, 0) := by
  unfold Dv.read
  rw [hd, if_neg (by simp), if_neg (fun hh => hh ⟨by omega, by omega⟩), hq, Int.toNat_natCast]
  rfl
theorem syncQ_nil {v : Dv} (hq : v.q = []) : syncQ v = (0, v) := by
  unfold syncQ
  rw [hq]
  rfl
theorem secsOf_sect {v : Dv} (hd : v.down = false) (hq : v.q = []) {f c k : Nat} (hr : f + c ≤ v.n) (h : k < (secsOf v f c).length) : (secsOf v f c)[k] = v.sect (f + k) := by
  rw [secsOf_get, read_sect hd hq (by rw [secsOf_len] at h; omega)]
/-- Open, step by step, on a disk of which nothing is pending. -/
theorem openR_nil {v : Dv} {f c : Nat} (hd : v.down = false) (hq : v.q = []) (hr : f + c ≤ v.n) (hc : 1 ≤ c) : openR v (f : Int) (c : Int) = openS v f c := by
  unfold openR
  rw [if_neg (by unfold placeBad; omega), if_neg (by simp [hd]), syncQ_nil hq, if_neg (by simp), Int.toNat_natCast, Int.toNat_natCast]
theorem Cr.readS {v : Dv} {f c : Nat} {recs : List RV} {m : Nat} (h : Cr v f c recs m) (hr : RecsOk recs) (hd : v.down = false) (hc8 : c ≤ 8192) : readS v f c = (0, recs.take m) := by
  have room := h.room
  have mc := h.mc
  have mr := h.mr
  have ls := secsOf_len v f c
  have el : ∀ k (hk : k < recs.length), 1 ≤ (encB recs[k]).length ∧ (encB recs[k]).length ≤ 502 := fun k hk => by have := enc_len (hr k hk).1 (hr k hk).2.1; omega
  have es := fun k (hk : k < (secsOf v f c).length) => secsOf_sect hd h.q room hk
  have hf : foundN (secsOf v f c) 0 = m := by
    refine foundN_eq _ 0 m (by omega) (fun k hk hkm => ?_) (fun hk => ?_)
    · rw [es k hk, h.rc k (by omega) hkm, Nat.zero_add]
      exact (isSec_secB (by omega) (el k (by omega)).1 (el k (by omega)).2).1
    · rw [es m hk, Nat.zero_add]
      exact h.st (by omega)
  have hb : bytsOf (secsOf v f c) = (recs.take m).map encB := by
    unfold bytsOf
    rw [hf]
    apply List.ext_getElem
    · simp [ls]
      omega
    · intro k h1 h2
      have hkm : k < m := by simp at h2; omega
      have hkr : k < recs.length := by omega
      rw [List.getElem_map, List.getElem_map, List.getElem_take, List.getElem_take, es k (by omega), h.rc k hkr hkm]
      exact (isSec_secB (by omega) (el k hkr).1 (el k hkr).2).2
  unfold Go.Proofs.Ytkfdkcclojepnaa.readS
  rw [hb]
  refine readR_enc _ 0 fun k hk => ?_
  have hkr : k < recs.length := by simp at hk; omega
  rw [List.getElem_take, Nat.zero_add]
  exact hr k hkr
theorem open_law {v : Dv} {f c : Nat} {recs : List RV} {m : Nat} (h : Cr v f c recs m) (hr : RecsOk recs) (hd : v.down = false) (hc : 1 ≤ c) (hc8 : c ≤ 8192) :
    ((openR v f c).1 = (0, 0) ∧ (openR v f c).2.2 = recs.take m ∧ LogD (openR v f c).2.1 ⟨f, c, recs.take m, m, 0⟩ ∧ (v.step = 0 → (openR v f c).2.1.step = 0) ∧ (openR v f c).2.1.n = v.n) ∨
    (v.step ≠ 0 ∧ (openR v f c).1 = (0, 40) ∧ (openR v f c).2.1.down = true ∧ (openR v f c).2.1.n = v.n ∧ Cr (openR v f c).2.1 f c recs m) := by
  have room := h.room
  have mc := h.mc
  have mr := h.mr
  have ls := secsOf_len v f c
  have es := fun k (hk : k < (secsOf v f c).length) => secsOf_sect hd h.q room hk
  have hrs := h.readS hr hd hc8
  have tl : (recs.take m).length = m := by rw [List.length_take]; omega
  have hO : openR v (f : Int) (c : Int) = if (wipeL v ((f + m : Nat) : Int) ((secsOf v f c).drop m) false).1 ≠ 0 then ((0, (wipeL v ((f + m : Nat) : Int) ((secsOf v f c).drop m) false).1), (wipeL v ((f + m : Nat) : Int) ((secsOf v f c).drop m) false).2, []) else ((0, 0), (wipeL v ((f + m : Nat) : Int) ((secsOf v f c).drop m) false).2, recs.take m) := by
    rw [openR_nil hd h.q room hc]
    unfold openS wipeS
    rw [hrs]
    dsimp only
    rw [tl, if_neg (by simp)]
  rw [hO]
  have dl : ((secsOf v f c).drop m).length = c - m := by rw [List.length_drop, ls]
  have dg : ∀ k (hk : k < ((secsOf v f c).drop m).length), ((secsOf v f c).drop m)[k] = v.sect (f + m + k) := fun k hk => by
    rw [List.getElem_drop, es _ (by omega), Nat.add_assoc]
  have s512 : ∀ j, j < v.n → (v.sect j).length = 512 := fun j hj => sect_len h.ok hj
  obtain ⟨po, pm⟩ := wipP_one ((secsOf v f c).drop m) ((f + m : Nat) : Int)
  have wm := wipP_mem ((secsOf v f c).drop m) ((f + m : Nat) : Int)
  rw [wipeL_0]
  generalize wipP ((f + m : Nat) : Int) ((secsOf v f c).drop m) = P at *
  have rcB : ∀ (v' : Dv), (∀ k, k < m → v'.sect (f + k) = v.sect (f + k)) → ∀ k (hk : k < recs.length), k < m → v'.sect (f + k) = secB (k + 1) (encB recs[k]) := fun v' hv k hk hkm => by rw [hv k hkm]; exact h.rc k hk hkm
  by_cases hP : P = []
  · rw [if_pos hP, if_neg (by simp)]
    refine .inl ⟨rfl, rfl, ⟨h.ok, hd, h.q, room, fun k hk hkm => ?_, fun k hk1 hk2 => ?_⟩, fun h0 => h0, rfl⟩
    · show v.sect (f + k) = secB (k + 1) (encB ((recs.take m)[k]'hk))
      have hkm' : k < m := hkm
      rw [List.getElem_take]
      exact h.rc k (by omega) hkm'
    · show v.sect (f + k) = zer512
      have hk1' : m ≤ k := hk1
      have hk2' : k < c := hk2
      rcases wm (k - m) (by omega) with h1 | h1
      · rw [dg] at h1
        have e : f + m + (k - m) = f + k := by omega
        rw [e] at h1
        exact zeros_eq h1 (s512 _ (by omega))
      · rw [hP] at h1
        cases h1
  · rw [if_neg hP]
    have hp : Pok v.n P := fun p hp => by
      obtain ⟨a1, a2, a3⟩ := pm p hp
      rw [a3]
      exact ⟨by omega, by omega, List.length_replicate⟩
    obtain ⟨b1, b2, b3, b4⟩ := putP_sect h.ok hd h.q hp po
    rcases b4 with ⟨c1, c2, c3, c4⟩ | ⟨c0, c1, c2, c4⟩
    · rw [if_neg (by omega)]
      have low : ∀ k, k < m → (putP v P).2.sect (f + k) = v.sect (f + k) := fun k hkm => (c4 (f + k) (by omega)).2 fun p hp hh => by have := pm p hp; omega
      refine .inl ⟨rfl, rfl, ⟨b1, c2, b2, by rw [b3]; exact room, fun k hk hkm => ?_, fun k hk1 hk2 => ?_⟩, c3, b3⟩
      · show (putP v P).2.sect (f + k) = secB (k + 1) (encB ((recs.take m)[k]'hk))
        have hkm' : k < m := hkm
        rw [List.getElem_take]
        exact rcB _ low k (by omega) hkm'
      · show (putP v P).2.sect (f + k) = zer512
        have hk1' : m ≤ k := hk1
        have hk2' : k < c := hk2
        have e : f + m + (k - m) = f + k := by omega
        by_cases hm : (((f + m : Nat) : Int) + ((k - m : Nat) : Int), zer512) ∈ P
        · exact (c4 (f + k) (by omega)).1 _ hm (by dsimp only; omega)
        · have h1 : zerosB (v.sect (f + k)) = true := by
            rcases wm (k - m) (by omega) with h1 | h1
            · rw [dg, e] at h1
              exact h1
            · exact absurd h1 hm
          rw [(c4 (f + k) (by omega)).2 fun p hp hh => ?_]
          · exact zeros_eq h1 (s512 _ (by omega))
          · obtain ⟨a1, a2, a3⟩ := pm p hp
            refine hm ?_
            have ep : p = (((f + m : Nat) : Int) + ((k - m : Nat) : Int), zer512) := Prod.ext (by dsimp only; omega) a3
            rw [← ep]
            exact hp
    · rw [if_pos (by omega), c1]
      have low : ∀ k, k < m → (putP v P).2.sect (f + k) = v.sect (f + k) := fun k hkm => by
        rcases c4 (f + k) (by omega) with ⟨p, hp1, hp2, _⟩ | he
        · have := pm p hp1
          omega
        · exact he
      refine .inr ⟨c0, rfl, c2, b3, ⟨b1, b2, by rw [b3]; exact room, mc, mr, rcB _ low, fun hm => ?_⟩⟩
      rcases c4 (f + m) (by omega) with ⟨p, hp1, hp2, cc, hc5, hmx⟩ | he
      · rw [(pm p hp1).2.2] at hmx
        by_cases h0 : cc = 0
        · subst h0
          rw [List.take_zero, List.nil_append, List.drop_zero] at hmx
          rw [hmx]
          exact h.st hm
        · refine isSec_first ?_
          show (((putP v P).2.sect (f + m)).getD 0 0).toNat = 0
          rw [hmx, List.getD_eq_getElem?_getD, List.getElem?_append_left (by rw [List.length_take]; unfold zer512; rw [List.length_replicate]; omega), List.getElem?_take, if_pos (by omega)]
          unfold zer512
          rw [List.getElem?_replicate, if_pos (by omega)]
          rfl
      · show isSec ((putP v P).2.sect (f + m)) (m + 1) = false
        rw [he]
        exact h.st hm
end Go.Proofs.Ytkfdkcclojepnaa

/- Layer 6: awake. Conditions: none. -/
set_option linter.unusedVariables false
set_option linter.unusedSimpArgs false
namespace Go.Proofs.Ytkfdkcclojepnaa
open Go Go.RowKit

theorem liN (w : World) : LiIn w {} [] [] := ⟨Rd.nil _ _, rfl, by show 0 < _; omega, Rd.nil _ _, rfl, by show 0 < _; omega⟩
/-- A sector of a new disk. -/
theorem sect_new {n j : Nat} (h : j < n) : (Dv.new n).sect j = zer512 := by
  have : (j + 1) * 512 ≤ n * 512 := Nat.mul_le_mul_right _ h
  unfold Dv.sect Dv.new zer512
  dsimp only
  rw [List.drop_replicate, List.take_replicate]
  congr 1
  omega
theorem new_n (n : Nat) : (Dv.new n).n = n := Dv.n_of (by show (List.replicate (n * 512) (0 : UInt8)).length = _; rw [List.length_replicate])
theorem new_ok {n : Nat} (h1 : 1 ≤ n) (h2 : n ≤ 8192) : (Dv.new n).Ok := by
  rw [Dv.new_load]
  exact Dv.Ok.load (List.length_replicate) h1 h2
theorem new_sm (n m : Nat) : (Dv.new n).Sm m := ⟨by show 0 ≤ m; omega, by show 0 * 8 ≤ _; omega⟩
theorem wipP_nil : ∀ (l : List (List UInt8)) (i : Int), (∀ s ∈ l, zerosB s = true) → wipP i l = []
  | [], _, _ => rfl
  | s :: r, i, h => by
    rw [wipP, if_pos (h s (by simp))]
    exact wipP_nil r (i + 1) fun x hx => h x (by simp [hx])
/-- Open where zeros are: nothing is written. -/
theorem open_zero {v : Dv} {f c : Nat} (hok : v.Ok) (hd : v.down = false) (hq : v.q = []) (hr : f + c ≤ v.n) (hc : 1 ≤ c) (hc8 : c ≤ 8192) (hz : ∀ k, k < c → v.sect (f + k) = zer512) : openR v (f : Int) (c : Int) = ((0, 0), v, []) := by
  have hcr : Cr v f c [] 0 := ⟨hok, hq, hr, Nat.zero_le _, Nat.zero_le _, fun k h => absurd h (by simp), fun h => by rw [hz 0 (by omega)]; exact isSec_zer _⟩
  have hrs := hcr.readS (fun k h => absurd h (by simp)) hd hc8
  rw [openR_nil hd hq hr hc]
  have ls := secsOf_len v f c
  have hw : wipeS v f c = (0, v) := by
    unfold wipeS
    rw [hrs]
    dsimp only
    rw [wipeL_0, wipP_nil, if_pos rfl]
    intro s hs
    have hs := List.mem_of_mem_drop hs
    obtain ⟨k, hk, rfl⟩ := List.mem_iff_getElem.1 hs
    rw [secsOf_sect hd hq hr hk, hz k (by omega)]
    exact zer_zeros
  unfold openS
  rw [hrs, hw]
  rfl
theorem frcP_calls {v : Dv} {g : Lg} {n : Nat} (hok : v.Ok) (hd : v.down = false) (h0 : v.step = 0) (hp : Pok v.n (zipI ((g.first + g.forced : Nat) : Int) (frcL g n))) (hc : 0 ≤ v.calls) (hc2 : v.calls + (frcL g n).length + 1 < 1000000000000) : (frcP v g n).2.calls = v.calls + ((frcL g n).length + 1) := by
  have zl : ∀ (l : List (List UInt8)) (i : Int), (zipI i l).length = l.length := fun l => by
    induction l with
    | nil => intro i; rfl
    | cons b r ih => intro i; rw [zipI, List.length_cons, List.length_cons, ih]
  unfold frcP
  rw [putL_P]
  have := (putP_up _ hok hd hp (.inl h0)).2.2.2.2.2.1 hc (by rw [zl]; exact hc2)
  rw [this, zl]

instance (n : Int) : Decidable (i64 n) := inferInstanceAs (Decidable (_ ∧ _))
abbrev T100 : Nat → Prop := fun u => 100 ≤ u
def awR : RV := { kind := 1, tx := 1 }
def awR1 : RV := { lsn := 1, kind := 1, tx := 1 }
def awG : Lg := ⟨2, 6, [], 0, 0⟩
def awG1 : Lg := ⟨2, 6, [awR1], 0, 0⟩
def awG2 : Lg := ⟨2, 6, [awR1], 1, 0⟩
theorem aw_app : appR awG awR = ((1, 0), awG1) := by
  have h : chkN (nxtR awG awR) = 0 := by decide
  unfold appR
  rw [if_neg (by decide), if_neg (by rw [h]; decide), if_neg (by decide)]
  rfl
theorem aw_app2 : appR awG2 {} = ((0, 70), awG2) := by
  have h : chkN (nxtR awG2 {}) = 70 := by decide
  unfold appR
  rw [if_neg (by decide), if_pos (by rw [h]; decide), h]
theorem aw_ok : awG1.Ok := ⟨by decide, by decide, by decide, by decide, by decide, fun k hk => by
  have : k = 0 := by simp [awG1] at hk; exact hk
  subst this
  show chkN awR1 = 0 ∧ awR1.w64 ∧ awR1.lsn = 1
  exact ⟨by decide, ⟨by decide, by decide, by decide, by decide⟩, rfl⟩⟩
set_option maxHeartbeats 2000000 in
theorem awake_c {w : World} {R : Ending → World → Prop} (h : ∀ w', Kp no w w' → R (.returned (.bool true)) w') : GoC Try.prog F_law06_awake #[] w R := by
  refine S_law06_awake ?_
  unfold W_law06_awake
  refine new_c (ow := fun _ => 1000) (n := 8) (by omega) (by omega) 0 fun db w1 ow1 D1 k1 ag1 ge1 => ⟨_, _, rfl, cond_f rfl (num_c ⟨_, rfl, cond_f rfl ?_⟩)⟩
  have F1 : Fro T100 w (fun _ => 1000) w1 ow1 := ⟨k1.of_no, fun j hj _ => ag1 j hj⟩
  have nok : (Dv.new 8).Ok := new_ok (by omega) (by omega)
  have nst : (Dv.new 8).step = 0 := rfl
  have nup : (Dv.new 8).down = false := rfl
  have nq : (Dv.new 8).q = [] := rfl
  have nca : (Dv.new 8).calls = 0 := rfl
  have nse : ∀ j, j < 8 → (Dv.new 8).sect j = zer512 := fun j hj => sect_new hj
  have nn : (Dv.new 8).n = 8 := new_n 8
  have nsm : ∀ m, (Dv.new 8).Sm m := new_sm 8
  generalize Dv.new 8 = v0 at *
  have eo' : openR v0 2 6 = ((0, 0), v0, []) := open_zero (f := 2) (c := 6) nok nup nq (by rw [nn]; omega) (by omega) (by omega) fun k hk => nse _ (by omega)
  refine open_c (t := 0) D1 (nsm _) ⟨by decide, by decide⟩ ⟨by decide, by decide⟩ (fun hne => absurd (by rw [eo']) hne) fun _ lb w2 ow2 D2 L2 f2 _ => ?_
  rw [eo'] at D2 L2
  have L2 : LG w2 ow2 0 lb db awG := L2
  have D2 : DX w2 ow2 0 db v0 := D2
  have F2 : Fro T100 w (fun _ => 1000) w2 ow2 := F1.trans (f2.mono fun u hu => ⟨Td_of (by have : 100 ≤ u := hu; omega), by have : 100 ≤ u := hu; omega, by have : 100 ≤ u := hu; omega, by have : 100 ≤ u := hu; omega⟩)
  refine ⟨_, _, rfl, cond_f rfl (.inl ⟨rfl, cond_f rfl ?_⟩)⟩
  refine free_c L2 fun w3 k3 => ⟨_, rfl, cond_f rfl ?_⟩
  have L3 := L2.kp0 k3
  have D3 := D2.kp0 k3
  have F3 := F2.trans ((Fro.kp0 k3).mono fun _ _ => trivial)
  refine last_c L3 ⟨_, rfl, cond_f rfl ?_⟩
  refine append_c (r := awR) (m := {}) L3 (liN _) ⟨by decide, by decide, by decide, by decide⟩ fun w4 ow4 L4 f4 => ?_
  rw [aw_app] at L4 ⊢
  have L4 : LG w4 ow4 0 lb db awG1 := L4
  have F4 := F3.trans (f4.mono fun u hu => ⟨by have : 100 ≤ u := hu; omega, by have : 100 ≤ u := hu; omega, by have : 100 ≤ u := hu; omega⟩)
  have D4 := D3.fr f4 (by decide) (by decide) (by decide) (by decide)
  refine ⟨_, _, rfl, cond_f rfl (num_c ⟨_, rfl, cond_f rfl ?_⟩)⟩
  refine forced_c L4 ⟨_, rfl, cond_f rfl (calls_c D4 ⟨_, rfl, cond_f (by rw [nca]; rfl) ?_⟩)⟩
  -- Force
  have ld : LogD v0 awG1 := ⟨nok, nup, nq, by rw [nn]; decide, fun k hk hkf => absurd hkf (by show ¬ k < 0; omega), fun k _ hk => nse _ (by have : k < 6 := hk; show 2 + k < 8; omega)⟩
  have fl := frcP_law aw_ok ld (n := 1) (by decide) (by decide)
  rcases fl with ⟨e1, ld2, st2, n2⟩ | ⟨hs, _⟩
  rotate_left
  · exact absurd nst hs
  have ld2 : LogD (frcP (v0) awG1 1).2 awG2 := ld2
  have ecalls : (frcP (v0) awG1 1).2.calls = 2 := by
    have := frcP_calls (v := v0) (g := awG1) (n := 1) nok nup nst (fun p hp => by
      have hp : p ∈ [((2 : Int), secB 1 (encB awR1))] := hp
      rw [List.mem_singleton] at hp
      subst hp
      refine ⟨by decide, by rw [nn]; decide, ?_⟩
      have := (enc_len (aw_ok.r 0 (by decide)).1 (aw_ok.r 0 (by decide)).2.1).2
      exact secB_len (by show (encB awR1).length ≤ 504; have h2 : (encB awR1).length ≤ 502 := this; omega)) (by omega) (by rw [show (frcL awG1 1).length = 1 from rfl, nca]; decide)
    rw [this, show (frcL awG1 1).length = 1 from rfl, nca]
    rfl
  have fr : frcR (v0) awG1 1 = (0, (frcP (v0) awG1 1).2, awG2) := by
    unfold frcR
    rw [if_neg (by decide), if_neg (by decide), if_neg (by decide), if_neg (by decide)]
    have : Int.toNat 1 = 1 := rfl
    rw [this, if_neg (by omega)]
    rfl
  refine force_c L4 D4 (nsm _) ⟨by decide, by decide⟩ fun e w5 ow5 D5 L5 f5 ev => ?_
  rw [fr] at D5 L5 ev
  have L5 : LG w5 ow5 0 lb db awG2 := L5
  have D5 : DX w5 ow5 0 db (frcP v0 awG1 1).2 := D5
  generalize (frcP (v0) awG1 1).2 = v2 at *
  have F5 := F4.trans (f5.mono fun u hu => ⟨Td_of (by have : 100 ≤ u := hu; omega), by have : 100 ≤ u := hu; omega⟩)
  refine ⟨_, rfl, err_nil ev (cond_f rfl ?_)⟩
  refine forced_c L5 ⟨_, rfl, cond_f rfl (calls_c D5 ⟨_, rfl, ?_⟩)⟩
  rw [ecalls]
  refine cond_f rfl ?_
  refine lget_c L5 ⟨by decide, by decide⟩ fun m w6 k6 o6 => ⟨_, _, _, _, _, _, _, _, _, _, _, _, _, _, _, _, _, _, _, _, _, _, rfl, ?_⟩
  refine rec_cp awR1 m fun b1 w7 h7 => ?_
  have f7 : Fro (fun _ => True) w5 ow5 w7 (ext ow5 w5.heap.size 1000) := Fro.of_kp0 1000 (k6.trans0 h7.kp)
  have L7 := L5.fr f7 trivial trivial trivial trivial trivial
  have D7 := D5.fr f7 trivial trivial trivial trivial
  have F7 := F5.trans (f7.mono fun _ _ => trivial)
  have t7 : ext ow5 w5.heap.size 1000 b1 = 1000 := ext_new (by have := k6.size; have := h7.nw; omega)
  have hb7 := h7.blk
  generalize ext ow5 w5.heap.size 1000 = ow7 at *
  have s2 : v2.read 2 = (secB 1 (encB awR1), 0) := by
    have e := read_sect (v := v2) ld2.up ld2.q (i := 2) (by have := ld2.room; have r : 2 + 6 ≤ v2.n := this; omega)
    have r0 := ld2.rc 0 (by decide) (by decide)
    have r0 : v2.sect 2 = secB 1 (encB awR1) := r0
    rw [r0] at e
    exact e
  have enl := enc_len (aw_ok.r 0 (by decide)).1 (aw_ok.r 0 (by decide)).2.1
  have enl : 2 ≤ (encB awR1).length ∧ (encB awR1).length ≤ 502 := enl
  have sl : (secB 1 (encB awR1)).length = 512 := secB_len (by omega)
  refine readX_c D7 (by rw [ld2.q]; show 0 ≤ 1000000; omega) fun a l c w8 k8 hs8 fr8 => ⟨_, _, _, _, rfl, ?_⟩
  rw [s2] at hs8 ⊢
  have hl8 := hs8.1
  rw [bvs_len, sl] at hl8
  have hl8 : l = 512 := by omega
  subst hl8
  have f8 : Fro (fun _ => True) w7 ow7 w8 (ext ow7 w7.heap.size 1000) := Fro.of_kp0 1000 k8
  have rd8 : RdT w8 (ext ow7 w7.heap.size 1000) (fun x => x = 1000) a (bvs (secB 1 (encB awR1))) := rdT_new 1000 hs8.rd fr8
  have L8 := L7.fr f8 trivial trivial trivial trivial trivial
  have F8 := F7.trans (f8.mono fun _ _ => trivial)
  obtain ⟨hb8, t8⟩ := blk_fr hb7 t7 f8 trivial
  generalize ext ow7 w7.heap.size 1000 = ow8 at *
  refine append_c (r := {}) (m := {}) L8 (liN _) ⟨by decide, by decide, by decide, by decide⟩ fun w9 ow9 L9 f9 => ?_
  rw [aw_app2] at L9 ⊢
  have L9 : LG w9 ow9 0 lb db awG2 := L9
  have F9 := F8.trans (f9.mono fun u hu => ⟨by have : 100 ≤ u := hu; omega, by have : 100 ≤ u := hu; omega, by have : 100 ≤ u := hu; omega⟩)
  obtain ⟨hb9, t9⟩ := blk_fr hb8 t8 f9 (by decide)
  have rd9 := (rd8.fr f9 fun x hx => by rw [hx]; decide).rd
  have K9 : Kp no w w9 := F9.kp.mono fun k hk hn => hn (by decide)
  have g0 : ((secB 1 (encB awR1))[0]'(by omega)).toNat = 108 := rfl
  have g511 : ((secB 1 (encB awR1))[511]'(by omega)).toNat = 165 := by
    have := secB_511 (lsn := 1) (b := encB awR1) (by omega)
    rw [getD_of (by omega)] at this
    rw [this]
    rfl
  refine ⟨_, _, rfl, num_c ⟨_, rfl, cond_t rfl ⟨_, hb9.at rfl rfl, cond_t rfl ⟨_, hb9.at rfl rfl, cond_t rfl (num_c ⟨_, rfl, cond_t rfl (cond_t rfl ?_)⟩)⟩⟩⟩⟩
  refine rd_u8 rd9 (i := 0) (by omega) rfl (by omega) fun d1 hd1 => ⟨_, hd1, ?_⟩
  rw [g0]
  refine cond_t rfl (rd_u8 rd9 (i := 511) (by omega) rfl (by omega) fun d2 hd2 => ⟨_, hd2, ?_⟩)
  rw [g511]
  refine cond_t rfl (num_c ⟨_, rfl, cond_t rfl (free_c L9 fun w10 k10 => ⟨_, rfl, cond_t rfl (lerr_c (L9.kp0 k10) fun v ev eo => ⟨_, rfl, err_nil ev (h w10 (K9.trans0 k10))⟩)⟩)⟩)
end Go.Proofs.Ytkfdkcclojepnaa

/- LogNames' walk. Conditions: none. -/
namespace Go.Proofs.Ytkfdkcclojepnaa
open Go Go.RowKit

theorem logNames_walk {W : World} : GoC Try.prog F_law06_LogNames #[] W fun e W' => e = .returned (.bool true) ∧ Kp no W W' := by
  refine S_law06_LogNames ?_
  unfold W_law06_LogNames
  exact awake_c fun w' k => ⟨_, rfl, rfl, k⟩
end Go.Proofs.Ytkfdkcclojepnaa
