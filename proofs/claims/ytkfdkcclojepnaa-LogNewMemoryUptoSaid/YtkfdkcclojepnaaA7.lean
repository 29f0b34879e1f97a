/- Several texts as one. Conditions: none. -/
import Derived.Test.YtkfdkcclojepnaaA2
/- Layer 6, plain: what a Force, a crash and an Open leave in the sectors. Conditions: none. -/
set_option linter.unusedVariables false
set_option linter.unusedSimpArgs false
namespace Go.Proofs.Ytkfdkcclojepnaa
open Go Go.RowKit

/-- Writes and a sync. -/
def putP : Dv → List (Int × List UInt8) → Nat × Dv
  | v, [] => v.sync
  | v, p :: r => if (v.write p.1 p.2).1 ≠ 0 then v.write p.1 p.2 else putP (v.write p.1 p.2).2 r
theorem putL_P : ∀ (l : List (List UInt8)) (v : Dv) (i : Int), putL v i l = putP v (zipI i l)
  | [], v, i => rfl
  | b :: r, v, i => by
    rw [putL, zipI, putP]
    dsimp only
    rw [putL_P r]
def wipP : Int → List (List UInt8) → List (Int × List UInt8)
  | _, [] => []
  | i, s :: r => if zerosB s then wipP (i + 1) r else (i, zer512) :: wipP (i + 1) r
theorem wipeL_P : ∀ (l : List (List UInt8)) (v : Dv) (i : Int), wipeL v i l true = putP v (wipP i l)
  | [], v, i => rfl
  | s :: r, v, i => by
    rw [wipeL, wipP]
    split
    · exact wipeL_P r v (i + 1)
    · rw [putP]
      dsimp only
      rw [wipeL_P r]
theorem wipeL_0 : ∀ (l : List (List UInt8)) (v : Dv) (i : Int), wipeL v i l false = if wipP i l = [] then (0, v) else putP v (wipP i l)
  | [], v, i => rfl
  | s :: r, v, i => by
    rw [wipeL, wipP]
    split
    · exact wipeL_0 r v (i + 1)
    · rw [if_neg (c := (i, zer512) :: wipP (i + 1) r = []) (by simp), putP]
      dsimp only
      rw [wipeL_P r]
/-- Places and bytes that may be written. -/
def Pok (n : Nat) (P : List (Int × List UInt8)) : Prop := ∀ p ∈ P, 0 ≤ p.1 ∧ p.1 < (n : Int) ∧ p.2.length = 512
theorem wok {v : Dv} (hd : v.down = false) {p : Int × List UInt8} (hp : 0 ≤ p.1 ∧ p.1 < (v.n : Int) ∧ p.2.length = 512) : v.write p.1 p.2 = if v.step = 1 then (40, (v.bump.add p.1 p.2).fall v.keep v.torn v.off) else (0, v.bump.add p.1 p.2) := by
  unfold Dv.write
  rw [hd, if_neg (by simp), if_neg (fun hh => hh ⟨hp.1, hp.2.1⟩), if_neg (fun hh => hh hp.2.2)]
theorem putP_Ok : ∀ (P : List (Int × List UInt8)) {v : Dv}, v.Ok → (putP v P).2.Ok
  | [], v, h => h.sync
  | p :: r, v, h => by
    rw [putP]
    split
    · exact h.write _ _
    · exact putP_Ok r (h.write _ _)
theorem putP_up : ∀ (P : List (Int × List UInt8)) {v : Dv}, v.Ok → v.down = false → Pok v.n P → (v.step = 0 ∨ (P.length : Int) + 1 < v.step) →
    (putP v P).1 = 0 ∧ (putP v P).2.down = false ∧ (putP v P).2.q = [] ∧ (putP v P).2.img = syncL (v.q ++ P) v.img ∧ (v.step = 0 → (putP v P).2.step = 0) ∧ (0 ≤ v.calls → v.calls + P.length + 1 < 1000000000000 → (putP v P).2.calls = v.calls + (P.length + 1)) ∧ (putP v P).2.n = v.n
  | [], v, hok, hd, hp, hs => by
    have e : v.sync = (0, v.bump.synced) := by
      unfold Dv.sync
      rw [hd, if_neg (by simp), if_neg]
      have := hok.step
      simp only [List.length_nil] at hs
      omega
    have hn := sync_n hok
    rw [putP, e, List.append_nil]
    rw [e] at hn
    refine ⟨rfl, hd, rfl, rfl, ?_, ?_, hn⟩
    · intro h0
      show (if v.step = 0 then (0 : Int) else v.step - 1) = _
      rw [if_pos h0]
    · intro hc hc2
      show IntKind.wrap .i64 (v.calls + 1) = _
      simp only [List.length_nil] at hc2 ⊢
      rw [wrap_i64 (by omega) (by omega)]
      rfl
  | p :: r, v, hok, hd, hp, hs => by
    rw [List.length_cons] at hs
    have hp0 := hp p (by simp)
    have st := hok.step
    have e : v.write p.1 p.2 = (0, v.bump.add p.1 p.2) := by rw [wok hd hp0, if_neg (by omega)]
    have ok1 := hok.write p.1 p.2
    rw [e] at ok1
    have sE : (v.bump.add p.1 p.2).step = if v.step = 0 then 0 else v.step - 1 := rfl
    have ih := putP_up r (v := v.bump.add p.1 p.2) ok1 hd (fun x hx => hp x (by simp [hx])) (by rw [sE]; split <;> omega)
    rw [putP, e, if_neg (by simp)]
    refine ⟨ih.1, ih.2.1, ih.2.2.1, ?_, ?_, ?_, ih.2.2.2.2.2.2⟩
    · rw [ih.2.2.2.1]
      show syncL ((v.q ++ [(p.1, p.2)]) ++ _) v.img = _
      rw [List.append_assoc]
      rfl
    · intro h0
      exact ih.2.2.2.2.1 (by rw [sE, if_pos h0])
    · intro hc hc2
      rw [List.length_cons] at hc2
      have cE : (v.bump.add p.1 p.2).calls = v.calls + 1 := by
        show IntKind.wrap .i64 (v.calls + 1) = _
        rw [wrap_i64 (by omega) (by omega)]
      rw [ih.2.2.2.2.2.1 (by omega) (by omega), cE, List.length_cons]
      omega
theorem putP_fall : ∀ (P : List (Int × List UInt8)) {v : Dv}, v.Ok → v.down = false → Pok v.n P → (1 ≤ v.step ∧ v.step ≤ (P.length : Int) + 1) →
    (putP v P).1 = 40 ∧ (putP v P).2.down = true ∧ (putP v P).2.q = [] ∧ ∃ m, (putP v P).2.img = fallL v.keep v.torn v.off 0 (v.q ++ P.take m) v.img
  | [], v, hok, hd, hp, hs => by
    simp only [List.length_nil] at hs
    have e : v.sync = (40, v.bump.fall v.keep v.torn v.off) := by
      unfold Dv.sync
      rw [hd, if_neg (by simp), if_pos (by omega)]
    rw [putP, e]
    exact ⟨rfl, rfl, rfl, 0, by simp [Dv.fall, Dv.bump]⟩
  | p :: r, v, hok, hd, hp, hs => by
    rw [List.length_cons] at hs
    have hp0 := hp p (by simp)
    have st := hok.step
    by_cases h1 : v.step = 1
    · have e : v.write p.1 p.2 = (40, (v.bump.add p.1 p.2).fall v.keep v.torn v.off) := by rw [wok hd hp0, if_pos h1]
      rw [putP, e, if_pos (by simp)]
      exact ⟨rfl, rfl, rfl, 1, rfl⟩
    · have e : v.write p.1 p.2 = (0, v.bump.add p.1 p.2) := by rw [wok hd hp0, if_neg h1]
      have ok1 := hok.write p.1 p.2
      rw [e] at ok1
      have sE : (v.bump.add p.1 p.2).step = if v.step = 0 then 0 else v.step - 1 := rfl
      obtain ⟨i1, i2, i3, m, i6⟩ := putP_fall r (v := v.bump.add p.1 p.2) ok1 hd (fun x hx => hp x (by simp [hx])) (by rw [sE, if_neg (by omega)]; omega)
      rw [putP, e, if_neg (by simp)]
      refine ⟨i1, i2, i3, m + 1, ?_⟩
      rw [i6]
      show fallL v.keep v.torn v.off 0 ((v.q ++ [(p.1, p.2)]) ++ r.take m) v.img = _
      rw [List.take_succ_cons, List.append_assoc]
      rfl
/-- Places are named once. -/
def Pone (P : List (Int × List UInt8)) : Prop := P.Pairwise fun a b => a.1 ≠ b.1
theorem read_one {j : Int} : ∀ (P : List (Int × List UInt8)) (o : List UInt8), Pone P → (∀ p ∈ P, p.1 = j → readL j P o = p.2) ∧ ((∀ p ∈ P, p.1 ≠ j) → readL j P o = o)
  | [], o, _ => ⟨fun p hp => absurd hp (by simp), fun _ => rfl⟩
  | q :: r, o, h => by
    obtain ⟨h1, h2⟩ := List.pairwise_cons.1 h
    constructor
    · intro p hp hpj
      rw [readL]
      rcases List.mem_cons.1 hp with rfl | hp
      · rw [if_pos hpj]
        exact (read_one r _ h2).2 fun x hx => by rw [← hpj]; exact fun hh => h1 x hx hh.symm
      · exact (read_one r _ h2).1 p hp hpj
    · intro hn
      rw [readL, if_neg (hn q (by simp))]
      exact (read_one r _ h2).2 fun x hx => hn x (by simp [hx])
theorem fall_one {n j : Nat} (hj : j < n) (keep : List Nat) (torn off : Int) : ∀ (P : List (Int × List UInt8)) (k : Nat) (img : List UInt8), img.length = n * 512 → Pok n P → Pone P → ∀ p ∈ P, p.1 = (j : Int) →
    Mix p.2 ((img.drop (j * 512)).take 512) (((fallL keep torn off k P img).drop (j * 512)).take 512)
  | [], _, _, _, _, _, p, hp, _ => by cases hp
  | q :: r, k, img, h, hq, h1, p, hp, hpj => by
    obtain ⟨h1, h2⟩ := List.pairwise_cons.1 h1
    have hq0 := hq q (by simp)
    have step : ∀ img1, (∃ c, c ≤ 512 ∧ img1 = (if keptN keep k then ovr img (q.1.toNat * 512) q.2 else if (k : Int) = torn then ovr img (q.1.toNat * 512) (q.2.take (clampN off)) else img)) → img1.length = n * 512 := by
      rintro img1 ⟨_, _, rfl⟩
      split
      · exact lay_ln h (by omega) (by omega)
      · split
        · exact lay_ln h (by omega) (by rw [List.length_take]; omega)
        · exact h
    have l1 := step _ ⟨0, by omega, rfl⟩
    rw [fallL]
    rcases List.mem_cons.1 hp with rfl | hp
    · rw [sect_fall hj keep torn off r _ _ l1 (fun x hx => hq x (by simp [hx])) fun x hx => by rw [← hpj]; exact fun hh => h1 x hx hh.symm]
      have hjt : p.1.toNat = j := by omega
      rw [hjt]
      split
      · refine ⟨512, by omega, ?_⟩
        rw [sect_all h hj hq0.2.2, if_pos rfl, List.take_of_length_le (by omega), List.drop_eq_nil_of_le (by rw [List.length_take]; omega), List.append_nil]
      · split
        · refine ⟨clampN off, clamp_le off, ?_⟩
          have hl : (p.2.take (clampN off)).length = clampN off := by have := clamp_le off; rw [List.length_take]; omega
          rw [sect_ovr h hj (by have := clamp_le off; omega), if_pos rfl, hl]
        · exact ⟨0, by omega, by simp⟩
    · have ih := fall_one hj keep torn off r (k + 1) _ l1 (fun x hx => hq x (by simp [hx])) h2 p hp hpj
      have hne : q.1 ≠ (j : Int) := by rw [← hpj]; exact h1 p hp
      have e : ((if keptN keep k then ovr img (q.1.toNat * 512) q.2 else if (k : Int) = torn then ovr img (q.1.toNat * 512) (q.2.take (clampN off)) else img).drop (j * 512)).take 512 = (img.drop (j * 512)).take 512 := by
        split
        · rw [sect_all h (by omega) hq0.2.2, if_neg (by omega)]
        · split
          · rw [sect_ovr h (by omega) (by rw [List.length_take]; omega), if_neg (by omega)]
          · rfl
      rw [e] at ih
      exact ih
theorem zipI_one : ∀ (l : List (List UInt8)) (i : Int), Pone (zipI i l) ∧ ∀ p ∈ zipI i l, i ≤ p.1
  | [], i => ⟨.nil, fun p hp => by cases hp⟩
  | b :: r, i => by
    obtain ⟨h1, h2⟩ := zipI_one r (i + 1)
    refine ⟨List.pairwise_cons.2 ⟨fun x hx => ?_, h1⟩, fun p hp => ?_⟩
    · have := h2 x hx
      show i ≠ x.1
      omega
    · rcases List.mem_cons.1 hp with rfl | hp
      · exact Int.le_refl _
      · have := h2 p hp
        omega
theorem wipP_one : ∀ (l : List (List UInt8)) (i : Int), Pone (wipP i l) ∧ ∀ p ∈ wipP i l, i ≤ p.1 ∧ p.1 < i + l.length ∧ p.2 = zer512
  | [], i => ⟨.nil, fun p hp => by cases hp⟩
  | s :: r, i => by
    obtain ⟨h1, h2⟩ := wipP_one r (i + 1)
    rw [wipP, List.length_cons]
    split
    · exact ⟨h1, fun p hp => by have := h2 p hp; exact ⟨by omega, by omega, this.2.2⟩⟩
    · refine ⟨List.pairwise_cons.2 ⟨fun x hx => ?_, h1⟩, fun p hp => ?_⟩
      · have := h2 x hx
        show i ≠ x.1
        omega
      · rcases List.mem_cons.1 hp with rfl | hp
        · exact ⟨Int.le_refl _, by show i < _; omega, rfl⟩
        · have := h2 p hp
          exact ⟨by omega, by omega, this.2.2⟩
theorem Pone.take {P : List (Int × List UInt8)} (h : Pone P) (m : Nat) : Pone (P.take m) := List.Pairwise.sublist (List.take_sublist m P) h

/-- What writes and a sync leave, on a disk of which nothing is pending. -/
theorem putP_sect {v : Dv} {P : List (Int × List UInt8)} (hok : v.Ok) (hd : v.down = false) (hq : v.q = []) (hp : Pok v.n P) (h1 : Pone P) :
    (putP v P).2.Ok ∧ (putP v P).2.q = [] ∧ (putP v P).2.n = v.n ∧
    (((putP v P).1 = 0 ∧ (putP v P).2.down = false ∧ (v.step = 0 → (putP v P).2.step = 0) ∧ (∀ j, j < v.n → (∀ p ∈ P, p.1 = (j : Int) → (putP v P).2.sect j = p.2) ∧ ((∀ p ∈ P, p.1 ≠ (j : Int)) → (putP v P).2.sect j = v.sect j))) ∨
     (v.step ≠ 0 ∧ (putP v P).1 = 40 ∧ (putP v P).2.down = true ∧ (∀ j, j < v.n → ((∃ p ∈ P, p.1 = (j : Int) ∧ Mix p.2 (v.sect j) ((putP v P).2.sect j)) ∨ (putP v P).2.sect j = v.sect j)))) := by
  have ok' := putP_Ok P hok
  have st := hok.step
  by_cases hs : v.step = 0 ∨ (P.length : Int) + 1 < v.step
  · obtain ⟨a1, a2, a3, a4, a5, _, a6⟩ := putP_up P hok hd hp hs
    refine ⟨ok', a3, a6, .inl ⟨a1, a2, a5, fun j hj => ?_⟩⟩
    rw [hq, List.nil_append] at a4
    unfold Dv.sect
    rw [a4, sect_sync hj P v.img hok.len hp]
    exact read_one P _ h1
  · obtain ⟨a1, a2, a3, m, a4⟩ := putP_fall P hok hd hp (by omega)
    rw [hq, List.nil_append] at a4
    have hpt : Pok v.n (P.take m) := fun p hp' => hp p (List.mem_of_mem_take hp')
    have hn : (putP v P).2.n = v.n := by
      have := fallL_len v.keep v.torn v.off v.n (P.take m) 0 v.img hok.len hpt
      rw [← a4] at this
      exact Dv.n_of this
    refine ⟨ok', a3, hn, .inr ⟨by omega, a1, a2, fun j hj => ?_⟩⟩
    unfold Dv.sect
    rw [a4]
    by_cases hex : ∃ p ∈ P.take m, p.1 = (j : Int)
    · obtain ⟨p, hp1, hp2⟩ := hex
      exact .inl ⟨p, List.mem_of_mem_take hp1, hp2, fall_one hj _ _ _ (P.take m) 0 v.img hok.len hpt (h1.take m) p hp1 hp2⟩
    · exact .inr (sect_fall hj _ _ _ (P.take m) 0 v.img hok.len hpt fun p hp1 hp2 => hex ⟨p, hp1, hp2⟩)
end Go.Proofs.Ytkfdkcclojepnaa

/- Layer 6, plain: a log's sectors behind a Force, a crash, an Open. Conditions: none. -/
set_option linter.unusedVariables false
set_option linter.unusedSimpArgs false
namespace Go.Proofs.Ytkfdkcclojepnaa
open Go Go.RowKit

theorem zipI_mem' : ∀ (l : List (List UInt8)) (i : Int) (p : Int × List UInt8), p ∈ zipI i l ↔ ∃ k, ∃ h : k < l.length, p = (i + k, l[k])
  | [], i, p => by simp [zipI]
  | b :: r, i, p => by
    rw [zipI, List.mem_cons, zipI_mem' r (i + 1) p]
    constructor
    · rintro (rfl | ⟨k, h, rfl⟩)
      · exact ⟨0, by simp, by simp⟩
      · exact ⟨k + 1, by simp; omega, by simp; omega⟩
    · rintro ⟨k, h, rfl⟩
      cases k with
      | zero => exact .inl (by simp)
      | succ k => exact .inr ⟨k, by simpa using h, by simp; omega⟩
theorem secL_get : ∀ (L : List RV) (f k : Nat) (h : k < (secL f L).length) (h' : k < L.length), (secL f L)[k] = secB (f + k + 1) (encB L[k])
  | [], _, _, _, h' => absurd h' (by simp)
  | r :: l, f, 0, _, _ => rfl
  | r :: l, f, k + 1, h, h' => by
    have := secL_get l (f + 1) k (by rw [secL_len]; simpa using h') (by simpa using h')
    simp only [secL, List.getElem_cons_succ]
    rw [this]
    congr 1
    omega
theorem isSec_zer (n : Nat) : isSec zer512 n = false := isSec_last (by unfold zer512; rw [List.getD_eq_getElem?_getD, List.getElem?_replicate, if_pos (by omega)]; rfl)
theorem isSec_first {s : List UInt8} {n : Nat} (h : (s.getD 0 0).toNat = 0) : isSec s n = false := by
  unfold isSec
  rw [h]
  simp
theorem zeros_eq {s : List UInt8} (h : zerosB s = true) (hl : s.length = 512) : s = zer512 := by
  unfold zerosB at h
  simp only [Bool.not_eq_true'] at h
  rw [List.any_eq_false] at h
  unfold zer512
  rw [List.eq_replicate_iff]
  refine ⟨hl, fun x hx => ?_⟩
  have := h x hx
  simp only [decide_eq_true_eq, Decidable.not_not] at this
  exact UInt8.toNat_inj.1 (by simpa using this)
theorem zer_zeros : zerosB zer512 = true := by
  unfold zerosB zer512
  rw [replicate_any]
  rfl
/-- A log's sectors on a disk that stands still. -/
structure LogD (v : Dv) (g : Lg) : Prop where
  ok : v.Ok
  up : v.down = false
  q : v.q = []
  room : g.first + g.count ≤ v.n
  rc : ∀ k (h : k < g.recs.length), k < g.forced → v.sect (g.first + k) = secB (k + 1) (encB g.recs[k])
  z : ∀ k, g.forced ≤ k → k < g.count → v.sect (g.first + k) = zer512
/-- The first so many records lie there, and the next does not. -/
structure Cr (v : Dv) (f c : Nat) (recs : List RV) (m : Nat) : Prop where
  ok : v.Ok
  q : v.q = []
  room : f + c ≤ v.n
  mc : m ≤ c
  mr : m ≤ recs.length
  rc : ∀ k (h : k < recs.length), k < m → v.sect (f + k) = secB (k + 1) (encB recs[k])
  st : m < c → isSec (v.sect (f + m)) (m + 1) = false
def RecsOk (recs : List RV) : Prop := ∀ k (h : k < recs.length), chkN recs[k] = 0 ∧ (recs[k]).w64 ∧ (recs[k]).lsn = ((k + 1 : Nat) : Int)
theorem upto (P : Nat → Prop) (a : Nat) : ∀ d, ∃ m, a ≤ m ∧ m ≤ a + d ∧ (∀ k, a ≤ k → k < m → P k) ∧ (m < a + d → ¬ P m)
  | 0 => ⟨a, Nat.le_refl _, Nat.le_refl _, fun k h1 h2 => by omega, fun h => by omega⟩
  | d + 1 => by
    obtain ⟨m, h1, h2, h3, h4⟩ := upto P a d
    by_cases hm : m < a + d
    · exact ⟨m, h1, by omega, h3, fun _ => h4 hm⟩
    · have hme : m = a + d := by omega
      by_cases hp : P m
      · refine ⟨m + 1, by omega, by omega, fun k hk1 hk2 => ?_, fun h => by omega⟩
        by_cases hkm : k < m
        · exact h3 k hk1 hkm
        · have : k = m := by omega
          rw [this]
          exact hp
      · exact ⟨m, h1, by omega, h3, fun _ => hp⟩
theorem frcP_law {v : Dv} {g : Lg} (hg : g.Ok) (h : LogD v g) {n : Nat} (h1 : g.forced < n) (h2 : n ≤ g.recs.length) :
    ((frcP v g n).1 = 0 ∧ LogD (frcP v g n).2 { g with forced := n } ∧ (v.step = 0 → (frcP v g n).2.step = 0) ∧ (frcP v g n).2.n = v.n) ∨
    (v.step ≠ 0 ∧ (frcP v g n).1 = 40 ∧ (frcP v g n).2.down = true ∧ (frcP v g n).2.n = v.n ∧ ∃ m, g.forced ≤ m ∧ m ≤ n ∧ Cr (frcP v g n).2 g.first g.count g.recs m) := by
  have gf := hg.f
  have gn := hg.n
  have room := h.room
  have Ll : ((g.recs.drop g.forced).take (n - g.forced)).length = n - g.forced := by rw [List.length_take, List.length_drop]; omega
  have Sl : (frcL g n).length = n - g.forced := by unfold frcL; rw [secL_len, Ll]
  have Sg : ∀ k (hk : k < (frcL g n).length) (hk2 : g.forced + k < g.recs.length), (frcL g n)[k] = secB (g.forced + k + 1) (encB g.recs[g.forced + k]) := fun k hk hk2 => by
    have := secL_get ((g.recs.drop g.forced).take (n - g.forced)) g.forced k hk (by rw [Ll]; omega)
    have e : ((g.recs.drop g.forced).take (n - g.forced))[k]'(by rw [Ll]; omega) = g.recs[g.forced + k] := by rw [List.getElem_take, List.getElem_drop]
    rw [e] at this
    exact this
  have el : ∀ k (hk : k < g.recs.length), (encB g.recs[k]).length ≤ 502 := fun k hk => (enc_len (hg.r k hk).1 (hg.r k hk).2.1).2
  have mem : ∀ p, p ∈ zipI ((g.first + g.forced : Nat) : Int) (frcL g n) ↔ ∃ k, ∃ hk : g.forced + k < g.recs.length, g.forced + k < n ∧ p = (((g.first + g.forced + k : Nat) : Int), secB (g.forced + k + 1) (encB g.recs[g.forced + k])) := fun p => by
    rw [zipI_mem']
    constructor
    · rintro ⟨k, hk, rfl⟩
      refine ⟨k, by omega, by omega, ?_⟩
      rw [Sg k hk (by omega)]
      congr 1
    · rintro ⟨k, hk, hk2, rfl⟩
      refine ⟨k, by omega, ?_⟩
      rw [Sg k (by omega) hk]
      congr 1
  have hp : Pok v.n (zipI ((g.first + g.forced : Nat) : Int) (frcL g n)) := fun p hp => by
    obtain ⟨k, hk, hk2, rfl⟩ := (mem p).1 hp
    refine ⟨by dsimp only; omega, by dsimp only; omega, ?_⟩
    have := el _ hk
    exact secB_len (by omega)
  obtain ⟨b1, b2, b3, b4⟩ := putP_sect h.ok h.up h.q hp (zipI_one _ _).1
  rw [← putL_P] at b1 b2 b3 b4
  have hfp : putL v ((g.first + g.forced : Nat) : Int) (frcL g n) = frcP v g n := rfl
  rw [hfp] at b1 b2 b3 b4
  rcases b4 with ⟨c1, c2, c3, c4⟩ | ⟨c0, c1, c2, c4⟩
  · refine .inl ⟨c1, ⟨b1, c2, b2, by rw [b3]; exact room, fun k hk hkn => ?_, fun k hk1 hk2 => ?_⟩, c3, b3⟩
    · show (frcP v g n).2.sect (g.first + k) = secB (k + 1) (encB g.recs[k])
      have hk' : k < g.recs.length := hk
      have hkn' : k < n := hkn
      by_cases hkf : k < g.forced
      · rw [(c4 (g.first + k) (by omega)).2 fun p hp => ?_]
        · exact h.rc k hk' hkf
        · obtain ⟨j, hj, hj2, rfl⟩ := (mem p).1 hp
          dsimp only
          omega
      · have := (c4 (g.first + k) (by omega)).1 (((g.first + g.forced + (k - g.forced) : Nat) : Int), secB (g.forced + (k - g.forced) + 1) (encB (g.recs[g.forced + (k - g.forced)]'(by omega)))) ((mem _).2 ⟨k - g.forced, by omega, by omega, rfl⟩) (by dsimp only; omega)
        rw [this]
        have ek : g.forced + (k - g.forced) = k := by omega
        dsimp only
        simp only [ek]
    · show (frcP v g n).2.sect (g.first + k) = zer512
      have hk1' : n ≤ k := hk1
      have hk2' : k < g.count := hk2
      rw [(c4 (g.first + k) (by omega)).2 fun p hp => ?_]
      · exact h.z k (by omega) hk2'
      · obtain ⟨j, hj, hj2, rfl⟩ := (mem p).1 hp
        dsimp only
        omega
  · have sec : ∀ k, g.forced ≤ k → ∀ hk : k < g.recs.length, k < n → (frcP v g n).2.sect (g.first + k) = secB (k + 1) (encB g.recs[k]) ∨ isSec ((frcP v g n).2.sect (g.first + k)) (k + 1) = false := fun k hkf hk hkn => by
      have hz := h.z k hkf (by omega)
      rcases c4 (g.first + k) (by omega) with ⟨p, hp1, hp2, hmx⟩ | he
      · obtain ⟨j, hj, hj2, rfl⟩ := (mem p).1 hp1
        dsimp only at hp2 hmx
        have hjk : g.forced + j = k := by omega
        simp only [hjk] at hmx
        rw [hz] at hmx
        rcases torn_sec (el k hk) hmx with h5 | h5
        · exact .inl h5
        · exact .inr (isSec_last h5)
      · rw [he, hz]
        exact .inr (isSec_zer _)
    obtain ⟨m, m1, m2, m3, m4⟩ := upto (fun k => ∃ hk : k < g.recs.length, (frcP v g n).2.sect (g.first + k) = secB (k + 1) (encB g.recs[k])) g.forced (n - g.forced)
    refine .inr ⟨c0, c1, c2, b3, m, m1, by omega, ⟨b1, b2, by rw [b3]; exact room, by omega, by omega, fun k hk hkm => ?_, fun hmc => ?_⟩⟩
    · by_cases hkf : k < g.forced
      · rcases c4 (g.first + k) (by omega) with ⟨p, hp1, hp2, _⟩ | he
        · obtain ⟨j, hj, hj2, rfl⟩ := (mem p).1 hp1
          dsimp only at hp2
          omega
        · rw [he]
          exact h.rc k hk hkf
      · obtain ⟨_, h5⟩ := m3 k (by omega) hkm
        exact h5
    · by_cases hmn : m < n
      · rcases sec m m1 (by omega) hmn with h5 | h5
        · exact absurd ⟨by omega, h5⟩ (m4 (by omega))
        · exact h5
      · rcases c4 (g.first + m) (by omega) with ⟨p, hp1, hp2, _⟩ | he
        · obtain ⟨j, hj, hj2, rfl⟩ := (mem p).1 hp1
          dsimp only at hp2
          omega
        · rw [he, h.z m m1 hmc]
          exact isSec_zer _
/-- A crash where nothing is pending. -/
theorem crash_law {v : Dv} {g : Lg} (hg : g.Ok) (h : LogD v g) (keep : List Nat) (torn off : Int) : (v.crash keep torn off).2.down = true ∧ (v.crash keep torn off).2.n = v.n ∧ Cr (v.crash keep torn off).2 g.first g.count g.recs g.forced := by
  have e : (v.crash keep torn off) = (0, v.fall keep torn off) := by unfold Dv.crash; rw [h.up, if_neg (by simp)]
  have ei : (v.fall keep torn off).img = v.img := by unfold Dv.fall; rw [h.q]; rfl
  have es : ∀ j, (v.fall keep torn off).sect j = v.sect j := fun j => by unfold Dv.sect; rw [ei]
  have ok := h.ok.crash keep torn off
  have en : (v.fall keep torn off).n = v.n := by unfold Dv.n; rw [ei]
  have gf := hg.f
  have gn := hg.n
  rw [e] at ok ⊢
  refine ⟨rfl, en, ⟨ok, rfl, by dsimp only; rw [en]; exact h.room, by omega, gf, fun k hk hkf => ?_, fun hf => ?_⟩⟩
  · dsimp only
    rw [es]
    exact h.rc k hk hkf
  · dsimp only
    rw [es, h.z _ (Nat.le_refl _) hf]
    exact isSec_zer _
end Go.Proofs.Ytkfdkcclojepnaa

/- Layer 6, plain: Open on such sectors. Conditions: none. -/
set_option linter.unusedVariables false
set_option linter.unusedSimpArgs false
namespace Go.Proofs.Ytkfdkcclojepnaa
open Go Go.RowKit

theorem foundN_eq : ∀ (S : List (List UInt8)) (i m : Nat), m ≤ S.length → (∀ k (h : k < S.length), k < m → isSec S[k] (i + k + 1) = true) → (∀ h : m < S.length, isSec S[m] (i + m + 1) = false) → foundN S i = m
  | [], i, m, hm, _, _ => by simp at hm; subst hm; rfl
  | s :: r, i, 0, _, _, h => by
    have := h (by simp)
    rw [foundN]
    rw [if_neg]
    simpa using this
  | s :: r, i, m + 1, hm, h1, h2 => by
    have h0 := h1 0 (by simp) (by omega)
    rw [foundN]
    rw [if_pos (by simpa using h0)]
    rw [foundN_eq r (i + 1) m (by simpa using hm) (fun k hk hkm => ?_) (fun hk => ?_)]
    · have := h1 (k + 1) (by simpa using hk) (by omega)
      rw [show i + 1 + k + 1 = i + (k + 1) + 1 by omega]
      exact this
    · have := h2 (by simpa using hk)
      rw [show i + 1 + m + 1 = i + (m + 1) + 1 by omega]
      exact this
theorem recOf_enc {r : RV} {i : Nat} (hc : chkN r = 0) (h64 : r.w64) (hl : r.lsn = ((i + 1 : Nat) : Int)) : recOf (encB r) i = r ∧ recE (encB r) i = 0 := by
  have hd := dec_enc hc h64 []
  rw [List.append_nil, if_pos rfl] at hd
  have e : recOf (encB r) i = r := by
    unfold recOf
    rw [hd]
    show ({ r with lsn := ((i + 1 : Nat) : Int) } : RV) = r
    rw [← hl]
  refine ⟨e, ?_⟩
  unfold recE
  rw [if_pos (by rw [hd]), e, hc]
theorem readR_enc : ∀ (L : List RV) (i : Nat), (∀ k (h : k < L.length), chkN L[k] = 0 ∧ (L[k]).w64 ∧ (L[k]).lsn = ((i + k + 1 : Nat) : Int)) → readR (L.map encB) i = (0, L)
  | [], i, _ => rfl
  | r :: l, i, h => by
    obtain ⟨h1, h2, h3⟩ := h 0 (by simp)
    obtain ⟨e1, e2⟩ := recOf_enc (i := i) h1 h2 h3
    have e1 : recOf (encB r) i = r := e1
    have e2 : recE (encB r) i = 0 := e2
    rw [List.map_cons, readR, e2, if_neg (by simp), e1, readR_enc l (i + 1) fun k hk => ?_]
    have := h (k + 1) (by simpa using hk)
    rw [show i + 1 + k + 1 = i + (k + 1) + 1 by omega]
    exact this
theorem wipP_mem : ∀ (l : List (List UInt8)) (i : Int) (k : Nat) (h : k < l.length), zerosB l[k] = true ∨ (i + k, zer512) ∈ wipP i l
  | s :: r, i, 0, _ => by
    rw [wipP]
    split
    · rename_i h; exact .inl h
    · exact .inr (by simp)
  | s :: r, i, k + 1, h => by
    rw [wipP]
    rcases wipP_mem r (i + 1) k (by simpa using h) with h1 | h1
    · exact .inl h1
    · have e : i + ((k + 1 : Nat) : Int) = i + 1 + (k : Int) := by omega
      rw [e]
      split
      · exact .inr h1
      · exact .inr (List.mem_cons_of_mem _ h1)
theorem read_sect {v : Dv} (hd : v.down = false) (hq : v.q = []) {i : Nat} (hi : i < v.n) : v.read (i : Int) = (v.sect i, 0) := by
  unfold Dv.read
  rw [hd, if_neg (by simp), if_neg (fun hh => hh ⟨by omega, by omega⟩), hq, Int.toNat_natCast]
  rfl
theorem syncQ_nil {v : Dv} (hq : v.q = []) : syncQ v = (0, v) := by
  unfold syncQ
  rw [hq]
  rfl
theorem secsOf_sect {v : Dv} (hd : v.down = false) (hq : v.q = []) {f c k : Nat} (hr : f + c ≤ v.n) (h : k < (secsOf v f c).length) : (secsOf v f c)[k] = v.sect (f + k) := by
  rw [secsOf_get, read_sect hd hq (by rw [secsOf_len] at h; omega)]
/-- Open, step by step, on a disk of which nothing is pending. -/
theorem openR_nil {v : Dv} {f c : Nat} (hd : v.down = false) (hq : v.q = []) (hr : f + c ≤ v.n) (hc : 1 ≤ c) : openR v (f : Int) (c : Int) = openS v f c := by
  unfold openR
  rw [if_neg (by unfold placeBad; omega), if_neg (by simp [hd]), syncQ_nil hq, if_neg (by simp), Int.toNat_natCast, Int.toNat_natCast]
theorem Cr.readS {v : Dv} {f c : Nat} {recs : List RV} {m : Nat} (h : Cr v f c recs m) (hr : RecsOk recs) (hd : v.down = false) (hc8 : c ≤ 8192) : readS v f c = (0, recs.take m) := by
  have room := h.room
  have mc := h.mc
  have mr := h.mr
  have ls := secsOf_len v f c
  have el : ∀ k (hk : k < recs.length), 1 ≤ (encB recs[k]).length ∧ (encB recs[k]).length ≤ 502 := fun k hk => by have := enc_len (hr k hk).1 (hr k hk).2.1; omega
  have es := fun k (hk : k < (secsOf v f c).length) => secsOf_sect hd h.q room hk
  have hf : foundN (secsOf v f c) 0 = m := by
    refine foundN_eq _ 0 m (by omega) (fun k hk hkm => ?_) (fun hk => ?_)
    · rw [es k hk, h.rc k (by omega) hkm, Nat.zero_add]
      exact (isSec_secB (by omega) (el k (by omega)).1 (el k (by omega)).2).1
    · rw [es m hk, Nat.zero_add]
      exact h.st (by omega)
  have hb : bytsOf (secsOf v f c) = (recs.take m).map encB := by
    unfold bytsOf
    rw [hf]
    apply List.ext_getElem
    · simp [ls]
      omega
    · intro k h1 h2
      have hkm : k < m := by simp at h2; omega
      have hkr : k < recs.length := by omega
      rw [List.getElem_map, List.getElem_map, List.getElem_take, List.getElem_take, es k (by omega), h.rc k hkr hkm]
      exact (isSec_secB (by omega) (el k hkr).1 (el k hkr).2).2
  unfold Go.Proofs.Ytkfdkcclojepnaa.readS
  rw [hb]
  refine readR_enc _ 0 fun k hk => ?_
  have hkr : k < recs.length := by simp at hk; omega
  rw [List.getElem_take, Nat.zero_add]
  exact hr k hkr
theorem open_law {v : Dv} {f c : Nat} {recs : List RV} {m : Nat} (h : Cr v f c recs m) (hr : RecsOk recs) (hd : v.down = false) (hc : 1 ≤ c) (hc8 : c ≤ 8192) :
    ((openR v f c).1 = (0, 0) ∧ (openR v f c).2.2 = recs.take m ∧ LogD (openR v f c).2.1 ⟨f, c, recs.take m, m, 0⟩ ∧ (v.step = 0 → (openR v f c).2.1.step = 0) ∧ (openR v f c).2.1.n = v.n) ∨
    (v.step ≠ 0 ∧ (openR v f c).1 = (0, 40) ∧ (openR v f c).2.1.down = true ∧ (openR v f c).2.1.n = v.n ∧ Cr (openR v f c).2.1 f c recs m) := by
  have room := h.room
  have mc := h.mc
  have mr := h.mr
  have ls := secsOf_len v f c
  have es := fun k (hk : k < (secsOf v f c).length) => secsOf_sect hd h.q room hk
  have hrs := h.readS hr hd hc8
  have tl : (recs.take m).length = m := by rw [List.length_take]; omega
  have hO : openR v (f : Int) (c : Int) = if (wipeL v ((f + m : Nat) : Int) ((secsOf v f c).drop m) false).1 ≠ 0 then ((0, (wipeL v ((f + m : Nat) : Int) ((secsOf v f c).drop m) false).1), (wipeL v ((f + m : Nat) : Int) ((secsOf v f c).drop m) false).2, []) else ((0, 0), (wipeL v ((f + m : Nat) : Int) ((secsOf v f c).drop m) false).2, recs.take m) := by
    rw [openR_nil hd h.q room hc]
    unfold openS wipeS
    rw [hrs]
    dsimp only
    rw [tl, if_neg (by simp)]
  rw [hO]
  have dl : ((secsOf v f c).drop m).length = c - m := by rw [List.length_drop, ls]
  have dg : ∀ k (hk : k < ((secsOf v f c).drop m).length), ((secsOf v f c).drop m)[k] = v.sect (f + m + k) := fun k hk => by
    rw [List.getElem_drop, es _ (by omega), Nat.add_assoc]
  have s512 : ∀ j, j < v.n → (v.sect j).length = 512 := fun j hj => sect_len h.ok hj
  obtain ⟨po, pm⟩ := wipP_one ((secsOf v f c).drop m) ((f + m : Nat) : Int)
  have wm := wipP_mem ((secsOf v f c).drop m) ((f + m : Nat) : Int)
  rw [wipeL_0]
  generalize wipP ((f + m : Nat) : Int) ((secsOf v f c).drop m) = P at *
  have rcB : ∀ (v' : Dv), (∀ k, k < m → v'.sect (f + k) = v.sect (f + k)) → ∀ k (hk : k < recs.length), k < m → v'.sect (f + k) = secB (k + 1) (encB recs[k]) := fun v' hv k hk hkm => by rw [hv k hkm]; exact h.rc k hk hkm
  by_cases hP : P = []
  · rw [if_pos hP, if_neg (by simp)]
    refine .inl ⟨rfl, rfl, ⟨h.ok, hd, h.q, room, fun k hk hkm => ?_, fun k hk1 hk2 => ?_⟩, fun h0 => h0, rfl⟩
    · show v.sect (f + k) = secB (k + 1) (encB ((recs.take m)[k]'hk))
      have hkm' : k < m := hkm
      rw [List.getElem_take]
      exact h.rc k (by omega) hkm'
    · show v.sect (f + k) = zer512
      have hk1' : m ≤ k := hk1
      have hk2' : k < c := hk2
      rcases wm (k - m) (by omega) with h1 | h1
      · rw [dg] at h1
        have e : f + m + (k - m) = f + k := by omega
        rw [e] at h1
        exact zeros_eq h1 (s512 _ (by omega))
      · rw [hP] at h1
        cases h1
  · rw [if_neg hP]
    have hp : Pok v.n P := fun p hp => by
      obtain ⟨a1, a2, a3⟩ := pm p hp
      rw [a3]
      exact ⟨by omega, by omega, List.length_replicate⟩
    obtain ⟨b1, b2, b3, b4⟩ := putP_sect h.ok hd h.q hp po
    rcases b4 with ⟨c1, c2, c3, c4⟩ | ⟨c0, c1, c2, c4⟩
    · rw [if_neg (by omega)]
      have low : ∀ k, k < m → (putP v P).2.sect (f + k) = v.sect (f + k) := fun k hkm => (c4 (f + k) (by omega)).2 fun p hp hh => by have := pm p hp; omega
      refine .inl ⟨rfl, rfl, ⟨b1, c2, b2, by rw [b3]; exact room, fun k hk hkm => ?_, fun k hk1 hk2 => ?_⟩, c3, b3⟩
      · show (putP v P).2.sect (f + k) = secB (k + 1) (encB ((recs.take m)[k]'hk))
        have hkm' : k < m := hkm
        rw [List.getElem_take]
        exact rcB _ low k (by omega) hkm'
      · show (putP v P).2.sect (f + k) = zer512
        have hk1' : m ≤ k := hk1
        have hk2' : k < c := hk2
        have e : f + m + (k - m) = f + k := by omega
        by_cases hm : (((f + m : Nat) : Int) + ((k - m : Nat) : Int), zer512) ∈ P
        · exact (c4 (f + k) (by omega)).1 _ hm (by dsimp only; omega)
        · have h1 : zerosB (v.sect (f + k)) = true := by
            rcases wm (k - m) (by omega) with h1 | h1
            · rw [dg, e] at h1
              exact h1
            · exact absurd h1 hm
          rw [(c4 (f + k) (by omega)).2 fun p hp hh => ?_]
          · exact zeros_eq h1 (s512 _ (by omega))
          · obtain ⟨a1, a2, a3⟩ := pm p hp
            refine hm ?_
            have ep : p = (((f + m : Nat) : Int) + ((k - m : Nat) : Int), zer512) := Prod.ext (by dsimp only; omega) a3
            rw [← ep]
            exact hp
    · rw [if_pos (by omega), c1]
      have low : ∀ k, k < m → (putP v P).2.sect (f + k) = v.sect (f + k) := fun k hkm => by
        rcases c4 (f + k) (by omega) with ⟨p, hp1, hp2, _⟩ | he
        · have := pm p hp1
          omega
        · exact he
      refine .inr ⟨c0, rfl, c2, b3, ⟨b1, b2, by rw [b3]; exact room, mc, mr, rcB _ low, fun hm => ?_⟩⟩
      rcases c4 (f + m) (by omega) with ⟨p, hp1, hp2, cc, hc5, hmx⟩ | he
      · rw [(pm p hp1).2.2] at hmx
        by_cases h0 : cc = 0
        · subst h0
          rw [List.take_zero, List.nil_append, List.drop_zero] at hmx
          rw [hmx]
          exact h.st hm
        · refine isSec_first ?_
          show (((putP v P).2.sect (f + m)).getD 0 0).toNat = 0
          rw [hmx, List.getD_eq_getElem?_getD, List.getElem?_append_left (by rw [List.length_take]; unfold zer512; rw [List.length_replicate]; omega), List.getElem?_take, if_pos (by omega)]
          unfold zer512
          rw [List.getElem?_replicate, if_pos (by omega)]
          rfl
      · show isSec ((putP v P).2.sect (f + m)) (m + 1) = false
        rw [he]
        exact h.st hm
end Go.Proofs.Ytkfdkcclojepnaa

/- Layer 6: awake. Conditions: none. -/
set_option linter.unusedVariables false
set_option linter.unusedSimpArgs false
namespace Go.Proofs.Ytkfdkcclojepnaa
open Go Go.RowKit

theorem liN (w : World) : LiIn w {} [] [] := ⟨Rd.nil _ _, rfl, by show 0 < _; omega, Rd.nil _ _, rfl, by show 0 < _; omega⟩
/-- A sector of a new disk. -/
theorem sect_new {n j : Nat} (h : j < n) : (Dv.new n).sect j = zer512 := by
  have : (j + 1) * 512 ≤ n * 512 := Nat.mul_le_mul_right _ h
  unfold Dv.sect Dv.new zer512
  dsimp only
  rw [List.drop_replicate, List.take_replicate]
  congr 1
  omega
theorem new_n (n : Nat) : (Dv.new n).n = n := Dv.n_of (by show (List.replicate (n * 512) (0 : UInt8)).length = _; rw [List.length_replicate])
theorem new_ok {n : Nat} (h1 : 1 ≤ n) (h2 : n ≤ 8192) : (Dv.new n).Ok := by
  rw [Dv.new_load]
  exact Dv.Ok.load (List.length_replicate) h1 h2
theorem new_sm (n m : Nat) : (Dv.new n).Sm m := ⟨by show 0 ≤ m; omega, by show 0 * 8 ≤ _; omega⟩
theorem wipP_nil : ∀ (l : List (List UInt8)) (i : Int), (∀ s ∈ l, zerosB s = true) → wipP i l = []
  | [], _, _ => rfl
  | s :: r, i, h => by
    rw [wipP, if_pos (h s (by simp))]
    exact wipP_nil r (i + 1) fun x hx => h x (by simp [hx])
/-- Open where zeros are: nothing is written. -/
theorem open_zero {v : Dv} {f c : Nat} (hok : v.Ok) (hd : v.down = false) (hq : v.q = []) (hr : f + c ≤ v.n) (hc : 1 ≤ c) (hc8 : c ≤ 8192) (hz : ∀ k, k < c → v.sect (f + k) = zer512) : openR v (f : Int) (c : Int) = ((0, 0), v, []) := by
  have hcr : Cr v f c [] 0 := ⟨hok, hq, hr, Nat.zero_le _, Nat.zero_le _, fun k h => absurd h (by simp), fun h => by rw [hz 0 (by omega)]; exact isSec_zer _⟩
  have hrs := hcr.readS (fun k h => absurd h (by simp)) hd hc8
  rw [openR_nil hd hq hr hc]
  have ls := secsOf_len v f c
  have hw : wipeS v f c = (0, v) := by
    unfold wipeS
    rw [hrs]
    dsimp only
    rw [wipeL_0, wipP_nil, if_pos rfl]
    intro s hs
    have hs := List.mem_of_mem_drop hs
    obtain ⟨k, hk, rfl⟩ := List.mem_iff_getElem.1 hs
    rw [secsOf_sect hd hq hr hk, hz k (by omega)]
    exact zer_zeros
  unfold openS
  rw [hrs, hw]
  rfl
theorem frcP_calls {v : Dv} {g : Lg} {n : Nat} (hok : v.Ok) (hd : v.down = false) (h0 : v.step = 0) (hp : Pok v.n (zipI ((g.first + g.forced : Nat) : Int) (frcL g n))) (hc : 0 ≤ v.calls) (hc2 : v.calls + (frcL g n).length + 1 < 1000000000000) : (frcP v g n).2.calls = v.calls + ((frcL g n).length + 1) := by
  have zl : ∀ (l : List (List UInt8)) (i : Int), (zipI i l).length = l.length := fun l => by
    induction l with
    | nil => intro i; rfl
    | cons b r ih => intro i; rw [zipI, List.length_cons, List.length_cons, ih]
  unfold frcP
  rw [putL_P]
  have := (putP_up _ hok hd hp (.inl h0)).2.2.2.2.2.1 hc (by rw [zl]; exact hc2)
  rw [this, zl]

instance (n : Int) : Decidable (i64 n) := inferInstanceAs (Decidable (_ ∧ _))
abbrev T100 : Nat → Prop := fun u => 100 ≤ u
def awR : RV := { kind := 1, tx := 1 }
def awR1 : RV := { lsn := 1, kind := 1, tx := 1 }
def awG : Lg := ⟨2, 6, [], 0, 0⟩
def awG1 : Lg := ⟨2, 6, [awR1], 0, 0⟩
def awG2 : Lg := ⟨2, 6, [awR1], 1, 0⟩
theorem aw_app : appR awG awR = ((1, 0), awG1) := by
  have h : chkN (nxtR awG awR) = 0 := by decide
  unfold appR
  rw [if_neg (by decide), if_neg (by rw [h]; decide), if_neg (by decide)]
  rfl
theorem aw_app2 : appR awG2 {} = ((0, 70), awG2) := by
  have h : chkN (nxtR awG2 {}) = 70 := by decide
  unfold appR
  rw [if_neg (by decide), if_pos (by rw [h]; decide), h]
theorem aw_ok : awG1.Ok := ⟨by decide, by decide, by decide, by decide, by decide, fun k hk => by
  have : k = 0 := by simp [awG1] at hk; exact hk
  subst this
  show chkN awR1 = 0 ∧ awR1.w64 ∧ awR1.lsn = 1
  exact ⟨by decide, ⟨by decide, by decide, by decide, by decide⟩, rfl⟩⟩
set_option maxHeartbeats 2000000 in
theorem awake_c {w : World} {R : Ending → World → Prop} (h : ∀ w', Kp no w w' → R (.returned (.bool true)) w') : GoC Try.prog F_law06_awake #[] w R := by
  refine S_law06_awake ?_
  unfold W_law06_awake
  refine new_c (ow := fun _ => 1000) (n := 8) (by omega) (by omega) 0 fun db w1 ow1 D1 k1 ag1 ge1 => ⟨_, _, rfl, cond_f rfl (num_c ⟨_, rfl, cond_f rfl ?_⟩)⟩
  have F1 : Fro T100 w (fun _ => 1000) w1 ow1 := ⟨k1.of_no, fun j hj _ => ag1 j hj⟩
  have nok : (Dv.new 8).Ok := new_ok (by omega) (by omega)
  have nst : (Dv.new 8).step = 0 := rfl
  have nup : (Dv.new 8).down = false := rfl
  have nq : (Dv.new 8).q = [] := rfl
  have nca : (Dv.new 8).calls = 0 := rfl
  have nse : ∀ j, j < 8 → (Dv.new 8).sect j = zer512 := fun j hj => sect_new hj
  have nn : (Dv.new 8).n = 8 := new_n 8
  have nsm : ∀ m, (Dv.new 8).Sm m := new_sm 8
  generalize Dv.new 8 = v0 at *
  have eo' : openR v0 2 6 = ((0, 0), v0, []) := open_zero (f := 2) (c := 6) nok nup nq (by rw [nn]; omega) (by omega) (by omega) fun k hk => nse _ (by omega)
  refine open_c (t := 0) D1 (nsm _) ⟨by decide, by decide⟩ ⟨by decide, by decide⟩ (fun hne => absurd (by rw [eo']) hne) fun _ lb w2 ow2 D2 L2 f2 _ => ?_
  rw [eo'] at D2 L2
  have L2 : LG w2 ow2 0 lb db awG := L2
  have D2 : DX w2 ow2 0 db v0 := D2
  have F2 : Fro T100 w (fun _ => 1000) w2 ow2 := F1.trans (f2.mono fun u hu => ⟨Td_of (by have : 100 ≤ u := hu; omega), by have : 100 ≤ u := hu; omega, by have : 100 ≤ u := hu; omega, by have : 100 ≤ u := hu; omega⟩)
  refine ⟨_, _, rfl, cond_f rfl (.inl ⟨rfl, cond_f rfl ?_⟩)⟩
  refine free_c L2 fun w3 k3 => ⟨_, rfl, cond_f rfl ?_⟩
  have L3 := L2.kp0 k3
  have D3 := D2.kp0 k3
  have F3 := F2.trans ((Fro.kp0 k3).mono fun _ _ => trivial)
  refine last_c L3 ⟨_, rfl, cond_f rfl ?_⟩
  refine append_c (r := awR) (m := {}) L3 (liN _) ⟨by decide, by decide, by decide, by decide⟩ fun w4 ow4 L4 f4 => ?_
  rw [aw_app] at L4 ⊢
  have L4 : LG w4 ow4 0 lb db awG1 := L4
  have F4 := F3.trans (f4.mono fun u hu => ⟨by have : 100 ≤ u := hu; omega, by have : 100 ≤ u := hu; omega, by have : 100 ≤ u := hu; omega⟩)
  have D4 := D3.fr f4 (by decide) (by decide) (by decide) (by decide)
  refine ⟨_, _, rfl, cond_f rfl (num_c ⟨_, rfl, cond_f rfl ?_⟩)⟩
  refine forced_c L4 ⟨_, rfl, cond_f rfl (calls_c D4 ⟨_, rfl, cond_f (by rw [nca]; rfl) ?_⟩)⟩
  -- Force
  have ld : LogD v0 awG1 := ⟨nok, nup, nq, by rw [nn]; decide, fun k hk hkf => absurd hkf (by show ¬ k < 0; omega), fun k _ hk => nse _ (by have : k < 6 := hk; show 2 + k < 8; omega)⟩
  have fl := frcP_law aw_ok ld (n := 1) (by decide) (by decide)
  rcases fl with ⟨e1, ld2, st2, n2⟩ | ⟨hs, _⟩
  rotate_left
  · exact absurd nst hs
  have ld2 : LogD (frcP (v0) awG1 1).2 awG2 := ld2
  have ecalls : (frcP (v0) awG1 1).2.calls = 2 := by
    have := frcP_calls (v := v0) (g := awG1) (n := 1) nok nup nst (fun p hp => by
      have hp : p ∈ [((2 : Int), secB 1 (encB awR1))] := hp
      rw [List.mem_singleton] at hp
      subst hp
      refine ⟨by decide, by rw [nn]; decide, ?_⟩
      have := (enc_len (aw_ok.r 0 (by decide)).1 (aw_ok.r 0 (by decide)).2.1).2
      exact secB_len (by show (encB awR1).length ≤ 504; have h2 : (encB awR1).length ≤ 502 := this; omega)) (by omega) (by rw [show (frcL awG1 1).length = 1 from rfl, nca]; decide)
    rw [this, show (frcL awG1 1).length = 1 from rfl, nca]
    rfl
  have fr : frcR (v0) awG1 1 = (0, (frcP (v0) awG1 1).2, awG2) := by
    unfold frcR
    rw [if_neg (by decide), if_neg (by decide), if_neg (by decide), if_neg (by decide)]
    have : Int.toNat 1 = 1 := rfl
    rw [this, if_neg (by omega)]
    rfl
  refine force_c L4 D4 (nsm _) ⟨by decide, by decide⟩ fun e w5 ow5 D5 L5 f5 ev => ?_
  rw [fr] at D5 L5 ev
  have L5 : LG w5 ow5 0 lb db awG2 := L5
  have D5 : DX w5 ow5 0 db (frcP v0 awG1 1).2 := D5
  generalize (frcP (v0) awG1 1).2 = v2 at *
  have F5 := F4.trans (f5.mono fun u hu => ⟨Td_of (by have : 100 ≤ u := hu; omega), by have : 100 ≤ u := hu; omega⟩)
  refine ⟨_, rfl, err_nil ev (cond_f rfl ?_)⟩
  refine forced_c L5 ⟨_, rfl, cond_f rfl (calls_c D5 ⟨_, rfl, ?_⟩)⟩
  rw [ecalls]
  refine cond_f rfl ?_
  refine lget_c L5 ⟨by decide, by decide⟩ fun m w6 k6 o6 => ⟨_, _, _, _, _, _, _, _, _, _, _, _, _, _, _, _, _, _, _, _, _, _, rfl, ?_⟩
  refine rec_cp awR1 m fun b1 w7 h7 => ?_
  have f7 : Fro (fun _ => True) w5 ow5 w7 (ext ow5 w5.heap.size 1000) := Fro.of_kp0 1000 (k6.trans0 h7.kp)
  have L7 := L5.fr f7 trivial trivial trivial trivial trivial
  have D7 := D5.fr f7 trivial trivial trivial trivial
  have F7 := F5.trans (f7.mono fun _ _ => trivial)
  have t7 : ext ow5 w5.heap.size 1000 b1 = 1000 := ext_new (by have := k6.size; have := h7.nw; omega)
  have hb7 := h7.blk
  generalize ext ow5 w5.heap.size 1000 = ow7 at *
  have s2 : v2.read 2 = (secB 1 (encB awR1), 0) := by
    have e := read_sect (v := v2) ld2.up ld2.q (i := 2) (by have := ld2.room; have r : 2 + 6 ≤ v2.n := this; omega)
    have r0 := ld2.rc 0 (by decide) (by decide)
    have r0 : v2.sect 2 = secB 1 (encB awR1) := r0
    rw [r0] at e
    exact e
  have enl := enc_len (aw_ok.r 0 (by decide)).1 (aw_ok.r 0 (by decide)).2.1
  have enl : 2 ≤ (encB awR1).length ∧ (encB awR1).length ≤ 502 := enl
  have sl : (secB 1 (encB awR1)).length = 512 := secB_len (by omega)
  refine readX_c D7 (by rw [ld2.q]; show 0 ≤ 1000000; omega) fun a l c w8 k8 hs8 fr8 => ⟨_, _, _, _, rfl, ?_⟩
  rw [s2] at hs8 ⊢
  have hl8 := hs8.1
  rw [bvs_len, sl] at hl8
  have hl8 : l = 512 := by omega
  subst hl8
  have f8 : Fro (fun _ => True) w7 ow7 w8 (ext ow7 w7.heap.size 1000) := Fro.of_kp0 1000 k8
  have rd8 : RdT w8 (ext ow7 w7.heap.size 1000) (fun x => x = 1000) a (bvs (secB 1 (encB awR1))) := rdT_new 1000 hs8.rd fr8
  have L8 := L7.fr f8 trivial trivial trivial trivial trivial
  have F8 := F7.trans (f8.mono fun _ _ => trivial)
  obtain ⟨hb8, t8⟩ := blk_fr hb7 t7 f8 trivial
  generalize ext ow7 w7.heap.size 1000 = ow8 at *
  refine append_c (r := {}) (m := {}) L8 (liN _) ⟨by decide, by decide, by decide, by decide⟩ fun w9 ow9 L9 f9 => ?_
  rw [aw_app2] at L9 ⊢
  have L9 : LG w9 ow9 0 lb db awG2 := L9
  have F9 := F8.trans (f9.mono fun u hu => ⟨by have : 100 ≤ u := hu; omega, by have : 100 ≤ u := hu; omega, by have : 100 ≤ u := hu; omega⟩)
  obtain ⟨hb9, t9⟩ := blk_fr hb8 t8 f9 (by decide)
  have rd9 := (rd8.fr f9 fun x hx => by rw [hx]; decide).rd
  have K9 : Kp no w w9 := F9.kp.mono fun k hk hn => hn (by decide)
  have g0 : ((secB 1 (encB awR1))[0]'(by omega)).toNat = 108 := rfl
  have g511 : ((secB 1 (encB awR1))[511]'(by omega)).toNat = 165 := by
    have := secB_511 (lsn := 1) (b := encB awR1) (by omega)
    rw [getD_of (by omega)] at this
    rw [this]
    rfl
  refine ⟨_, _, rfl, num_c ⟨_, rfl, cond_t rfl ⟨_, hb9.at rfl rfl, cond_t rfl ⟨_, hb9.at rfl rfl, cond_t rfl (num_c ⟨_, rfl, cond_t rfl (cond_t rfl ?_)⟩)⟩⟩⟩⟩
  refine rd_u8 rd9 (i := 0) (by omega) rfl (by omega) fun d1 hd1 => ⟨_, hd1, ?_⟩
  rw [g0]
  refine cond_t rfl (rd_u8 rd9 (i := 511) (by omega) rfl (by omega) fun d2 hd2 => ⟨_, hd2, ?_⟩)
  rw [g511]
  refine cond_t rfl (num_c ⟨_, rfl, cond_t rfl (free_c L9 fun w10 k10 => ⟨_, rfl, cond_t rfl (lerr_c (L9.kp0 k10) fun v ev eo => ⟨_, rfl, err_nil ev (h w10 (K9.trans0 k10))⟩)⟩)⟩)
end Go.Proofs.Ytkfdkcclojepnaa

/- Layer 6: the statements' brought, dot, points. Conditions: none. -/
set_option linter.unusedVariables false
set_option linter.unusedSimpArgs false
namespace Go.Proofs.Ytkfdkcclojepnaa
open Go Go.RowKit

theorem tmod_brought {n m : Int} (hm : 0 < m) : (if Int.tmod n m < 0 then Int.tmod n m + m else Int.tmod n m) = n % m := by
  have h1 := Int.emod_nonneg n (by omega : m ≠ 0)
  have h2 := Int.emod_lt_of_pos n hm
  have h3 := Int.lt_tmod_of_pos n hm
  have h4 := Int.tmod_lt_of_pos n hm
  have e1 := Int.mul_tdiv_add_tmod n m
  have e2 := Int.mul_ediv_add_emod n m
  have key : ∀ a : Int, 0 ≤ a → a < m → ∀ q : Int, m * q + a = n → a = n % m := fun a ha0 ha1 q hq => by
    rw [← hq, Int.mul_add_emod_self_left, Int.emod_eq_of_lt ha0 ha1]
  split
  · rename_i hneg
    refine key _ (by omega) (by omega) (Int.tdiv n m - 1) ?_
    rw [Int.mul_sub]
    omega
  · rename_i hneg
    exact key _ (by omega) (by omega) (Int.tdiv n m) (by omega)
theorem brought_c {w : World} {n m : Int} {R : Ending → World → Prop} (h1 : 1 ≤ m) (h2 : m ≤ 1000000000000) (h : R (.returned (.int .i64 (n % m))) w) : GoC Try.prog F_law06_brought #[.int .i64 n, .int .i64 m] w R := by
  refine S_law06_brought ?_
  unfold W_law06_brought
  have hm : 0 < m := by omega
  have h3 := Int.lt_tmod_of_pos n hm
  have h4 := Int.tmod_lt_of_pos n hm
  have hb := tmod_brought (n := n) hm
  refine ⟨by omega, cond_d (fun hn => ?_) (fun hn => ?_)⟩
  · rw [if_pos hn] at hb
    rw [wrap_i64 (by omega) (by omega), hb]
    exact h
  · rw [if_neg hn] at hb
    rw [hb]
    exact h
theorem emod_in (n : Int) {m : Int} (hm : 1 ≤ m) : 0 ≤ n % m ∧ n % m < m := ⟨Int.emod_nonneg n (by omega), Int.emod_lt_of_pos n (by omega)⟩
theorem dot_c {w : World} {p i n : Int} {R : Ending → World → Prop} (h1 : 1 ≤ n) (h2 : n ≤ 1000) (h : ∀ w', Kp no w w' → R (.returned (.agg #[.int .i64 (p % 64), .int .i64 (i % n)])) w') : GoC Try.prog F_law06_dot #[.agg #[.int .i64 p, .int .i64 i], .int .i64 n] w R := by
  refine S_law06_dot ?_
  unfold W_law06_dot
  refine Loc.al (Kp.refl _ w) fun b1 w1 h1' k1 g1 => Loc.al h1'.kp fun b2 w2 h2' k2 g2 => ?_
  have h12 := h1'.kp' k2
  have h22 : Loc w w2 b2 #[.int .i64 0, .int .i64 0] T_api_Slot := h2'
  have kd : Kp no w2 w2.drew := Kp.drew w2 1
  have hne : b1 ≠ b2 := by have := h1'.blk.lt; omega
  have x1 := kd.blk h12.blk id
  refine ⟨fun w' => Blk w' b1 #[.int .i64 p, .int .i64 i] T_api_Slot, x1, _, fun w' hw => hw.at rfl rfl, _, fun w' hw => hw.at rfl rfl, ?_⟩
  refine brought_c (by omega) (by omega) ⟨_, rfl, x1, brought_c h1 (by omega) ⟨_, rfl, x1, ?_⟩⟩
  have h23 := h22.kp' kd
  refine h23.st rfl (by simp) fun w3 h24 k3 => h24.st (by rfl) (by simp) fun w4 h25 k4 => ?_
  have y := k4.blk (k3.blk x1 hne) hne
  exact ⟨y, _, _, ⟨h25.at rfl rfl, h25.at rfl rfl, trivial⟩, h w4 h25.kp⟩

def ptV (m : Mm) (next : Int) : Array Value := #[.slice m.la m.ll m.lc, .slice m.da m.dl m.dc, .int .i64 next]
def ltx (last : Int) : List LV → Int
  | [] => last
  | x :: r => ltx x.tx r
def lpg (page : Int) : List DV → Int
  | [] => page
  | x :: r => lpg x.page r
theorem ltx_snoc : ∀ (L : List LV) (last : Int) (x : LV), ltx last (L ++ [x]) = x.tx
  | [], _, _ => rfl
  | y :: r, _, x => ltx_snoc r y.tx x
theorem lpg_snoc : ∀ (L : List DV) (page : Int) (x : DV), lpg page (L ++ [x]) = x.page
  | [], _, _ => rfl
  | y :: r, _, x => lpg_snoc r y.page x
theorem liB_snoc (next lsn : Int) : ∀ (L : List LV) (last : Int) (x : LV), liB next lsn last L = true → ltx last L < x.tx → x.tx < next → 1 ≤ x.last → x.last ≤ 2147483647 → belB x.last lsn = true → (x.c && x.u) = false → liB next lsn last (L ++ [x]) = true
  | [], last, x, _, h1, h2, h3, h4, h5, h6 => by
    have h1 : last < x.tx := h1
    simp [liB, h1, h2, inB, h3, h4, h5]
    cases hc : x.c <;> cases hu : x.u <;> simp_all
  | y :: r, last, x, h, h1, h2, h3, h4, h5, h6 => by
    rw [liB] at h
    rw [List.cons_append, liB]
    simp only [Bool.and_eq_true] at h ⊢
    exact ⟨h.1, liB_snoc next lsn r y.tx x h.2 h1 h2 h3 h4 h5 h6⟩
theorem diB_snoc (lsn : Int) : ∀ (L : List DV) (page : Int) (x : DV), diB lsn page L = true → lpg page L < x.page → x.page < 64 → 1 ≤ x.since → x.since ≤ 2147483647 → belB x.since lsn = true → diB lsn page (L ++ [x]) = true
  | [], page, x, _, h1, h2, h3, h4, h5 => by
    have h1 : page < x.page := h1
    simp [diB, h1, h2, inB, h3, h4, h5]
  | y :: r, page, x, h, h1, h2, h3, h4, h5 => by
    rw [diB] at h
    rw [List.cons_append, diB]
    simp only [Bool.and_eq_true] at h ⊢
    exact ⟨h.1, diB_snoc lsn r y.page x h.2 h1 h2 h3 h4 h5⟩
/-- points' boxes. -/
structure Pp (w0 w : World) (ow : Nat → Nat) (b1 b2 b3 : Nat) (m : Mm) (next : Int) (q : Mm) (nx : Int) (L : List LV) (D : List DV) : Prop where
  old : Old w0 w ow
  x1 : Blk w b1 (ptV m next) T_api_Points
  t1 : ow b1 = 6
  x2 : Blk w b2 (ptV {} 0) T_api_Points
  t2 : ow b2 = 6
  x3 : Blk w b3 (ptV q nx) T_api_Points
  t3 : ow b3 = 7
  lv : SlT w ow T_api_Live 4 q.la q.ll q.lc (flatV LV.cs L) 4
  dv : SlT w ow T_api_Dirty 2 q.da q.dl q.dc (flatV DV.cs D) 5
  ll : q.ll = L.length
  dl : q.dl = D.length
theorem Pp.fr {T : Nat → Prop} {w0 w w' : World} {ow ow' : Nat → Nat} {b1 b2 b3 : Nat} {m q : Mm} {next nx : Int} {L : List LV} {D : List DV} (h : Pp w0 w ow b1 b2 b3 m next q nx L D) (f : Fro T w ow w' ow') (h0 : T 0) (h4 : T 4) (h5 : T 5) (h6 : T 6) (h7 : T 7) : Pp w0 w' ow' b1 b2 b3 m next q nx L D := by
  obtain ⟨a1, a2⟩ := blk_fr h.x1 h.t1 f h6
  obtain ⟨a3, a4⟩ := blk_fr h.x2 h.t2 f h6
  obtain ⟨a5, a6⟩ := blk_fr h.x3 h.t3 f h7
  exact ⟨h.old.fr f h0, a1, a2, a3, a4, a5, a6, h.lv.fr f h4, h.dv.fr f h5, h.ll, h.dl⟩

set_option maxHeartbeats 4000000 in
theorem points_c {w : World} {m : Mm} {L : List LV} {D : List DV} {next lsn : Int} {R : Ending → World → Prop} (hi : LiIn w m L D) (h1 : 1 ≤ lsn) (h2 : lsn ≤ 100000)
    (h : ∀ (q : Mm) (nx : Int) (L' : List LV) (D' : List DV) (w' : World), Kp no w w' → OwnL w w' { live := L', dirty := D' } q → 1 ≤ nx → nx ≤ 1048576 → liB nx lsn 0 L' = true → diB lsn (-1) D' = true → L'.length ≤ 32 → D'.length ≤ 16 → (lsn = 1 → L' = [] ∧ D' = []) → R (.returned (.agg (ptV q nx))) w') :
    GoC Try.prog F_law06_points #[.agg (ptV m next), .int .i64 lsn] w R := by
  refine S_law06_points ?_
  unfold W_law06_points
  have hll := hi.ll
  have hdl := hi.dl
  have hlb := hi.lb
  have hdb := hi.db
  have wi : ∀ x : Nat, x ≤ 100000 → IntKind.wrap .i64 ((x : Int) + 1) = ((x + 1 : Nat) : Int) := fun x hx => by rw [wrap_i64 (by omega) (by omega)]; omega
  refine AlF.intro fun b1 w1 hb1e hb1 k1 _ => AlF.intro fun b2 w2 hb2e hb2 k2 _ => ?_
  have hb1 : Blk w2 b1 (ptV m next) T_api_Points := k2.blk hb1 id
  have hb2 : Blk w2 b2 (ptV {} 0) T_api_Points := hb2
  have k12 := k1.trans0 k2
  refine ⟨_, hb1.at (add1 _ _) rfl, brought_c (by omega) (by omega) ⟨_, rfl, ?_⟩⟩
  have hnx := emod_in next (m := 1048576) (by omega)
  rw [wrap_i64 (x := 1 + next % 1048576) (by omega) (by omega)]
  generalize hnxe : 1 + next % 1048576 = nx at *
  have o2 : Old w w2 (ext (fun _ => 0) w.heap.size 6) := (⟨Kp.refl _ _, fun _ _ => rfl⟩ : Old w w fun _ => 0).fr (Fro.of_kp0 (T := fun _ => True) 6 k12) trivial
  have t1 : ext (fun _ => 0) w.heap.size 6 b1 = 6 := ext_new (by omega)
  have t2 : ext (fun _ => 0) w.heap.size 6 b2 = 6 := ext_new (by have := k1.size; omega)
  generalize ext (fun _ => 0) w.heap.size 6 = ow2 at *
  refine AlF.intro fun b3 w3 hb3e hb3 k3 _ => ?_
  have f3 : Fro (fun _ => True) w2 ow2 w3 (ext ow2 w2.heap.size 7) := Fro.of_kp0 7 k3
  have t3 : ext ow2 w2.heap.size 7 b3 = 7 := ext_new (by omega)
  have o3 := o2.fr f3 trivial
  obtain ⟨hb13, t13⟩ := blk_fr hb1 t1 f3 trivial
  obtain ⟨hb23, t23⟩ := blk_fr hb2 t2 f3 trivial
  generalize ext ow2 w2.heap.size 7 = ow3 at *
  refine StF.at rfl hb3 (by simp) fun w4 hb4 k4 _ => StF.at (add1 _ _) hb4 (by simp) fun w5 hb5 k5 _ => StF.at (add1 _ _) hb5 (by simp) fun w6 hb6 k6 _ => ?_
  have k36 := (k4.trans0 k5).trans0 k6
  have f6 : Fro (fun u => u ≠ 7) w3 ow3 w6 ow3 := Fro.of_kp' k36 fun j _ hj hne => hne (by rw [hj]; exact t3)
  have o6 := o3.fr f6 (by omega)
  obtain ⟨hb16, t16⟩ := blk_fr hb13 t13 f6 (by omega)
  obtain ⟨hb26, t26⟩ := blk_fr hb23 t23 f6 (by omega)
  have P6 : Pp w w6 ow3 b1 b2 b3 m next {} nx [] [] := ⟨o6, hb16, t16, hb26, t26, hb6, t3, slt_nil _ _ _ _ _, slt_nil _ _ _ _ _, rfl, rfl⟩
  have belL : ∀ x : Int, lsn > 1 → belB (1 + x % (lsn - 1)) lsn = true := fun x hl => by
    have := emod_in x (m := lsn - 1) (by omega)
    unfold belB
    exact decide_eq_true (.inr (by omega))
  -- the live ones
  refine ⟨fun _ w' => ∃ ow q L', Pp w w' ow b1 b2 b3 m next q nx L' [] ∧ L'.length ≤ 32 ∧ liB nx lsn 0 L' = true ∧ (lsn = 1 → L' = []), ?_, ?_⟩
  · refine loopN (fun s w' => ∃ i : Nat, i ≤ 32 ∧ s.2.1 = (i : Int) ∧ ∃ ow q L', Pp w w' ow b1 b2 b3 m next q nx L' [] ∧ L'.length ≤ i ∧ liB nx lsn 0 L' = true ∧ (lsn = 1 → L' = []) ∧ ltx 0 L' ≤ s.1 ∧ 0 ≤ s.1 ∧ s.1 ≤ 5 * (i : Int)) (fun s _ => 32 - s.2.1.toNat)
      ⟨0, by omega, rfl, ow3, {}, [], P6, Nat.le_refl _, rfl, fun _ => rfl, Int.le_refl _, Int.le_refl _, by omega⟩ ?_
    rintro ⟨tx, i0, u⟩ w7 ⟨i, hi32, hi0, ow7, q, L', P7, hLi, hLB, hL1, hlt, htx0, htx1⟩ _
    dsimp only at hi0 hlt htx0 htx1 ⊢
    subst hi0
    have fin : ∃ ow q L', Pp w w7 ow b1 b2 b3 m next q nx L' [] ∧ L'.length ≤ 32 ∧ liB nx lsn 0 L' = true ∧ (lsn = 1 → L' = []) := ⟨ow7, q, L', P7, by omega, hLB, hL1⟩
    refine ⟨_, _, _, P7.x1.at rfl rfl, cond_d (fun hlt2 => cond_d (fun h32 => cond_d (fun hl1 => ?_) (fun _ => fin)) (fun _ => fin)) (fun _ => fin)⟩
    have hkl : i < L.length := by omega
    refine ⟨_, _, _, P7.x1.at rfl rfl, rd_el LV.csl (by omega) (hi.kp0 P7.old.kp).l hkl hll fun b o ha hc => ?_⟩
    have cell : ∀ j v, (L[i]).cs[j]? = some v → w7.cell? (Addr.add ((⟨b, o, none⟩ : Addr).add (Int.toNat (i : Int) * 4)) j) = some v := fun j v hv => by
      rw [Int.toNat_natCast, add_at, add_at]; exact hc j v hv
    have cell0 : w7.cell? ((⟨b, o, none⟩ : Addr).add (Int.toNat (i : Int) * 4)) = some (.int .i64 (L[i]).tx) := by
      rw [Int.toNat_natCast, add_at]; exact hc 0 _ rfl
    refine ⟨_, _, _, _, ⟨cell0, cell 1 _ rfl, cell 2 _ rfl, cell 3 _ rfl, trivial⟩, ?_⟩
    refine AlF.intro fun b4 w8 hb4e hb4 k8 _ => ?_
    have f8 : Fro (fun _ => True) w7 ow7 w8 (ext ow7 w7.heap.size 1) := Fro.of_kp0 1 k8
    have t4 : ext ow7 w7.heap.size 1 b4 = 1 := ext_new (by omega)
    have P8 := P7.fr f8 trivial trivial trivial trivial trivial
    generalize ext ow7 w7.heap.size 1 = ow8 at *
    refine StF.at rfl hb4 (by simp) fun w9 hb9 k9 _ => StF.at (add1 _ _) hb9 (by simp) fun w10 hb10 k10 _ => StF.at (add1 _ _) hb10 (by simp) fun w11 hb11 k11 _ => StF.at (add1 _ _) hb11 (by simp) fun w12 hb12 k12' _ => ?_
    have kk := ((k9.trans0 k10).trans0 k11).trans0 k12'
    have f12 : Fro (fun u => u ≠ 1) w8 ow8 w12 ow8 := Fro.of_kp' kk fun j _ hj hne => hne (by rw [hj]; exact t4)
    have P12 := P8.fr f12 (by omega) (by omega) (by omega) (by omega) (by omega)
    have hb12 : Blk w12 b4 #[.int .i64 (L[i]).tx, .int .i64 (L[i]).last, .bool (L[i]).c, .bool (L[i]).u] T_api_Live := hb12
    refine ⟨_, hb12.at rfl rfl, brought_c (by omega) (by omega) ⟨_, rfl, _, P12.x3.at (add1 _ _) rfl, ?_⟩⟩
    have h5 := emod_in (L[i]).tx (m := 5) (by omega)
    have e1 : IntKind.wrap .i64 (IntKind.wrap .i64 (tx + 1) + (L[i]).tx % 5) = tx + 1 + (L[i]).tx % 5 := by rw [wrap_i64 (x := tx + 1) (by omega) (by omega), wrap_i64 (by omega) (by omega)]
    rw [e1, wi i (by omega)]
    have dec : 32 - (((i + 1 : Nat) : Int)).toNat < 32 - ((i : Nat) : Int).toNat := by simp only [Int.toNat_natCast]; omega
    refine cond_d (fun hnx2 => ?_) (fun hnx2 => ⟨⟨i + 1, by omega, rfl, ow8, q, L', P12, by omega, hLB, hL1, by omega, by omega, by omega⟩, dec⟩)
    have kd : Kp no w12 w12.drew := Kp.drew w12 1
    have fd : Fro (fun _ => True) w12 ow8 w12.drew ow8 := Fro.kp0 kd
    have P13 := P12.fr fd trivial trivial trivial trivial trivial
    have hb13' := kd.blk hb12 id
    refine ⟨fun w' => Blk w' b3 (ptV q nx) T_api_Points ∧ Blk w' b4 #[.int .i64 (L[i]).tx, .int .i64 (L[i]).last, .bool (L[i]).c, .bool (L[i]).u] T_api_Live, ⟨P13.x3, hb13'⟩, _, _, _, fun w' hw => hw.1.at rfl rfl, _, fun w' hw => hw.2.at (add1 _ _) rfl, _, fun w' hw => hw.2.at (add1 _ _) rfl, _, fun w' hw => hw.2.at (add1 _ _) rfl, ?_⟩
    rw [wrap_i64 (x := lsn - 1) (by omega) (by omega)]
    refine brought_c (by omega) (by omega) ⟨_, rfl, ⟨P13.x3, hb13'⟩, ?_⟩
    have hls := emod_in (L[i]).last (m := lsn - 1) (by omega)
    rw [wrap_i64 (x := 1 + (L[i]).last % (lsn - 1)) (by omega) (by omega)]
    -- one more
    have more : ∀ (x : LV), x.tx = tx + 1 + (L[i]).tx % 5 → x.last = 1 + (L[i]).last % (lsn - 1) → (x.c && x.u) = false →
        AlF w12.drew (.cells #[.int .i64 x.tx, .int .i64 x.last, .bool x.c, .bool x.u] T_api_Live) fun b5 w16 => (Blk w16 b3 (ptV q nx) T_api_Points ∧ Blk w16 b4 #[.int .i64 (L[i]).tx, .int .i64 (L[i]).last, .bool (L[i]).c, .bool (L[i]).u] T_api_Live) ∧ RunF Try.prog (Builtin.append_ #[T_s_api_Live, T_s_api_Live] T_s_api_Live #[.slice q.la q.ll q.lc, .slice (some ⟨b5, 0, none⟩) 1 1]) w16 fun r4 w17 => ∃ (a6 : Option Addr) (l6 c6 : Nat), r4 = .slice a6 l6 c6 ∧ (Blk w17 b3 (ptV q nx) T_api_Points ∧ Blk w17 b4 #[.int .i64 (L[i]).tx, .int .i64 (L[i]).last, .bool (L[i]).c, .bool (L[i]).u] T_api_Live) ∧ StF w17 ⟨b3, 0, none⟩ (.slice a6 l6 c6) fun w18 => ((∃ i' : Nat, i' ≤ 32 ∧ ((i + 1 : Nat) : Int) = (i' : Int) ∧ ∃ ow q L', Pp w w18 ow b1 b2 b3 m next q nx L' [] ∧ L'.length ≤ i' ∧ liB nx lsn 0 L' = true ∧ (lsn = 1 → L' = []) ∧ ltx 0 L' ≤ tx + 1 + (L[i]).tx % 5 ∧ 0 ≤ tx + 1 + (L[i]).tx % 5 ∧ tx + 1 + (L[i]).tx % 5 ≤ 5 * (i' : Int)) ∧ 32 - (((i + 1 : Nat) : Int)).toNat < 32 - ((i : Nat) : Int).toNat) := fun x x1 x2 x3 => by
      refine AlF.intro fun b5 w16 hb5e hb5 k16 _ => ?_
      have f16 : Fro (fun _ => True) w12.drew ow8 w16 (ext ow8 w12.drew.heap.size 1) := Fro.of_kp0 1 k16
      have P16 := P13.fr f16 trivial trivial trivial trivial trivial
      obtain ⟨hb16', t16'⟩ := blk_fr hb13' t4 f16 trivial
      generalize ext ow8 w12.drew.heap.size 1 = ow16 at *
      have hql := P16.ll
      refine ⟨⟨P16.x3, hb16'⟩, app_c er_lv P16.lv (rd_cells hb5 (rfl : _ = LV.cs x)) (by rfl) (fun h => by cases h) (LV.cs1 x) (by omega) (by omega) fun a6 c6 w17 hs17 k17 f17 => ⟨_, _, _, rfl, ?_⟩⟩
      have P17o := P16.old.fr f17 (by omega)
      obtain ⟨y1, ty1⟩ := blk_fr P16.x1 P16.t1 f17 (by omega)
      obtain ⟨y2, ty2⟩ := blk_fr P16.x2 P16.t2 f17 (by omega)
      obtain ⟨y3, ty3⟩ := blk_fr P16.x3 P16.t3 f17 (by omega)
      obtain ⟨hb17', _⟩ := blk_fr hb16' t16' f17 (by omega)
      have dv17 := P16.dv.fr f17 (by omega)
      generalize ext ow16 w16.heap.size 4 = ow17 at *
      refine ⟨⟨y3, hb17'⟩, StF.at rfl y3 (Nat.le_of_ble_eq_true rfl) fun w18 hb18 k18 _ => ?_⟩
      have f18 : Fro (fun u => u ≠ 7) w17 ow17 w18 ow17 := Fro.of_kp' k18 fun j _ hj hne => hne (by rw [hj]; exact ty3)
      obtain ⟨z1, tz1⟩ := blk_fr y1 ty1 f18 (by omega)
      obtain ⟨z2, tz2⟩ := blk_fr y2 ty2 f18 (by omega)
      have hfl : flatV LV.cs (L' ++ [x]) = flatV LV.cs L' ++ LV.cs x := by rw [flatV_app]; simp [flatV]
      refine ⟨⟨i + 1, by omega, rfl, ow17, { q with la := a6, ll := q.ll + 1, lc := c6 }, L' ++ [x], ⟨P17o.fr f18 (by omega), z1, tz1, z2, tz2, hb18, ty3, by rw [hfl]; exact hs17.fr f18 (by omega), dv17.fr f18 (by omega), by simp [hql], P16.dl⟩, by simp; omega, liB_snoc nx lsn L' 0 x hLB (by omega) (by omega) (by omega) (by omega) (by rw [x2]; exact belL _ hl1) x3, fun hl => by omega, by rw [ltx_snoc]; omega, by omega, by omega⟩, dec⟩
    refine cond_b (fun hq4 => ⟨_, fun w' hw => hw.2.at (add1 _ _) rfl, ?_⟩) (fun hq4 => ?_)
    · exact more ⟨tx + 1 + (L[i]).tx % 5, 1 + (L[i]).last % (lsn - 1), (L[i]).c, !(L[i]).c⟩ rfl rfl (by cases (L[i]).c <;> rfl)
    · exact more ⟨tx + 1 + (L[i]).tx % 5, 1 + (L[i]).last % (lsn - 1), (L[i]).c, false⟩ rfl rfl (by cases (L[i]).c <;> rfl)
  rintro _ w7 ⟨ow7, q, L', P7, hL32, hLB, hL1⟩ _
  -- the dirty ones
  refine ⟨fun _ w' => ∃ ow q D', Pp w w' ow b1 b2 b3 m next q nx L' D' ∧ D'.length ≤ 16 ∧ diB lsn (-1) D' = true ∧ (lsn = 1 → D' = []), ?_, ?_⟩
  · refine loopN (fun s w' => ∃ i : Nat, i ≤ 16 ∧ s.2.1 = (i : Int) ∧ ∃ ow q D', Pp w w' ow b1 b2 b3 m next q nx L' D' ∧ D'.length ≤ i ∧ diB lsn (-1) D' = true ∧ (lsn = 1 → D' = []) ∧ lpg (-1) D' ≤ s.1 ∧ -1 ≤ s.1 ∧ s.1 ≤ 4 * (i : Int)) (fun s _ => 16 - s.2.1.toNat)
      ⟨0, by omega, rfl, ow7, q, [], P7, Nat.le_refl _, rfl, fun _ => rfl, Int.le_refl _, Int.le_refl _, by omega⟩ ?_
    rintro ⟨pg, i0, u⟩ w8 ⟨i, hi16, hi0, ow8, q, D', P8, hDi, hDB, hD1, hlt, hpg0, hpg1⟩ _
    dsimp only at hi0 hlt hpg0 hpg1 ⊢
    subst hi0
    have fin : ∃ ow q D', Pp w w8 ow b1 b2 b3 m next q nx L' D' ∧ D'.length ≤ 16 ∧ diB lsn (-1) D' = true ∧ (lsn = 1 → D' = []) := ⟨ow8, q, D', P8, by omega, hDB, hD1⟩
    refine ⟨_, _, _, P8.x1.at (add1 _ _) rfl, cond_d (fun hlt2 => cond_d (fun h16 => cond_d (fun hl1 => ?_) (fun _ => fin)) (fun _ => fin)) (fun _ => fin)⟩
    have hkl : i < D.length := by omega
    refine ⟨_, _, _, P8.x1.at (add1 _ _) rfl, rd_el DV.csl (by omega) (hi.kp0 P8.old.kp).d hkl hdl fun b o ha hc => ?_⟩
    have cell0 : w8.cell? ((⟨b, o, none⟩ : Addr).add (Int.toNat (i : Int) * 2)) = some (.int .i64 (D[i]).page) := by
      rw [Int.toNat_natCast, add_at]; exact hc 0 _ rfl
    refine ⟨_, cell0, brought_c (by omega) (by omega) ⟨_, rfl, ?_⟩⟩
    have h4 := emod_in (D[i]).page (m := 4) (by omega)
    have e1 : IntKind.wrap .i64 (IntKind.wrap .i64 (pg + 1) + (D[i]).page % 4) = pg + 1 + (D[i]).page % 4 := by rw [wrap_i64 (x := pg + 1) (by omega) (by omega), wrap_i64 (by omega) (by omega)]
    rw [e1, wi i (by omega)]
    have dec : 16 - (((i + 1 : Nat) : Int)).toNat < 16 - ((i : Nat) : Int).toNat := by simp only [Int.toNat_natCast]; omega
    refine cond_d (fun h64 => ?_) (fun h64 => ⟨⟨i + 1, by omega, rfl, ow8, q, D', P8, by omega, hDB, hD1, by omega, by omega, by omega⟩, dec⟩)
    have kd : Kp no w8 w8.drew := Kp.drew w8 1
    have fd : Fro (fun _ => True) w8 ow8 w8.drew ow8 := Fro.kp0 kd
    have P9 := P8.fr fd trivial trivial trivial trivial trivial
    have li9 := hi.kp0 P9.old.kp
    refine ⟨fun w' => Blk w' b3 (ptV q nx) T_api_Points ∧ Blk w' b1 (ptV m next) T_api_Points ∧ Rd w' m.da (flatV DV.cs D), ⟨P9.x3, P9.x1, li9.d⟩, _, _, _, fun w' hw => hw.1.at (add1 _ _) rfl, _, _, _, fun w' hw => hw.2.1.at (add1 _ _) rfl, ?_⟩
    refine rd_el DV.csl (by omega) li9.d hkl hdl fun b' o' ha' hc' => ?_
    rw [ha] at ha'
    cases ha'
    have cellS : ∀ w', Rd w' m.da (flatV DV.cs D) → w'.cell? (Addr.add ((⟨b, o, none⟩ : Addr).add (Int.toNat (i : Int) * 2)) 1) = some (.int .i64 (D[i]).since) := fun w' hw => by
      have hq := flatV_get DV.csl D i hkl 1 (by omega)
      obtain ⟨b'', o'', ha'', hcc⟩ := hw (i * 2 + 1) _ (by rw [hq]; rfl)
      rw [ha] at ha''
      cases ha''
      rw [Int.toNat_natCast, add_at, add_at, Nat.add_assoc]
      exact hcc
    refine ⟨_, fun w' hw => cellS w' hw.2.2, ?_⟩
    rw [wrap_i64 (x := lsn - 1) (by omega) (by omega)]
    refine brought_c (by omega) (by omega) ⟨_, rfl, ⟨P9.x3, P9.x1, li9.d⟩, ?_⟩
    have hls := emod_in (D[i]).since (m := lsn - 1) (by omega)
    rw [wrap_i64 (x := 1 + (D[i]).since % (lsn - 1)) (by omega) (by omega)]
    refine AlF.intro fun b5 w16 hb5e hb5 k16 _ => ?_
    have f16 : Fro (fun _ => True) w8.drew ow8 w16 (ext ow8 w8.drew.heap.size 1) := Fro.of_kp0 1 k16
    have P16 := P9.fr f16 trivial trivial trivial trivial trivial
    generalize ext ow8 w8.drew.heap.size 1 = ow16 at *
    have hql := P16.dl
    refine ⟨⟨P16.x3, P16.x1, (hi.kp0 P16.old.kp).d⟩, app_c er_dv P16.dv (rd_cells hb5 (rfl : _ = DV.cs ⟨pg + 1 + (D[i]).page % 4, 1 + (D[i]).since % (lsn - 1)⟩)) (by rfl) (fun h => by cases h) (DV.cs1 _) (by omega) (by omega) fun a6 c6 w17 hs17 k17 f17 => ⟨_, _, _, rfl, ?_⟩⟩
    have P17o := P16.old.fr f17 (by omega)
    obtain ⟨y1, ty1⟩ := blk_fr P16.x1 P16.t1 f17 (by omega)
    obtain ⟨y2, ty2⟩ := blk_fr P16.x2 P16.t2 f17 (by omega)
    obtain ⟨y3, ty3⟩ := blk_fr P16.x3 P16.t3 f17 (by omega)
    have lv17 := P16.lv.fr f17 (by omega)
    generalize ext ow16 w16.heap.size 5 = ow17 at *
    refine ⟨⟨y3, y1, (hi.kp0 P17o.kp).d⟩, StF.at (add1 _ _) y3 (Nat.le_of_ble_eq_true rfl) fun w18 hb18 k18 _ => ?_⟩
    have f18 : Fro (fun u => u ≠ 7) w17 ow17 w18 ow17 := Fro.of_kp' k18 fun j _ hj hne => hne (by rw [hj]; exact ty3)
    obtain ⟨z1, tz1⟩ := blk_fr y1 ty1 f18 (by omega)
    obtain ⟨z2, tz2⟩ := blk_fr y2 ty2 f18 (by omega)
    have hfl : flatV DV.cs (D' ++ [⟨pg + 1 + (D[i]).page % 4, 1 + (D[i]).since % (lsn - 1)⟩]) = flatV DV.cs D' ++ DV.cs ⟨pg + 1 + (D[i]).page % 4, 1 + (D[i]).since % (lsn - 1)⟩ := by rw [flatV_app]; simp [flatV]
    refine ⟨⟨i + 1, by omega, rfl, ow17, { q with da := a6, dl := q.dl + 1, dc := c6 }, D' ++ [⟨pg + 1 + (D[i]).page % 4, 1 + (D[i]).since % (lsn - 1)⟩], ⟨P17o.fr f18 (by omega), z1, tz1, z2, tz2, hb18, ty3, lv17.fr f18 (by omega), by rw [hfl]; exact hs17.fr f18 (by omega), P16.ll, by simp [hql]⟩, by simp; omega, diB_snoc lsn D' (-1) _ hDB (by dsimp only; omega) (by dsimp only; omega) (by dsimp only; omega) (by dsimp only; omega) (belL _ hl1), fun hl => by omega, by rw [lpg_snoc]; exact Int.le_refl _, by omega, by omega⟩, dec⟩
  rintro _ w8 ⟨ow8, q, D', P8, hD16, hDB, hD1⟩ _
  refine ⟨_, _, _, _, _, _, _, ⟨P8.x3.at rfl rfl, P8.x3.at (add1 _ _) rfl, P8.x3.at (add1 _ _) rfl, trivial⟩, ?_⟩
  refine StF.at rfl P8.x2 (Nat.le_of_ble_eq_true rfl) fun w9 hb9 k9 _ => StF.at (add1 _ _) hb9 (Nat.le_of_ble_eq_true rfl) fun w10 hb10 k10 _ => StF.at (add1 _ _) hb10 (Nat.le_of_ble_eq_true rfl) fun w11 hb11 k11 _ => ?_
  have hb11 : Blk w11 b2 (ptV q nx) T_api_Points := hb11
  have kk := (k9.trans0 k10).trans0 k11
  have f11 : Fro (fun u => u ≠ 6) w8 ow8 w11 ow8 := Fro.of_kp' kk fun j _ hj hne => hne (by rw [hj]; exact P8.t2)
  have o11 := P8.old.fr f11 (by omega)
  have lv := P8.lv.fr f11 (by omega)
  have dv := P8.dv.fr f11 (by omega)
  refine ⟨_, _, _, _, _, _, _, ⟨hb11.at rfl rfl, hb11.at (add1 _ _) rfl, hb11.at (add1 _ _) rfl, trivial⟩, ?_⟩
  have nw : ∀ (a : Option Addr) (t : Nat), t ≠ 0 → Tg ow8 t (Is a) → Fresh w a := fun a t h0 ht k hk => by
    apply Nat.le_of_not_lt
    intro hlt
    have := o11.z k hlt
    rw [ht k hk] at this
    exact h0 this
  refine h q nx L' D' w11 o11.kp ⟨by rw [← P8.ll]; exact lv.sl, by rw [← P8.dl]; exact dv.sl, P8.ll, P8.dl, nw _ 4 (by decide) lv.tg, nw _ 5 (by decide) dv.tg, fun k hk1 hk2 => ?_⟩ (by omega) (by omega) hLB hDB hL32 hD16 fun hl => ⟨hL1 hl, hD1 hl⟩
  have := lv.tg k hk1
  have := dv.tg k hk2
  omega
end Go.Proofs.Ytkfdkcclojepnaa

/- Layer 6: the statements' made. Conditions: none. -/
set_option linter.unusedVariables false
set_option linter.unusedSimpArgs false
namespace Go.Proofs.Ytkfdkcclojepnaa
open Go Go.RowKit

theorem and_t {a b : Bool} (h1 : a = true) (h2 : b = true) : (a && b) = true := by rw [h1, h2]; rfl
theorem i64_0 : i64 0 := by decide
/-- made's boxes: what came in, what goes out, what is made. -/
structure Md (w0 w : World) (b1 b2 b3 : Nat) (r : RV) (m : Mm) (q : RV) : Prop where
  kp : Kp no w0 w
  x1 : Blk w b1 (r.ca m) T_api_Record
  x2 : Blk w b2 (({} : RV).ca {}) T_api_Record
  x3 : Blk w b3 (q.ca {}) T_api_Record
  n2 : w0.heap.size ≤ b2
  n3 : w0.heap.size ≤ b3
  e1 : b1 ≠ b3
  e2 : b2 ≠ b3
theorem Md.kp0 {w0 w w' : World} {b1 b2 b3 : Nat} {r q : RV} {m : Mm} (h : Md w0 w b1 b2 b3 r m q) (k : Kp no w w') : Md w0 w' b1 b2 b3 r m q :=
  ⟨h.kp.trans0 k, k.blk h.x1 id, k.blk h.x2 id, k.blk h.x3 id, h.n2, h.n3, h.e1, h.e2⟩
theorem Md.st {w0 w : World} {b1 b2 b3 o : Nat} {r q : RV} {m : Mm} {ad : Addr} {v : Value} {K : World → Prop} (h : Md w0 w b1 b2 b3 r m q) (q' : RV) (had : ad = ⟨b3, o, none⟩) (ho : o < 17) (he : (q.ca {}).setIfInBounds o v = q'.ca {})
    (hk : ∀ w', Md w0 w' b1 b2 b3 r m q' → Kp (fun j => j = b3) w w' → K w') : StF w ad v K :=
  StF.at had h.x3 ho fun w' hb' k' _ => hk w' ⟨kp_blk h.kp h.n3 k', k'.blk h.x1 h.e1, k'.blk h.x2 h.e2, he ▸ hb', h.n2, h.n3, h.e1, h.e2⟩ k'
/-- What has been laid by kind. -/
def P20 (K T tx dl i g lo hi va : Int) : Prop :=
  (K = 2 → tx = 0 ∧ dl = 0 ∧ (1 ≤ i ∧ i ≤ 1048576) ∧ (1 ≤ g ∧ g ≤ 1048576) ∧ lo ≤ va ∧ va ≤ hi) ∧
  ((K = 3 ∨ K = 4) → tx = T ∧ (1 ≤ i ∧ i ≤ 1048576) ∧ g = 0 ∧ lo = 0 ∧ hi = 0 ∧ va = 0) ∧
  (K ≠ 2 → K ≠ 3 → K ≠ 4 → tx = T ∧ dl = 0 ∧ i = 0 ∧ g = 0 ∧ lo = 0 ∧ hi = 0 ∧ va = 0) ∧ i64 dl ∧ i64 lo ∧ i64 hi ∧ i64 va
def P25 (K wp wi sp si : Int) : Prop := ((K = 2 ∨ K = 3 ∨ K = 4) → slB wp wi sp si = true) ∧ (K ≠ 2 → K ≠ 3 → K ≠ 4 → wp = 0 ∧ wi = 0 ∧ sp = 0 ∧ si = 0)
def P27 (K lsn pv : Int) : Prop := ((K = 1 ∨ K = 2) → pv = 0) ∧ (K ≠ 1 → K ≠ 2 → 1 ≤ pv ∧ pv < lsn)
theorem made_chk {K T lsn tx dl i g lo hi va wp wi sp si pv : Int} (hK : 1 ≤ K ∧ K ≤ 7) (hT : 1 ≤ T ∧ T ≤ 1048576) (hl : 1 ≤ lsn ∧ lsn ≤ 100000) (p20 : P20 K T tx dl i g lo hi va) (p25 : P25 K wp wi sp si) (p27 : P27 K lsn pv) :
    chkN { lsn := lsn, kind := K, tx := tx, prev := pv, wp := wp, wi := wi, sp := sp, si := si, delta := dl, id := i, grp := g, lo := lo, hi := hi, val := va } = 0 := by
  obtain ⟨a1, a2, a3, _⟩ := p20
  obtain ⟨b1, b2⟩ := p25
  obtain ⟨c1, c2⟩ := p27
  unfold chkN
  rw [if_neg (by dsimp only; omega), if_pos]
  unfold okB
  dsimp only
  refine and_t (inB_iff.2 (by omega)) ?_
  by_cases h2 : K = 2
  · obtain ⟨x1, x2, x3, x4, x5, x6⟩ := a1 h2
    have x7 := c1 (.inr h2)
    rw [if_pos h2]
    exact and_t (and_t (and_t (and_t (b1 (.inl h2)) (inB_iff.2 x3)) (inB_iff.2 x4)) (decide_eq_true ⟨x5, x6⟩)) (decide_eq_true ⟨x1, x7, x2, rfl, rfl, rfl⟩)
  rw [if_neg h2, if_neg (show ¬ K = 8 by omega)]
  by_cases h34 : K = 3 ∨ K = 4
  · obtain ⟨x1, x2, x3, x4, x5, x6⟩ := a2 h34
    have x7 := c2 (by omega) (by omega)
    rw [if_pos h34]
    exact and_t (and_t (and_t (and_t (b1 (.inr h34)) (inB_iff.2 x2)) (and_t (inB_iff.2 (by omega)) (decide_eq_true (.inr x7.2)))) (inB_iff.2 (by omega))) (decide_eq_true ⟨x3, x4, x5, x6, rfl, rfl, rfl⟩)
  rw [if_neg h34]
  obtain ⟨x1, x2, x3, x4, x5, x6, x7⟩ := a3 h2 (by omega) (by omega)
  obtain ⟨y1, y2, y3, y4⟩ := b2 h2 (by omega) (by omega)
  by_cases h567 : K = 5 ∨ K = 6 ∨ K = 7
  · have z := c2 (by omega) (by omega)
    rw [if_pos h567]
    exact and_t (and_t (and_t (inB_iff.2 (by omega)) (decide_eq_true (.inr z.2))) (inB_iff.2 (by omega))) (decide_eq_true ⟨y1, y2, y3, y4, x2, x3, x4, x5, x6, x7, rfl, rfl, rfl⟩)
  · have z := c1 (.inl (by omega))
    rw [if_neg h567]
    exact and_t (inB_iff.2 (by omega)) (decide_eq_true ⟨z, y1, y2, y3, y4, x2, x3, x4, x5, x6, x7, rfl, rfl, rfl⟩)
theorem ckp_chk {lsn nx : Int} {L : List LV} {D : List DV} (hl : 1 ≤ lsn ∧ lsn ≤ 100000) (h1 : 1 ≤ nx) (h2 : nx ≤ 1048576) (h3 : liB nx lsn 0 L = true) (h4 : diB lsn (-1) D = true) (h5 : L.length ≤ 32) (h6 : D.length ≤ 16) :
    chkN { lsn := lsn, kind := 8, next := nx, live := L, dirty := D } = 0 := by
  unfold chkN
  rw [if_neg (by dsimp only; omega), if_pos]
  unfold okB
  dsimp only
  refine and_t (inB_iff.2 (by omega)) ?_
  rw [if_neg (by decide), if_pos rfl]
  unfold cpB
  exact and_t (and_t (and_t (and_t (and_t (inB_iff.2 (by omega)) (decide_eq_true h5)) (decide_eq_true h6)) h3) h4) (decide_eq_true ⟨rfl, rfl, rfl, rfl, rfl, rfl, rfl, rfl, rfl, rfl, rfl, rfl⟩)
theorem slB_dots (p i p' i' : Int) : slB (p % 64) (i % 31) (if p' % 64 = p % 64 then (p % 64 + 1) % 64 else p' % 64) (i' % 84) = true := by
  unfold slB
  have h1 := emod_in p (m := 64) (by omega)
  have h2 := emod_in i (m := 31) (by omega)
  have h3 := emod_in p' (m := 64) (by omega)
  have h4 := emod_in i' (m := 84) (by omega)
  have h5 := emod_in (p % 64 + 1) (m := 64) (by omega)
  simp only [Bool.and_eq_true, inB_iff, decide_eq_true_eq]
  split <;> omega

set_option maxHeartbeats 8000000 in
theorem made_c {w : World} {r : RV} {m : Mm} {lsn : Int} {R : Ending → World → Prop} (hr : RArg w r m) (hl : 1 ≤ lsn ∧ lsn ≤ 100000)
    (h : ∀ (q : RV) (m' : Mm) (w' : World), Kp no w w' → OwnL w w' q m' → chkN { q with lsn := lsn } = 0 → q.w64 → q.lsn = 0 → (q.kind = 1 + r.kind % 8 ∨ q.kind = 1) → R (.returned (.agg (q.ca m'))) w') :
    GoC Try.prog F_law06_made #[.agg (r.ca m), .int .i64 lsn] w R := by
  refine S_law06_made ?_
  unfold W_law06_made
  have hw := hr.wf
  refine Loc.al (Kp.refl _ w) fun b1 w1 h1 k1 g1 => Loc.al h1.kp fun b2 w2 h2 k2 g2 => ?_
  have s1 := h1.blk.lt
  have h12 := h1.kp' k2
  have h12 : Loc w w2 b1 (r.ca m) T_api_Record := h12
  have h22 : Loc w w2 b2 (({} : RV).ca {}) T_api_Record := h2
  have s2 := h22.blk.lt
  refine ⟨_, h12.at rfl rfl, brought_c (by omega) (by omega) ⟨_, rfl, _, h12.at rfl rfl, brought_c (by omega) (by omega) ⟨_, rfl, ?_⟩⟩⟩
  have hk8 := emod_in r.kind (m := 8) (by omega)
  have htx := emod_in r.tx (m := 1048576) (by omega)
  rw [wrap_i64 (x := 1 + r.kind % 8) (by omega) (by omega), wrap_i64 (x := 1 + r.tx % 1048576) (by omega) (by omega)]
  generalize hKe : 1 + r.kind % 8 = K at *
  generalize hTe : 1 + r.tx % 1048576 = T at *
  have hK : 1 ≤ K ∧ K ≤ 8 := by omega
  have hT : 1 ≤ T ∧ T ≤ 1048576 := by omega
  refine Loc.al h22.kp fun b3 w3 h3 k3 g3 => ?_
  have h3 : Loc w w3 b3 (({} : RV).ca {}) T_api_Record := h3
  refine rec_st h3.blk { kind := K, tx := T } {} fun w4 hb4 k4 => ?_
  have M4 : Md w w4 b1 b2 b3 r m { kind := K, tx := T } := by
    have e1 : b1 ≠ b3 := by omega
    have e2 : b2 ≠ b3 := by omega
    exact ⟨kp_blk h3.kp h3.nw k4, k4.blk (k3.blk h12.blk id) e1, k4.blk (k3.blk h22.blk id) e2, hb4, h22.nw, h3.nw, e1, e2⟩
  -- what goes out, of what has no lists
  have out : ∀ (q : RV) (w' : World), q.live = [] → q.dirty = [] → Kp no w w' → Blk w' b2 (({} : RV).ca {}) T_api_Record → chkN { q with lsn := lsn } = 0 → q.w64 → q.lsn = 0 → (q.kind = K ∨ q.kind = 1) →
      ∀ w'', Blk w'' b2 (q.ca {}) T_api_Record → Kp (fun j => j = b2) w' w'' → R (.returned (.agg (q.ca {}))) w'' := fun q w' hq1 hq2 k' hx2 hc h64 hls hkk w'' hb'' k'' => by
    refine h q {} w'' (kp_blk k' h22.nw k'') ?_ hc h64 hls hkk
    refine ⟨?_, ?_, by rw [hq1]; rfl, by rw [hq2]; rfl, fun k hk => (is_none hk).elim, fun k hk => (is_none hk).elim, fun k hk => (is_none hk).elim⟩
    · rw [hq1]; exact Sl.nil _ _ _
    · rw [hq2]; exact Sl.nil _ _ _
  refine ⟨fun _ w' => Md w w' b1 b2 b3 r m { kind := K, tx := T } ∧ (lsn < 2 → K = 2 ∨ K = 8), cond_d (fun hl2 => cond_ne (fun hk2 => cond_ne (fun hk8' => ?_) (fun hk8' => ⟨M4, fun _ => .inr hk8'⟩)) (fun hk2 => ⟨M4, fun _ => .inl hk2⟩)) (fun hl2 => ⟨M4, fun hh => absurd hh hl2⟩), ?_⟩
  · refine rec_st M4.x2 { kind := 1, tx := T } {} fun w5 hb5 k5 => rec_rd hb5 (out { kind := 1, tx := T } w4 rfl rfl M4.kp M4.x2 ?_ ⟨i64_0, i64_0, i64_0, i64_0⟩ rfl (.inr rfl) w5 hb5 k5)
    exact made_chk (K := 1) (T := T) (by omega) hT hl ⟨by omega, by omega, fun _ _ _ => ⟨rfl, rfl, rfl, rfl, rfl, rfl, rfl⟩, i64_0, i64_0, i64_0, i64_0⟩ ⟨by omega, fun _ _ _ => ⟨rfl, rfl, rfl, rfl⟩⟩ ⟨fun _ => rfl, by omega⟩
  rintro _ w5 ⟨M5, hl5⟩ _
  clear M4
  refine ⟨fun _ w' => K ≠ 8 ∧ ∃ tx dl i g lo hi va, Md w w' b1 b2 b3 r m { kind := K, tx := tx, delta := dl, id := i, grp := g, lo := lo, hi := hi, val := va } ∧ P20 K T tx dl i g lo hi va, cond_eq (fun hk2 => ?_) (fun hk2 => ?_), ?_⟩
  · -- a counter is made
    refine ⟨_, _, _, _, _, ⟨M5.x1.at (add1 _ _) rfl, M5.x1.at (add2 _ _ _) rfl, M5.x1.at (add2 _ _ _) rfl, M5.x1.at (add2 _ _ _) rfl, M5.x1.at (add2 _ _ _) rfl, trivial⟩, ?_⟩
    refine AlF.intro fun b4 w6 hb4e hb46 k6 _ => ?_
    have M6 := M5.kp0 k6
    have n41 : b1 ≠ b4 := by have := M5.x1.lt; omega
    have n42 : b2 ≠ b4 := by have := M5.x2.lt; omega
    have n43 : b3 ≠ b4 := by have := M5.x3.lt; omega
    have n4 : w.heap.size ≤ b4 := by have := M5.kp.size; omega
    refine StF.at rfl hb46 (by simp) fun w7 hb7 k7 _ => StF.at (add1 _ _) hb7 (by simp) fun w8 hb8 k8 _ => StF.at (add1 _ _) hb8 (by simp) fun w9 hb9 k9 _ => StF.at (add1 _ _) hb9 (by simp) fun w10 hb10 k10 _ => StF.at (add1 _ _) hb10 (by simp) fun w11 hb11 k11 _ => ?_
    have kk := (((k7.trans0 k8).trans0 k9).trans0 k10).trans0 k11
    have mdk : ∀ {wa wb : World} {q : RV}, Md w wa b1 b2 b3 r m q → Kp (fun j => j = b4) wa wb → Md w wb b1 b2 b3 r m q := fun h k => ⟨kp_blk h.kp n4 k, k.blk h.x1 n41, k.blk h.x2 n42, k.blk h.x3 n43, h.n2, h.n3, h.e1, h.e2⟩
    have M11 := mdk M6 kk
    have hb11 : Blk w11 b4 #[.int .i64 r.id, .int .i64 r.grp, .int .i64 r.lo, .int .i64 r.hi, .int .i64 r.val] T_api_Counter := hb11
    refine ⟨fun _ w' => ∃ lo hi, Blk w' b4 #[.int .i64 r.id, .int .i64 r.grp, .int .i64 lo, .int .i64 hi, .int .i64 r.val] T_api_Counter ∧ lo ≤ hi ∧ i64 lo ∧ i64 hi ∧ Md w w' b1 b2 b3 r m { kind := K, tx := T }, ⟨_, hb11.at (add1 _ _) rfl, _, hb11.at (add2 _ _ _) rfl, cond_d (fun hgt => ?_) (fun hgt => ⟨_, _, hb11, by omega, hw.lo, hw.hi, M11⟩)⟩, ?_⟩
    · refine ⟨_, hb11.at (add2 _ _ _) rfl, _, hb11.at (add1 _ _) rfl, StF.at (add1 _ _) hb11 (by simp) fun w12 hb12 k12 _ => StF.at (add2 _ _ _) hb12 (by simp) fun w13 hb13 k13 _ => ?_⟩
      exact ⟨r.hi, r.lo, hb13, by omega, hw.hi, hw.lo, mdk M11 (k12.trans0 k13)⟩
    rintro _ w12 ⟨lo, hi, hb12, hlh, wlo, whi, M12⟩ _
    refine ⟨_, hb12.at (add1 _ _) rfl, _, hb12.at (add2 _ _ _) rfl, _, hb12.at (add1 _ _) rfl, ?_⟩
    refine M12.st { kind := K } (add1 _ _) (by omega) rfl fun w13 M13 k13 => ?_
    have hb13 := k13.blk hb12 (fun hh => n43 hh.symm)
    have kd : Kp no w13 w13.drew := Kp.drew w13 1
    have M14 := M13.kp0 kd
    have hb14 := kd.blk hb13 id
    refine ⟨fun w' => Blk w' b4 #[.int .i64 r.id, .int .i64 r.grp, .int .i64 lo, .int .i64 hi, .int .i64 r.val] T_api_Counter, hb14, _, fun w' hw' => hw'.at rfl rfl, _, fun w' hw' => hw'.at (add1 _ _) rfl, _, _, fun w' hw' => ⟨hw'.at (add1 _ _) rfl, hw'.at (add2 _ _ _) rfl, trivial⟩, ?_⟩
    refine brought_c (by omega) (by omega) ⟨_, rfl, hb14, brought_c (by omega) (by omega) ⟨_, rfl, hb14, ?_⟩⟩
    have hid := emod_in r.id (m := 1048576) (by omega)
    have hgr := emod_in r.grp (m := 1048576) (by omega)
    rw [wrap_i64 (x := 1 + r.id % 1048576) (by omega) (by omega), wrap_i64 (x := 1 + r.grp % 1048576) (by omega) (by omega)]
    generalize hva : (if (if r.val < hi then r.val else hi) > lo then (if r.val < hi then r.val else hi) else lo) = va
    have hva' : lo ≤ va ∧ va ≤ hi := by
      rw [← hva]
      split <;> split <;> omega
    refine M14.st { kind := K, id := 1 + r.id % 1048576 } (add1 _ _) (by omega) rfl fun w15 M15 _ => M15.st { kind := K, id := 1 + r.id % 1048576, grp := 1 + r.grp % 1048576 } (add2 _ _ _) (by omega) rfl fun w16 M16 _ => M16.st { kind := K, id := 1 + r.id % 1048576, grp := 1 + r.grp % 1048576, lo := lo } (add2 _ _ _) (by omega) rfl fun w17 M17 _ => M17.st { kind := K, id := 1 + r.id % 1048576, grp := 1 + r.grp % 1048576, lo := lo, hi := hi } (add2 _ _ _) (by omega) rfl fun w18 M18 _ => M18.st { kind := K, id := 1 + r.id % 1048576, grp := 1 + r.grp % 1048576, lo := lo, hi := hi, val := va } (add2 _ _ _) (by omega) rfl fun w19 M19 _ => ?_
    exact ⟨by omega, 0, 0, 1 + r.id % 1048576, 1 + r.grp % 1048576, lo, hi, va, M19, fun _ => ⟨rfl, rfl, by omega, by omega, hva'.1, hva'.2⟩, by omega, by omega, by decide, wlo, whi, by obtain ⟨a, b⟩ := wlo; obtain ⟨c, d⟩ := whi; exact ⟨by omega, by omega⟩⟩
  · refine ⟨fun s w' => s.1 = decide (K = 3 ∨ K = 4) ∧ Md w w' b1 b2 b3 r m { kind := K, tx := T }, cond_eq (fun hk3 => ⟨?_, M5⟩) (fun hk3 => ⟨?_, M5⟩), ?_⟩
    · show (K == 3) = _
      rw [decide_eq_true (.inl hk3), hk3]
      rfl
    · show (K == 4) = _
      by_cases hk4 : K = 4
      · rw [decide_eq_true (.inr hk4), hk4]
        rfl
      · rw [decide_eq_false (by omega)]
        simpa using hk4
    rintro ⟨s, u⟩ w6 ⟨hs, M6⟩ _
    dsimp only at hs ⊢
    subst hs
    refine cond_d (fun h34 => ?_) (fun h34 => cond_eq (fun hk8' => ?_) (fun hk8' => ?_))
    · refine ⟨_, M6.x1.at (add1 _ _) rfl, brought_c (by omega) (by omega) ⟨_, rfl, ?_⟩⟩
      have hid := emod_in r.id (m := 1048576) (by omega)
      rw [wrap_i64 (x := 1 + r.id % 1048576) (by omega) (by omega)]
      refine M6.st { kind := K, tx := T, id := 1 + r.id % 1048576 } (add1 _ _) (by omega) rfl fun w7 M7 _ => M7.st { kind := K, tx := T, id := 1 + r.id % 1048576 } (add2 _ _ _) (by omega) rfl fun w8 M8 _ => M8.st { kind := K, tx := T, id := 1 + r.id % 1048576 } (add2 _ _ _) (by omega) rfl fun w9 M9 _ => M9.st { kind := K, tx := T, id := 1 + r.id % 1048576 } (add2 _ _ _) (by omega) rfl fun w10 M10 _ => M10.st { kind := K, tx := T, id := 1 + r.id % 1048576 } (add2 _ _ _) (by omega) rfl fun w11 M11 _ => ?_
      refine ⟨_, M11.x1.at (add1 _ _) rfl, M11.st { kind := K, tx := T, id := 1 + r.id % 1048576, delta := r.delta } (add1 _ _) (by omega) rfl fun w12 M12 _ => ?_⟩
      exact ⟨by omega, T, r.delta, 1 + r.id % 1048576, 0, 0, 0, 0, M12, by omega, fun _ => ⟨rfl, by omega, rfl, rfl, rfl, rfl⟩, by omega, hw.delta, by decide, by decide, by decide⟩
    · -- a checkpoint
      subst hk8'
      refine ⟨_, _, _, _, _, _, _, ⟨M6.x1.at (add1 _ _) rfl, M6.x1.at (add2 _ _ _) rfl, M6.x1.at (add2 _ _ _) rfl, trivial⟩, ?_⟩
      refine points_c (m := m) (L := r.live) (D := r.dirty) (next := r.next) (hr.li.kp0 M6.kp) hl.1 hl.2 fun q nx L' D' w7 k7 o7 hn1 hn2 hL hD h32 h16 _ => ?_
      have M7 := M6.kp0 k7
      refine ⟨_, _, _, _, _, _, _, rfl, ?_⟩
      refine rec_st M7.x2 { kind := 8, live := L', dirty := D', next := nx } q fun w8 hb8 k8 => rec_rd hb8 ?_
      have z6 := M6.x2.lt
      have o6 := o7.from M6.kp.size
      refine h { kind := 8, live := L', dirty := D', next := nx } q w8 (kp_blk M7.kp M7.n2 k8) ⟨?_, ?_, o7.ll, o7.dl, o6.fl, o6.fd, o6.ap⟩ (ckp_chk hl hn1 hn2 hL hD h32 h16) ⟨i64_0, i64_0, i64_0, i64_0⟩ rfl (.inl rfl)
      · exact o7.l.kp k8 fun j hj hh => by have := o7.fl j hj; omega
      · exact o7.d.kp k8 fun j hj hh => by have := o7.fd j hj; omega
    · exact ⟨hk8', T, 0, 0, 0, 0, 0, 0, M6, by omega, by omega, fun _ _ _ => ⟨rfl, rfl, rfl, rfl, rfl, rfl, rfl⟩, by decide, by decide, by decide, by decide⟩
  rintro _ w6 ⟨hn8, tx, dl, i, g, lo, hi, va, M6, p20⟩ _
  clear M5
  -- the slots
  refine ⟨fun _ w' => ∃ wp wi sp si, Md w w' b1 b2 b3 r m { kind := K, tx := tx, wp := wp, wi := wi, sp := sp, si := si, delta := dl, id := i, grp := g, lo := lo, hi := hi, val := va } ∧ P25 K wp wi sp si, ?_, ?_⟩
  · refine cond_eq (fun hk => ?_) (fun hk => cond_eq (fun hk3 => ?_) (fun hk3 => cond_eq (fun hk4 => ?_) (fun hk4 => ⟨0, 0, 0, 0, M6, by omega, fun _ _ _ => ⟨rfl, rfl, rfl, rfl⟩⟩)))
    all_goals
      refine ⟨_, _, ⟨M6.x1.at (add1 _ _) rfl, M6.x1.at (add2 _ _ _) rfl, trivial⟩, dot_c (by omega) (by omega) fun w7 k7 => ⟨_, _, rfl, ?_⟩⟩
      refine (M6.kp0 k7).st { kind := K, tx := tx, wp := r.wp % 64, delta := dl, id := i, grp := g, lo := lo, hi := hi, val := va } (add1 _ _) (by omega) rfl fun w8 M8 _ => M8.st { kind := K, tx := tx, wp := r.wp % 64, wi := r.wi % 31, delta := dl, id := i, grp := g, lo := lo, hi := hi, val := va } (add2 _ _ _) (by omega) rfl fun w9 M9 _ => ?_
      refine ⟨fun _ w' => Md w w' b1 b2 b3 r m { kind := K, tx := tx, wp := r.wp % 64, wi := r.wi % 31, sp := r.sp % 64, si := r.si % 84, delta := dl, id := i, grp := g, lo := lo, hi := hi, val := va }, ⟨_, _, ⟨M9.x1.at (add1 _ _) rfl, M9.x1.at (add2 _ _ _) rfl, trivial⟩, dot_c (by omega) (by omega) fun w10 k10 => ⟨_, _, rfl, (M9.kp0 k10).st { kind := K, tx := tx, wp := r.wp % 64, wi := r.wi % 31, sp := r.sp % 64, delta := dl, id := i, grp := g, lo := lo, hi := hi, val := va } (add1 _ _) (by omega) rfl fun w11 M11 _ => M11.st { kind := K, tx := tx, wp := r.wp % 64, wi := r.wi % 31, sp := r.sp % 64, si := r.si % 84, delta := dl, id := i, grp := g, lo := lo, hi := hi, val := va } (add2 _ _ _) (by omega) rfl fun w12 M12 _ => M12⟩⟩, ?_⟩
      rintro _ w10 M10 _
      have sd := slB_dots r.wp r.wi r.sp r.si
      have hwp := emod_in r.wp (m := 64) (by omega)
      refine ⟨_, M10.x3.at (add1 _ _) rfl, _, M10.x3.at (add1 _ _) rfl, cond_eq (fun heq => ⟨_, M10.x3.at (add1 _ _) rfl, by decide, ?_⟩) (fun heq => ⟨r.wp % 64, r.wi % 31, r.sp % 64, r.si % 84, M10, fun _ => by rw [if_neg heq] at sd; exact sd, by omega⟩)⟩
      have et : Int.tmod (IntKind.wrap .i64 (r.wp % 64 + 1)) 64 = (r.wp % 64 + 1) % 64 := by
        rw [wrap_i64 (by omega) (by omega), Int.tmod_eq_emod_of_nonneg (by omega)]
      rw [et]
      rw [if_pos heq] at sd
      exact M10.st { kind := K, tx := tx, wp := r.wp % 64, wi := r.wi % 31, sp := (r.wp % 64 + 1) % 64, si := r.si % 84, delta := dl, id := i, grp := g, lo := lo, hi := hi, val := va } (add1 _ _) (by omega) rfl fun w11 M11 _ => ⟨r.wp % 64, r.wi % 31, (r.wp % 64 + 1) % 64, r.si % 84, M11, fun _ => sd, by omega⟩
  rintro _ w7 ⟨wp, wi, sp, si, M7, p25⟩ _
  clear M6
  refine ⟨fun _ w' => ∃ pv, Md w w' b1 b2 b3 r m { kind := K, tx := tx, prev := pv, wp := wp, wi := wi, sp := sp, si := si, delta := dl, id := i, grp := g, lo := lo, hi := hi, val := va } ∧ P27 K lsn pv, cond_ne (fun h1 => cond_ne (fun h2 => ?_) (fun h2 => ⟨0, M7, fun _ => rfl, by omega⟩)) (fun h1 => ⟨0, M7, fun _ => rfl, by omega⟩), ?_⟩
  · have hl2 : 2 ≤ lsn := by
      apply Int.le_of_not_gt
      intro hh
      rcases hl5 (by omega) with h5 | h5 <;> omega
    refine ⟨_, M7.x1.at (add1 _ _) rfl, ?_⟩
    rw [wrap_i64 (x := lsn - 1) (by omega) (by omega)]
    refine brought_c (by omega) (by omega) ⟨_, rfl, ?_⟩
    have hp := emod_in r.prev (m := lsn - 1) (by omega)
    rw [wrap_i64 (x := 1 + r.prev % (lsn - 1)) (by omega) (by omega)]
    exact M7.st { kind := K, tx := tx, prev := 1 + r.prev % (lsn - 1), wp := wp, wi := wi, sp := sp, si := si, delta := dl, id := i, grp := g, lo := lo, hi := hi, val := va } (add1 _ _) (by omega) rfl fun w8 M8 _ => ⟨_, M8, by omega, fun _ _ => ⟨by omega, by omega⟩⟩
  rintro _ w8 ⟨pv, M8, p27⟩ _
  have p20' := p20
  obtain ⟨_, _, _, d1, d2, d3, d4⟩ := p20'
  refine rec_rd M8.x3 (rec_st M8.x2 { kind := K, tx := tx, prev := pv, wp := wp, wi := wi, sp := sp, si := si, delta := dl, id := i, grp := g, lo := lo, hi := hi, val := va } {} fun w9 hb9 k9 => rec_rd hb9 (out { kind := K, tx := tx, prev := pv, wp := wp, wi := wi, sp := sp, si := si, delta := dl, id := i, grp := g, lo := lo, hi := hi, val := va } w8 rfl rfl M8.kp M8.x2 (made_chk (K := K) (by omega) hT hl p20 p25 p27) ⟨d1, d2, d3, d4⟩ rfl (.inl rfl) w9 hb9 k9))
end Go.Proofs.Ytkfdkcclojepnaa

/- Layer 6's falls and lives, as they are handed in. Conditions: none. -/
set_option linter.unusedVariables false
set_option linter.unusedSimpArgs false
namespace Go.Proofs.Ytkfdkcclojepnaa
open Go Go.RowKit Go.ChangeShapes Go.WideShapes

/-- A fall. -/
structure FallA where
  n : Int
  la : Option Addr
  lc : Nat
  keep : List Nat
  torn : Int
  off : Int
def FallA.cs (o : FallA) : List Value := [.int .i64 o.n, .slice o.la o.keep.length o.lc, .int .i64 o.torn, .int .i64 o.off]
theorem FallA.cs_len (o : FallA) : o.cs.length = 4 := rfl
def fFA : List FallA → List Value := flatV FallA.cs
instance : Inhabited FallA := ⟨⟨0, none, 0, [], 0, 0⟩⟩
def FallA.Ok (W : World) (o : FallA) : Prop := LossOk W o.la o.keep.length o.keep o.torn o.off
theorem fall_open' {W : World} {cs : List Value} (h : ClW Try.prog W T_quotalaw06_Fall cs) : ∃ x : FallA, cs = x.cs ∧ x.Ok W := by
  have hl := h.cl.slen (s := 4) (by kernel_rfl)
  have f0 := h.cl.field 0 (e := T_int) (o := 0) (s := 1) (by kernel_rfl)
  have f1 := h.field 1 (e := T_api_Loss) (o := 1) (s := 3) (by kernel_rfl)
  match cs, hl with
  | [x0, x1, x2, x3], _ =>
    simp only [List.drop_zero, List.drop_succ_cons, List.take_succ_cons, List.take_zero] at f0 f1
    obtain ⟨k, h0, w0⟩ := f0.int (k := .i64) (by kernel_rfl)
    obtain ⟨a, l, c, keep, torn, off, h5, hL⟩ := loss_open' f1
    cases h0; cases h5
    have hn := hL.n
    subst hn
    exact ⟨⟨k, a, c, keep, torn, off⟩, rfl, hL⟩
theorem fall_open {W : World} {v : Value} (h : ArgW Try.prog W T_quotalaw06_Fall v) : ∃ x : FallA, v = .agg #[.int .i64 x.n, .slice x.la x.keep.length x.lc, .int .i64 x.torn, .int .i64 x.off] ∧ x.Ok W := by
  obtain ⟨cells, rfl, _⟩ := h.arg.struct (s := 4) (by kernel_rfl)
  have hw := h.clw
  obtain ⟨x, he, hp⟩ := fall_open' (cs := cells.toList) hw
  refine ⟨x, ?_, hp⟩
  congr 1
  cases cells
  exact congrArg List.toArray he
structure FallsOk (W : World) (a : Option Addr) (l c : Nat) (L : List FallA) : Prop where
  n : L.length = l
  rd : Rd W a (fFA L)
  ok : ∀ x ∈ L, x.Ok W
theorem rd_flatF {W : World} {a : Option Addr} {L : List FallA} (h : ∀ (i : Nat) (hi : i < L.length) (q : Nat) (v : Value), (L[i]).cs[q]? = some v → ∃ b o, a = some ⟨b, o, none⟩ ∧ W.cell? ⟨b, o + i * 4 + q, none⟩ = some v) : Rd W a (fFA L) := by
  intro j v hv
  have hj : j < L.length * 4 := by have := (List.getElem?_eq_some_iff.1 hv).1; rwa [fFA, flatV_len FallA.cs_len] at this
  have hq : j % 4 < 4 := Nat.mod_lt _ (by omega)
  have hi : j / 4 < L.length := by omega
  have e : j / 4 * 4 + j % 4 = j := by omega
  have hg := flatV_get FallA.cs_len L (j / 4) hi (j % 4) hq
  rw [e] at hg
  unfold fFA at hv
  rw [hv] at hg
  obtain ⟨b, o, ha, hc⟩ := h (j / 4) hi (j % 4) v hg.symm
  refine ⟨b, o, ha, ?_⟩
  rwa [Nat.add_assoc, e] at hc
theorem falls_open {W : World} {v : Value} (h : ArgW Try.prog W T_s_quotalaw06_Fall v) : ∃ a l c L, v = .slice a l c ∧ FallsOk W a l c L := by
  obtain ⟨a, l, c, rfl, hc⟩ := h.arg.slice (e := T_quotalaw06_Fall) (by kernel_rfl)
  have hw : ClW Try.prog W T_s_quotalaw06_Fall [.slice a l c] := h.clw
  obtain ⟨css, h1, h2⟩ := hw.cells (e := T_quotalaw06_Fall) (s := 4) (by kernel_rfl) (by kernel_rfl) (by omega)
  have each : ∀ i, i < l → ∃ x : FallA, css i = x.cs ∧ x.Ok W := fun i hi => fall_open' (h1 i hi)
  obtain ⟨f, hf⟩ := Deep.choose_lt (α := FallA) (p := fun i x => css i = x.cs ∧ x.Ok W) each
  refine ⟨a, l, c, (List.range l).map f, rfl, by simp, rd_flatF fun i hi q v hv => ?_, fun x hx => ?_⟩
  · have hil : i < l := by simpa using hi
    have e : ((List.range l).map f)[i] = f i := by simp
    rw [e] at hv
    exact h2 i hil q v (by rw [(hf i hil).1]; exact hv)
  · simp only [List.mem_map, List.mem_range] at hx
    obtain ⟨i, hi, rfl⟩ := hx
    exact (hf i hi).2
/-- A fall's cells, in a list of falls. -/
theorem fallI {w : World} {a : Option Addr} {L : List FallA} (h : Rd w a (fFA L)) {i : Nat} (hi : i < L.length) : ∃ b o, a = some ⟨b, o, none⟩ ∧ ∀ q, q < 4 → ∀ v, (L[i]).cs[q]? = some v → w.cell? ⟨b, o + i * 4 + q, none⟩ = some v := by
  have hg := fun q hq => flatV_get FallA.cs_len L i hi q hq
  obtain ⟨b, o, ha, hc⟩ := h (i * 4) (.int .i64 (L[i]).n) (by unfold fFA; exact hg 0 (by omega))
  refine ⟨b, o, ha, fun q hq v hv => ?_⟩
  obtain ⟨b', o', ha', hc'⟩ := h (i * 4 + q) v (by unfold fFA; rw [hg q hq]; exact hv)
  rw [ha] at ha'
  cases ha'
  rw [Nat.add_assoc]
  exact hc'
theorem fallCells {w : World} {b o i : Nat} {y : FallA} (fc : ∀ q, q < 4 → ∀ v, y.cs[q]? = some v → w.cell? ⟨b, o + i * 4 + q, none⟩ = some v) :
    w.cell? (Addr.add ⟨b, o, none⟩ (Int.toNat (i : Int) * 4)) = some (.int .i64 y.n) ∧ w.cell? (Addr.add (Addr.add ⟨b, o, none⟩ (Int.toNat (i : Int) * 4)) 1) = some (.slice y.la y.keep.length y.lc) ∧
    w.cell? (Addr.add (Addr.add ⟨b, o, none⟩ (Int.toNat (i : Int) * 4)) 2) = some (.int .i64 y.torn) ∧ w.cell? (Addr.add (Addr.add ⟨b, o, none⟩ (Int.toNat (i : Int) * 4)) 3) = some (.int .i64 y.off) ∧ True := by
  rw [Int.toNat_natCast, add_at]
  exact ⟨fc 0 (by omega) _ rfl, fc 1 (by omega) _ rfl, fc 2 (by omega) _ rfl, fc 3 (by omega) _ rfl, trivial⟩
theorem fallCellsL {w : World} {b o i : Nat} {y : FallA} (fc : ∀ q, q < 4 → ∀ v, y.cs[q]? = some v → w.cell? ⟨b, o + i * 4 + q, none⟩ = some v) :
    w.cell? (Addr.add (Addr.add ⟨b, o, none⟩ (Int.toNat (i : Int) * 4)) 1) = some (.slice y.la y.keep.length y.lc) ∧
    w.cell? (Addr.add (Addr.add (Addr.add ⟨b, o, none⟩ (Int.toNat (i : Int) * 4)) 1) 1) = some (.int .i64 y.torn) ∧ w.cell? (Addr.add (Addr.add (Addr.add ⟨b, o, none⟩ (Int.toNat (i : Int) * 4)) 1) 2) = some (.int .i64 y.off) ∧ True := by
  rw [Int.toNat_natCast, add_at]
  exact ⟨fc 1 (by omega) _ rfl, fc 2 (by omega) _ rfl, fc 3 (by omega) _ rfl, trivial⟩
/-- A loss that was handed in. -/
theorem FallA.Ok.ls {W w : World} {ow : Nat → Nat} {x : FallA} {t : Nat} (ht : 1 ≤ t) (h : x.Ok W) (o : Old W w ow) : Ls w ow t x.la x.keep :=
  ⟨(o.rdT h.rd).mono fun u hu => ⟨by omega, by omega, by omega⟩, h.lt, by have := h.ln; omega, h.nn⟩
theorem FallA.Ok.k {W : World} {x : FallA} (h : x.Ok W) : x.keep.length * 8 ≤ 140737488355328 := by have := h.ln; omega

/-! ### Lives -/
/-- Records in a slice. -/
structure RsOk (W : World) (a : Option Addr) (l : Nat) (L : List (RV × Mm)) : Prop where
  n : L.length = l
  rd : Rd W a (flatV cR L)
  ok : ∀ x ∈ L, RArg W x.1 x.2
instance : Inhabited RV := ⟨{}⟩
instance : Inhabited Mm := ⟨{}⟩
theorem recs_open {W : World} {a : Option Addr} {l c : Nat} (hw : ClW Try.prog W T_s_api_Record [.slice a l c]) : ∃ L, RsOk W a l L ∧ l ≤ 1000000000000 := by
  obtain ⟨css, h1, h2⟩ := hw.cells (e := T_api_Record) (s := 17) (by kernel_rfl) (by kernel_rfl) (by omega)
  have hln := hw.len (e := T_api_Record) (by kernel_rfl)
  have b1 : Try.prog.bytesOf T_api_Record = 168 := by kernel_rfl
  have hreach : reachBytes = 140737488351232 := by decide
  rw [b1, hreach] at hln
  obtain ⟨hl, _⟩ := hw.cl.cells (e := T_api_Record) (s := 17) (by kernel_rfl) (by kernel_rfl) (by omega)
  have each : ∀ i, i < l → ∃ x : RV × Mm, css i = cR x ∧ RArg W x.1 x.2 := fun i hi => by
    obtain ⟨r, m, he, hr⟩ := rec_open (h1 i hi)
    exact ⟨(r, m), he, hr⟩
  obtain ⟨f, hf⟩ := Deep.choose_lt (α := RV × Mm) (p := fun i x => css i = cR x ∧ RArg W x.1 x.2) each
  refine ⟨(List.range l).map f, ⟨by simp, rd_flat cR_len (by omega) fun i hi q v hv => ?_, fun x hx => ?_⟩, by omega⟩
  · have hil : i < l := by simpa using hi
    have e : ((List.range l).map f)[i] = f i := by simp
    rw [e] at hv
    exact h2 i hil q v (by rw [(hf i hil).1]; exact hv)
  · simp only [List.mem_map, List.mem_range] at hx
    obtain ⟨i, hi, rfl⟩ := hx
    exact (hf i hi).2
def iv (n : Int) : Value := .int .i64 n
structure IsOk (W : World) (a : Option Addr) (l : Nat) (L : List Int) : Prop where
  n : L.length = l
  rd : Rd W a (L.map iv)
theorem ints_open {W : World} {a : Option Addr} {l c : Nat} (hw : ClW Try.prog W T_s_int [.slice a l c]) : ∃ L, IsOk W a l L ∧ l ≤ 100000000000000 := by
  obtain ⟨css, h1, h2⟩ := hw.cells (e := T_int) (s := 1) (by kernel_rfl) (by kernel_rfl) (by omega)
  have hln := hw.len (e := T_int) (by kernel_rfl)
  have b1 : Try.prog.bytesOf T_int = 8 := by kernel_rfl
  have hreach : reachBytes = 140737488351232 := by decide
  rw [b1, hreach] at hln
  obtain ⟨hl, _⟩ := hw.cl.cells (e := T_int) (s := 1) (by kernel_rfl) (by kernel_rfl) (by omega)
  have each : ∀ i, i < l → ∃ x : Int, css i = [iv x] := fun i hi => by
    obtain ⟨n, hv, _⟩ := (h1 i hi).cl.int (k := .i64) (by kernel_rfl)
    exact ⟨n, hv⟩
  obtain ⟨f, hf⟩ := Deep.choose_lt (α := Int) (p := fun i x => css i = [iv x]) each
  refine ⟨(List.range l).map f, ⟨by simp, fun i v hv => ?_⟩, by omega⟩
  have hil : i < l := by have := (List.getElem?_eq_some_iff.1 hv).1; simpa using this
  have e : v = iv (f i) := by
    rw [List.getElem?_map, List.getElem?_map, List.getElem?_range hil] at hv
    exact (Option.some.inj hv).symm
  obtain ⟨b, o, ha, hc⟩ := h2 i hil 0 v (by rw [hf i hil, e]; rfl)
  refine ⟨b, o, ha, ?_⟩
  rw [Nat.mul_one, Nat.add_zero] at hc
  exact hc
/-- A life. -/
structure LifeA where
  cnt : Int
  ra : Option Addr
  rc : Nat
  R : List (RV × Mm)
  fa : Option Addr
  fc : Nat
  F : List Int
def LifeA.v (x : LifeA) : Array Value := #[.int .i64 x.cnt, .slice x.ra x.R.length x.rc, .slice x.fa x.F.length x.fc]
structure LifeA.Ok (W : World) (x : LifeA) : Prop where
  r : RsOk W x.ra x.R.length x.R
  f : IsOk W x.fa x.F.length x.F
  rb : x.R.length ≤ 1000000000000
  fb : x.F.length ≤ 100000000000000
theorem life_open' {W : World} {cs : List Value} (hw : ClW Try.prog W T_quotalaw06_Life cs) : ∃ x : LifeA, cs = x.v.toList ∧ x.Ok W := by
  have hl := hw.cl.slen (s := 3) (by kernel_rfl)
  have f0 := hw.cl.field 0 (e := T_int) (o := 0) (s := 1) (by kernel_rfl)
  have f1 := hw.field 1 (e := T_s_api_Record) (o := 1) (s := 1) (by kernel_rfl)
  have f2 := hw.field 2 (e := T_s_int) (o := 2) (s := 1) (by kernel_rfl)
  match cs, hl with
  | [x0, x1, x2], _ =>
    simp only [List.drop_zero, List.drop_succ_cons, List.take_succ_cons, List.take_zero] at f0 f1 f2
    obtain ⟨k, h0, w0⟩ := f0.int (k := .i64) (by kernel_rfl)
    obtain ⟨a1, l1, c1, e1⟩ := f1.cl.slc (e := T_api_Record) (by kernel_rfl)
    obtain ⟨a2, l2, c2, e2⟩ := f2.cl.slc (e := T_int) (by kernel_rfl)
    cases h0; cases e1; cases e2
    obtain ⟨L, hL, hb⟩ := recs_open f1
    obtain ⟨F, hF, hfb⟩ := ints_open f2
    have n1 := hL.n
    have n2 := hF.n
    subst n1 n2
    exact ⟨⟨k, a1, c1, L, a2, c2, F⟩, rfl, ⟨hL, hF, hb, hfb⟩⟩
theorem life_open {W : World} {v : Value} (h : ArgW Try.prog W T_quotalaw06_Life v) : ∃ x : LifeA, v = .agg x.v ∧ x.Ok W := by
  obtain ⟨cells, rfl, _⟩ := h.arg.struct (s := 3) (by kernel_rfl)
  have hw := h.clw
  obtain ⟨x, he, hp⟩ := life_open' (cs := cells.toList) hw
  refine ⟨x, ?_, hp⟩
  congr 1
  cases cells
  exact congrArg List.toArray he
end Go.Proofs.Ytkfdkcclojepnaa

/- Layer 6: the statements' size, opened, forces, prefix. Conditions: none. -/
set_option linter.unusedVariables false
set_option linter.unusedSimpArgs false
namespace Go.Proofs.Ytkfdkcclojepnaa
open Go Go.RowKit

/-- Records in a list of their own. -/
structure AX (w : World) (ow : Nat → Nat) (a : Option Addr) (c : Nat) (recs : List RV) (ms : List Mm) : Prop where
  ml : ms.length = recs.length
  rs : SlT w ow T_api_Record 17 a recs.length c (flatV cR (List.zip recs ms)) 60
  li : ∀ k (h : k < recs.length) (h' : k < ms.length), LiT w ow 61 ms[k] recs[k]
theorem AX.fr {T : Nat → Prop} {w w' : World} {ow ow' : Nat → Nat} {a : Option Addr} {c : Nat} {recs : List RV} {ms : List Mm} (h : AX w ow a c recs ms) (f : Fro T w ow w' ow') (h0 : T 60) (h1 : T 61) : AX w' ow' a c recs ms :=
  ⟨h.ml, h.rs.fr f h0, fun k h' h'' => (h.li k h' h'').fr f h1⟩
theorem rcCell {w : World} {a : Option Addr} {Z : List (RV × Mm)} (h : Rd w a (flatV cR Z)) {k : Nat} (hk : k < Z.length) {b o : Nat} (ha : a = some ⟨b, o, none⟩) : ∀ j v, (cR Z[k])[j]? = some v → w.cell? (Addr.add ((⟨b, o, none⟩ : Addr).add (k * 17)) j) = some v := fun j v hv => by
  have hj : j < 17 := (List.getElem?_eq_some_iff.1 hv).1
  have e := flatV_get cR_len Z k hk j hj
  obtain ⟨b', o', ha', hc⟩ := h (k * 17 + j) v (by rw [e]; exact hv)
  rw [ha] at ha'
  cases ha'
  rw [add_at, add_at, Nat.add_assoc]
  exact hc
theorem rcCell0 {w : World} {a : Option Addr} {Z : List (RV × Mm)} (h : Rd w a (flatV cR Z)) {k : Nat} (hk : k < Z.length) {b o : Nat} (ha : a = some ⟨b, o, none⟩) : ∀ v, (cR Z[k])[0]? = some v → w.cell? ((⟨b, o, none⟩ : Addr).add (k * 17)) = some v := fun v hv => by
  have := rcCell h hk ha 0 v hv
  rw [add_at, add_at] at this
  rw [add_at]
  exact this
theorem rcAddr {w : World} {a : Option Addr} {Z : List (RV × Mm)} (h : Rd w a (flatV cR Z)) {k : Nat} (hk : k < Z.length) : ∃ b o, a = some ⟨b, o, none⟩ := by
  have e := flatV_get cR_len Z k hk 0 (by omega)
  obtain ⟨b, o, ha, _⟩ := h (k * 17 + 0) (.int .i64 (Z[k]).1.lsn) (by rw [e]; rfl)
  exact ⟨b, o, ha⟩

section
variable {w : World} {ow : Nat → Nat} {t lb db : Nat} {g : Lg} {R : Ending → World → Prop}
set_option maxHeartbeats 2000000 in
theorem prefix_c {a : Option Addr} {c l : Nat} {recs : List RV} {ms : List Mm} {most : Int} (h : LG w ow t lb db g) (he : g.err = 0) (hA : AX w ow a c recs ms) (hl : recs.length = l) (h1 : g.recs.length ≤ recs.length) (h2 : (g.recs.length : Int) ≤ most) (hp : ∀ k (h : k < g.recs.length) (h' : k < recs.length), g.recs[k] = recs[k])
    (hK : ∀ w', Kp no w w' → R (.returned (.bool true)) w') : GoC Try.prog F_law06_prefix #[.pointer (some ⟨lb, 0, none⟩), .slice a l c, .int .i64 most] w R := by
  subst hl
  refine S_law06_prefix ?_
  unfold W_law06_prefix
  have hok := h.ok
  have okn := hok.n
  have okc := hok.c
  have ml := hA.ml
  refine last_c h ⟨_, rfl, cond_d (fun hh => by omega) (fun _ => cond_d (fun hh => by omega) (fun _ => ?_))⟩
  refine loopN (fun s w' => Kp no w w' ∧ ∃ k : Nat, k ≤ g.recs.length ∧ s.1 = ((k + 1 : Nat) : Int)) (fun s _ => g.recs.length + 1 - s.1.toNat) ⟨Kp.refl _ _, 0, Nat.zero_le _, rfl⟩ ?_
  rintro ⟨i0, u⟩ w1 ⟨k1, k, hk, hi0⟩ _
  dsimp only at hi0 ⊢
  subst hi0
  refine cond_d (fun hle => ?_) (fun _ => hK w1 k1)
  have hkl : k < g.recs.length := by omega
  have hkr : k < recs.length := by omega
  have X1 := h.kp0 k1
  have A1 := hA.fr (Fro.kp0 k1) trivial trivial
  have hg : getG g ((k + 1 : Nat) : Int) = (recs[k], 0) := by
    unfold getG
    rw [if_neg (by omega), if_neg (by omega), if_neg (by omega), Int.toNat_natCast, Nat.add_sub_cancel, List.getD_eq_getElem?_getD, List.getElem?_eq_getElem hkl]
    show (g.recs[k], 0) = _
    rw [hp k hkl hkr]
  refine lget_c X1 ⟨by omega, by omega⟩ fun m' w2 k2 o2 => ?_
  rw [hg] at o2 ⊢
  refine ⟨_, _, _, _, _, _, _, _, _, _, _, _, _, _, _, _, _, _, _, _, _, _, rfl, ?_⟩
  refine rec_cp recs[k] m' fun b1 w3 h3 => ?_
  have kd : Kp no w3 w3.drew := Kp.drew w3 1
  have k13 := (k2.trans0 h3.kp).trans0 kd
  have x4 := kd.blk h3.blk id
  have A4 := A1.fr (Fro.kp0 k13) trivial trivial
  have hz : k < (List.zip recs ms).length := by rw [List.length_zip]; omega
  have ez : (List.zip recs ms)[k] = (recs[k], ms[k]'(by omega)) := List.getElem_zip
  obtain ⟨b, o, ha⟩ := rcAddr A4.rs.sl.rd hz
  refine ⟨fun w' => Blk w' b1 (recs[k].ca m') T_api_Record ∧ Rd w' a (flatV cR (List.zip recs ms)), ⟨x4, A4.rs.sl.rd⟩, num_c ⟨_, rfl, ⟨x4, A4.rs.sl.rd⟩, cond_f rfl ?_⟩⟩
  refine ⟨_, _, _, _, _, _, _, _, _, _, _, _, _, _, _, _, _, _, _, _, _, fun w' hw => ⟨hw.1.at rfl rfl, hw.1.at rfl rfl, hw.1.at rfl rfl, hw.1.at rfl rfl, hw.1.at rfl rfl, hw.1.at rfl rfl, hw.1.at rfl rfl, hw.1.at rfl rfl, hw.1.at rfl rfl, hw.1.at rfl rfl, hw.1.at rfl rfl, hw.1.at rfl rfl, hw.1.at rfl rfl, hw.1.at rfl rfl, hw.1.at rfl rfl, hw.1.at rfl rfl, hw.1.at rfl rfl, trivial⟩, ?_⟩
  have e1 : IntKind.wrap .i64 (((k + 1 : Nat) : Int) - 1) = (k : Int) := by rw [wrap_i64 (by omega) (by omega)]; omega
  rw [e1]
  refine ⟨by omega, by omega, _, ha, ?_⟩
  simp only [Int.toNat_natCast]
  have c0 : ∀ w', Rd w' a (flatV cR (List.zip recs ms)) → ∀ v, (cR (recs[k], ms[k]'(by omega)))[0]? = some v → w'.cell? ((⟨b, o, none⟩ : Addr).add (k * 17)) = some v := fun w' hw v hv => rcCell0 hw hz ha v (by rw [ez]; exact hv)
  have cj : ∀ w', Rd w' a (flatV cR (List.zip recs ms)) → ∀ j v, (cR (recs[k], ms[k]'(by omega)))[j]? = some v → w'.cell? (Addr.add ((⟨b, o, none⟩ : Addr).add (k * 17)) j) = some v := fun w' hw j v hv => rcCell hw hz ha j v (by rw [ez]; exact hv)
  refine ⟨_, _, _, _, _, _, _, _, _, _, _, _, _, _, _, _, _, _, _, _, _, fun w' hw => ⟨c0 w' hw.2 _ rfl, cj w' hw.2 1 _ rfl, cj w' hw.2 2 _ rfl, cj w' hw.2 3 _ rfl, cj w' hw.2 4 _ rfl, cj w' hw.2 5 _ rfl, cj w' hw.2 6 _ rfl, cj w' hw.2 7 _ rfl, cj w' hw.2 8 _ rfl, cj w' hw.2 9 _ rfl, cj w' hw.2 10 _ rfl, cj w' hw.2 11 _ rfl, cj w' hw.2 12 _ rfl, cj w' hw.2 13 _ rfl, cj w' hw.2 14 _ rfl, cj w' hw.2 15 _ rfl, cj w' hw.2 16 _ rfl, trivial⟩, ?_⟩
  have hli := A4.li k hkr (by omega)
  have o4 := (o2.kp0 h3.kp).kp0 kd
  have lb1 := hli.lb
  have db1 := hli.db
  have ll1 := hli.ll
  have dl1 := hli.dl
  have oll : m'.ll = recs[k].live.length := o4.ll
  have odl : m'.dl = recs[k].dirty.length := o4.dl
  have li1 : LiIn w3.drew m' recs[k].live recs[k].dirty := ⟨o4.l.rd, oll.symm, by omega, o4.d.rd, odl.symm, by omega⟩
  refine rsame_c (r := recs[k]) (q := recs[k]) (m := m') (n := ms[k]'(by omega)) li1 hli.li fun w5 k5 => ⟨_, rfl, ⟨k5.blk x4 id, A4.rs.sl.rd.kp0 k5⟩, ?_⟩
  rw [decide_eq_true rfl]
  have wi : IntKind.wrap .i64 (((k + 1 : Nat) : Int) + 1) = ((k + 1 + 1 : Nat) : Int) := by rw [wrap_i64 (by omega) (by omega)]; omega
  rw [wi]
  refine cond_f rfl ⟨⟨(k1.trans0 k13).trans0 k5, k + 1, by omega, rfl⟩, ?_⟩
  show g.recs.length + 1 - (((k + 1 + 1 : Nat) : Int)).toNat < g.recs.length + 1 - (((k + 1 : Nat) : Int)).toNat
  simp only [Int.toNat_natCast]
  omega
end

/-- How many sectors a life's log has. -/
def LifeA.sz (x : LifeA) : Nat := (1 + x.cnt % 40).toNat
theorem LifeA.sz_in (x : LifeA) : (x.sz : Int) = 1 + x.cnt % 40 ∧ 1 ≤ x.sz ∧ x.sz ≤ 40 := by
  have := emod_in x.cnt (m := 40) (by omega)
  unfold LifeA.sz
  omega
section
variable {w : World} {R : Ending → World → Prop}
theorem lsize_c {x : LifeA} (h : ∀ w', Kp no w w' → R (.returned (.int .i64 (x.sz : Int))) w') : GoC Try.prog F_law06_Life_size #[.agg x.v] w R := by
  refine S_law06_Life_size ?_
  unfold W_law06_Life_size
  refine AlF.intro fun b1 w1 hb1e hb1 k1 _ => ⟨_, hb1.at rfl rfl, brought_c (by omega) (by omega) ⟨_, rfl, ?_⟩⟩
  have := x.sz_in
  rw [wrap_i64 (by omega) (by omega), ← this.1]
  exact h w1 k1
theorem forces_c {W : World} {x : LifeA} {n : Nat} (hx : x.Ok W) (k0 : Kp no W w) (hn : 1 ≤ n) (hn2 : n ≤ 1000) (h : ∀ (k : Nat) w', Kp no w w' → k ≤ n → R (.returned (.int .i64 (k : Int))) w') : GoC Try.prog F_law06_Life_forces #[.agg x.v, .int .i64 (n : Int)] w R := by
  refine S_law06_Life_forces ?_
  unfold W_law06_Life_forces
  refine AlF.intro fun b1 w1 hb1e hb1 k1 _ => ⟨_, _, _, hb1.at (add1 _ _) rfl, cond_d (fun hgt => h 0 w1 k1 (by omega)) (fun hle => ⟨_, _, _, hb1.at (add1 _ _) rfl, ?_⟩)⟩
  have e1 : IntKind.wrap .i64 ((n : Int) - 1) = ((n - 1 : Nat) : Int) := by rw [wrap_i64 (by omega) (by omega)]; omega
  rw [e1]
  have hnl : n - 1 < x.F.length := by omega
  refine rdI (i := n - 1) ((hx.f.rd.kp0 k0).kp0 k1) (v := iv x.F[n - 1]) (by simp [hnl]) rfl hnl fun b o ha hc => ⟨_, hc, brought_c (by omega) (by omega) ⟨_, rfl, cond_eq (fun _ => h n w1 k1 (Nat.le_refl _)) (fun _ => cond_eq (fun _ => h (n - 1) w1 k1 (by omega)) (fun _ => h 0 w1 k1 (by omega)))⟩⟩
theorem opened_c {ow : Nat → Nat} {t : Nat} {x : LifeA} (hK : ∀ db lb w' ow', DX w' ow' t db (Dv.new (x.sz + 3)) → LG w' ow' t lb db ⟨2, x.sz, [], 0, 0⟩ → Fro (To t) w ow w' ow' → R (.returned (.tuple #[.pointer (some ⟨db, 0, none⟩), .pointer (some ⟨lb, 0, none⟩)])) w') : GoC Try.prog F_law06_Life_opened #[.agg x.v] w R := by
  refine S_law06_Life_opened ?_
  unfold W_law06_Life_opened
  have hsz := x.sz_in
  refine Loc.al (Kp.refl _ w) fun b1 w1 h1 k1 g1 => ?_
  have h1 : Loc w w1 b1 x.v T_quotalaw06_Life := h1
  refine ⟨_, _, _, _, _, _, _, ⟨h1.at rfl rfl, h1.at (add1 _ _) rfl, h1.at (add1 _ _) rfl, trivial⟩, lsize_c (x := x) fun w2 k2 => ⟨_, rfl, ?_⟩⟩
  have e1 : IntKind.wrap .i64 (IntKind.wrap .i64 (2 + (x.sz : Int)) + 1) = ((x.sz + 3 : Nat) : Int) := by
    rw [wrap_i64 (x := 2 + (x.sz : Int)) (by omega) (by omega), wrap_i64 (by omega) (by omega)]
    omega
  rw [e1]
  have h2 := h1.kp' k2
  refine new_c (ow := ow) (n := x.sz + 3) (by omega) (by omega) t fun db w3 ow3 D3 k3 ag3 ge3 => ⟨_, _, rfl, cond_f rfl (num_c ⟨_, rfl, cond_f rfl ?_⟩)⟩
  have h3 := h2.kp' k3
  refine ⟨_, _, _, _, _, _, _, ⟨h3.at rfl rfl, h3.at (add1 _ _) rfl, h3.at (add1 _ _) rfl, trivial⟩, lsize_c (x := x) fun w4 k4 => ⟨_, rfl, ?_⟩⟩
  have D4 := D3.kp0 k4
  have F4 : Fro (To t) w ow w4 ow3 := ⟨((h2.kp.trans0 k3).trans0 k4).of_no, fun j hj _ => by rw [ag3 j (by have := h2.kp.size; omega)]⟩
  have eo : openR (Dv.new (x.sz + 3)) ((2 : Nat) : Int) ((x.sz : Nat) : Int) = ((0, 0), Dv.new (x.sz + 3), []) := open_zero (new_ok (by omega) (by omega)) rfl rfl (by rw [new_n]; omega) (by omega) (by omega) fun k hk => sect_new (by omega)
  have eo : openR (Dv.new (x.sz + 3)) 2 ((x.sz : Nat) : Int) = ((0, 0), Dv.new (x.sz + 3), []) := eo
  refine open_c (t := t) D4 (new_sm _ _) ⟨by omega, by omega⟩ ⟨by omega, by omega⟩ (fun hne => absurd (by rw [eo]) hne) fun _ lb w5 ow5 D5 L5 f5 _ => ⟨_, _, rfl, .inl ⟨rfl, cond_f rfl ?_⟩⟩
  rw [eo] at D5 L5
  have e2 : Int.toNat 2 = 2 := rfl
  rw [e2, Int.toNat_natCast] at L5
  exact hK db lb w5 ow5 D5 L5 (F4.trans f5)
end
end Go.Proofs.Ytkfdkcclojepnaa

/- The statements' lent and kept of layer 6. Conditions: the lists' bytes are below 2^47. -/
set_option linter.unusedVariables false
set_option linter.unusedSimpArgs false
namespace Go.Proofs.Ytkfdkcclojepnaa
open Go Go.RowKit

def mkl : LV := ⟨-7, 0, false, false⟩
def mkd : DV := ⟨-7, 0⟩
/-- Lists of their own, a mark behind each. -/
structure OwnM (w w' : World) (r : RV) (m : Mm) : Prop where
  l : Sl w' T_api_Live 4 m.la (m.ll + 1) m.lc (flatV LV.cs (r.live ++ [mkl]))
  d : Sl w' T_api_Dirty 2 m.da (m.dl + 1) m.dc (flatV DV.cs (r.dirty ++ [mkd]))
  ll : r.live.length = m.ll
  dl : r.dirty.length = m.dl
  fl : Fresh w m.la
  fd : Fresh w m.da
  ap : ∀ k, Is m.la k → ¬ Is m.da k
theorem rd_init {α : Type} {f : α → List Value} {w : World} {a : Option Addr} {L M : List α} (h : Rd w a (flatV f (L ++ M))) : Rd w a (flatV f L) := by
  rw [flatV_app] at h
  have := h.take (flatV f L).length
  rwa [List.take_left] at this
theorem OwnM.li {w w' : World} {r : RV} {m : Mm} (h : OwnM w w' r m) (hl : m.ll < 140737488355329) (hd : m.dl < 140737488355329) : LiIn w' m r.live r.dirty := ⟨rd_init h.l.rd, h.ll, hl, rd_init h.d.rd, h.dl, hd⟩

section
variable {P : Program}
/-- A list copied, with a mark behind it. -/
theorem marked {t e ty : TypeId} {z : Value} {s by_ : Nat} (hr : ElemRow P t e z s by_) {w : World} {a : Option Addr} {l c : Nat} {xs mk : List Value} (hx : Rd w a xs) (hl : xs.length = l * s) (h0 : a = none → l = 0) (h1 : ∀ u ∈ xs, u.oneCell' = true) (hm : mk.length = s) (hm1 : ∀ u ∈ mk, u.oneCell' = true)
    (h63 : l + 1 ≤ 9223372036854775807) (hb : (l + 1) * by_ ≤ 140737488355328) {K : Option Addr → Nat → Nat → World → Prop}
    (h : ∀ a' c' w', Sl w' e s a' (l + 1) c' (xs ++ mk) → Kp no w w' → Fresh w a' → K a' (l + 1) c' w') :
    RunF P (Builtin.append_ #[t, t] ty #[.slice none 0 0, .slice a l c]) w fun r1 w3 => ∃ (a4 : Option Addr) (l4 c4 : Nat), r1 = .slice a4 l4 c4 ∧ AlF w3 (.cells mk.toArray e) fun b w4 => RunF P (Builtin.append_ #[t, t] ty #[.slice a4 l4 c4, .slice (some ⟨b, 0, none⟩) 1 1]) w4 fun r2 w5 => ∃ (a5 : Option Addr) (l5 c5 : Nat), r2 = .slice a5 l5 c5 ∧ K a5 l5 c5 w5 := by
  have hle : l * by_ ≤ (l + 1) * by_ := Nat.mul_le_mul_right _ (by omega)
  refine append_new hr hx hl h0 h1 (by omega) (by omega) fun a4 c4 w3 hs3 k3 hf3 _ => ⟨_, _, _, rfl, AlF.intro fun b w4 hbe hblk k4 _ => ?_⟩
  have hn : Rd w4 (some ⟨b, 0, none⟩) mk := rd_cells hblk rfl
  refine append_own hr (hs3.kp0 k4) hn (by rw [hm, Nat.one_mul]) (fun h => by cases h) hm1 h63 hb fun a5 c5 w5 hs5 k5 hi5 _ _ => ⟨_, _, _, rfl, ?_⟩
  refine h a5 c5 w5 hs5 ?_ fun k hk => ?_
  · exact (k3.trans0 k4).trans k5 (fun _ _ h => h) fun j hj hh => by have := hf3 j hh; omega
  · rcases hi5 k hk with hh | hh
    · exact hf3 k hh
    · have := k3.size
      have := k4.size
      omega
end
set_option maxHeartbeats 2000000 in
theorem mlent_c {w : World} {r : RV} {m : Mm} {R : Ending → World → Prop} (hi : LiIn w m r.live r.dirty) (hl : (m.ll + 1) * 24 ≤ 140737488355328) (hd : (m.dl + 1) * 16 ≤ 140737488355328)
    (h : ∀ m' w', Kp no w w' → OwnM w w' r m' → m'.ll = m.ll → m'.dl = m.dl → R (.returned (.agg (r.ca m'))) w') : GoC Try.prog F_law06_lent #[.agg (r.ca m)] w R := by
  refine S_law06_lent ?_
  unfold W_law06_lent
  have hll := hi.ll
  have hdl := hi.dl
  obtain ⟨nl, nd⟩ := hi.nl
  refine Loc.al (Kp.refl _ w) fun b1 w1 h1 k1 g1 => Loc.al h1.kp fun b2 w2 h2 k2 g2 => ?_
  have s0 := h1.blk.lt
  have h1 : Loc w w2 b1 (r.ca m) T_api_Record := h1.kp' k2
  have h2 : Loc w w2 b2 (({} : RV).ca {}) T_api_Record := h2
  have s2 := h2.blk.lt
  have hne : b1 ≠ b2 := by omega
  refine ⟨_, _, _, h1.at rfl rfl, ?_⟩
  refine marked er_lv (mk := mkl.cs) (hi.kp0 h1.kp).l (by rw [flatV_len LV.csl, hll]) nl (flatV_one LV.cs1 _) (LV.csl _) (LV.cs1 _) (by omega) hl fun a5 c5 w5 hs5 k5 hf5 => ?_
  have lt5 := hs5.lt
  have h15 := h1.kp' k5
  have h25 := h2.kp' k5
  refine ⟨_, _, _, h15.at rfl rfl, ?_⟩
  refine marked er_dv (mk := mkd.cs) (hi.kp0 h15.kp).d (by rw [flatV_len DV.csl, hdl]) nd (flatV_one DV.cs1 _) (DV.csl _) (DV.cs1 _) (by omega) hd fun a8 c8 w8 hs8 k8 hf8 => ?_
  have h18 := h15.kp' k8
  have h28 := h25.kp' k8
  have hs5 := hs5.kp0 k8
  have e1 : IntKind.wrap .i64 (((m.ll + 1 : Nat) : Int) - 1) = (m.ll : Int) := by rw [wrap_i64 (by omega) (by omega)]; omega
  have e2 : IntKind.wrap .i64 (((m.dl + 1 : Nat) : Int) - 1) = (m.dl : Int) := by rw [wrap_i64 (by omega) (by omega)]; omega
  rw [e1, e2, subA_zero, subA_zero, Int.toNat_natCast, Int.toNat_natCast]
  have hc5 := hs5.2.1
  have hc8 := hs8.2.1
  refine ⟨⟨by omega, by omega⟩, trivial, ?_⟩
  refine h18.st rfl (Nat.le_of_ble_eq_true rfl) fun w9 h19 k9 => ⟨⟨by omega, by omega⟩, trivial, ?_⟩
  refine h19.st rfl (Nat.le_of_ble_eq_true rfl) fun w10 h110 k10 => ?_
  have h110 : Loc w w10 b1 (r.ca ⟨a5, m.ll, c5, a8, m.dl, c8⟩) T_api_Record := h110
  have k810 := k9.trans0 k10
  have h210 : Loc w w10 b2 (({} : RV).ca {}) T_api_Record := ⟨k810.blk h28.blk (fun hh => hne hh.symm), h28.nw, h110.kp⟩
  refine rec_rd h110.blk (rec_st h210.blk r ⟨a5, m.ll, c5, a8, m.dl, c8⟩ fun w11 hb11 k11 => rec_rd hb11 ?_)
  have s1 := h1.blk.lt
  have z5 := h15.kp.size
  have z2 := k5.size
  have z8 := k8.size
  have l11 : Sl w11 T_api_Live 4 a5 (m.ll + 1) c5 (flatV LV.cs r.live ++ mkl.cs) := (hs5.kp k810 fun j hj hh => by have := hf5 j hj; omega).kp k11 fun j hj hh => by have := hf5 j hj; omega
  have d11 : Sl w11 T_api_Dirty 2 a8 (m.dl + 1) c8 (flatV DV.cs r.dirty ++ mkd.cs) := (hs8.kp k810 fun j hj hh => by have := hf8 j hj; omega).kp k11 fun j hj hh => by have := hf8 j hj; omega
  have e3 : flatV LV.cs r.live ++ mkl.cs = flatV LV.cs (r.live ++ [mkl]) := by rw [flatV_app]; simp [flatV]
  have e4 : flatV DV.cs r.dirty ++ mkd.cs = flatV DV.cs (r.dirty ++ [mkd]) := by rw [flatV_app]; simp [flatV]
  rw [e3] at l11
  rw [e4] at d11
  have z12 := h2.kp.size
  refine h ⟨a5, m.ll, c5, a8, m.dl, c8⟩ w11 (kp_blk h210.kp h210.nw k11) ⟨l11, d11, hll, hdl, fun j hj => by have := hf5 j hj; omega, fun j hj => by have := hf8 j hj; omega, fun j h1 h2 => ?_⟩ rfl rfl
  have := hf8 j h2
  have := lt5 j h1
  omega

/-- The cells of an element of an owned slice are written. -/
theorem wrL {w : World} {b l c k : Nat} {xs : List Value} (h : Sl w T_api_Live 4 (some ⟨b, 0, none⟩) l c xs) (hk : k < l) {v0 v1 v2 v3 : Value} {K : World → Prop}
    (hK : ∀ w' xs', Sl w' T_api_Live 4 (some ⟨b, 0, none⟩) l c xs' → Kp (Is (some ⟨b, 0, none⟩)) w w' → K w') :
    StF w ((⟨b, 0, none⟩ : Addr).add (k * 4)) v0 fun w1 => StF w1 (Addr.add ((⟨b, 0, none⟩ : Addr).add (k * 4)) 1) v1 fun w2 => StF w2 (Addr.add ((⟨b, 0, none⟩ : Addr).add (k * 4)) 2) v2 fun w3 => StF w3 (Addr.add ((⟨b, 0, none⟩ : Addr).add (k * 4)) 3) v3 K :=
  h.putv (i := k * 4) (by omega) (by rw [add_at, Nat.zero_add]) fun w1 h1 k1 _ => h1.putv (i := k * 4 + 1) (by omega) (by rw [add_at, add_at, Nat.zero_add]) fun w2 h2 k2 _ => h2.putv (i := k * 4 + 2) (by omega) (by rw [add_at, add_at, Nat.zero_add]) fun w3 h3 k3 _ => h3.putv (i := k * 4 + 3) (by omega) (by rw [add_at, add_at, Nat.zero_add]) fun w4 h4 k4 _ =>
    hK w4 _ h4 (((k1.trans0 k2).trans0 k3).trans0 k4)
theorem wrD {w : World} {b l c k : Nat} {xs : List Value} (h : Sl w T_api_Dirty 2 (some ⟨b, 0, none⟩) l c xs) (hk : k < l) {v0 v1 : Value} {K : World → Prop}
    (hK : ∀ w' xs', Sl w' T_api_Dirty 2 (some ⟨b, 0, none⟩) l c xs' → Kp (Is (some ⟨b, 0, none⟩)) w w' → K w') :
    StF w ((⟨b, 0, none⟩ : Addr).add (k * 2)) v0 fun w1 => StF w1 (Addr.add ((⟨b, 0, none⟩ : Addr).add (k * 2)) 1) v1 K :=
  h.putv (i := k * 2) (by omega) (by rw [add_at, Nat.zero_add]) fun w1 h1 k1 _ => h1.putv (i := k * 2 + 1) (by omega) (by rw [add_at, add_at, Nat.zero_add]) fun w2 h2 k2 _ => hK w2 _ h2 (k1.trans0 k2)
set_option maxHeartbeats 4000000 in
theorem mkept_c {w : World} {r : RV} {mo m : Mm} {R : Ending → World → Prop} (hl : Sl w T_api_Live 4 mo.la (mo.ll + 1) mo.lc (flatV LV.cs (r.live ++ [mkl]))) (hd : Sl w T_api_Dirty 2 mo.da (mo.dl + 1) mo.dc (flatV DV.cs (r.dirty ++ [mkd]))) (hll : r.live.length = mo.ll) (hdl : r.dirty.length = mo.dl) (hap : ∀ k, Is mo.la k → ¬ Is mo.da k)
    (hi : LiIn w m r.live r.dirty) (h : ∀ w', Kp (fun j => Is mo.la j ∨ Is mo.da j) w w' → R (.returned (.bool true)) w') : GoC Try.prog F_law06_kept #[.agg (r.ca mo), .agg (r.ca m)] w R := by
  refine S_law06_kept ?_
  unfold W_law06_kept
  have hml := hi.ll
  have hmd := hi.dl
  have hlb := hi.lb
  have hdb := hi.db
  refine Loc.al (Kp.refl _ w) fun b1 w1 h1 k1 g1 => Loc.al h1.kp fun b2 w2 h2 k2 g2 => ?_
  have h1 : Loc w w2 b1 (r.ca mo) T_api_Record := h1.kp' k2
  have h2 : Loc w w2 b2 (r.ca m) T_api_Record := h2
  have hl2 := hl.kp0 h2.kp
  have hd2 := hd.kp0 h2.kp
  have e1 : IntKind.wrap .i64 (((m.ll : Nat) : Int) + 1) = ((mo.ll + 1 : Nat) : Int) := by rw [wrap_i64 (by omega) (by omega)]; omega
  have e2 : IntKind.wrap .i64 (((m.dl : Nat) : Int) + 1) = ((mo.dl + 1 : Nat) : Int) := by rw [wrap_i64 (by omega) (by omega)]; omega
  have hlc := hl.2.1
  have hdc := hd.2.1
  refine ⟨_, _, _, h2.at rfl rfl, _, _, _, h2.at rfl rfl, _, _, _, h1.at rfl rfl, ?_⟩
  rw [e1, e2, subA_zero, Int.toNat_natCast]
  refine ⟨⟨by omega, by omega⟩, trivial, _, _, _, h1.at rfl rfl, ?_⟩
  rw [subA_zero, Int.toNat_natCast]
  refine ⟨⟨by omega, by omega⟩, trivial, ?_⟩
  have li1 : LiIn w2 mo r.live r.dirty := ⟨rd_init hl2.rd, hll, by omega, rd_init hd2.rd, hdl, by omega⟩
  refine rec_rd h1.blk (rec_rd h2.blk (rsame_c (r := r) (q := r) (m := mo) (n := m) li1 (hi.kp0 h2.kp) fun w3 k3 => ⟨_, rfl, ?_⟩))
  rw [decide_eq_true rfl]
  have hl3 := hl2.kp0 k3
  have hd3 := hd2.kp0 k3
  have k03 := h2.kp.trans0 k3
  obtain ⟨bl, cl, hal, _⟩ := hl3.addr (by omega)
  obtain ⟨bd, cd, had, _⟩ := hd3.addr (by omega)
  have g1 : ∀ h, (r.live ++ [mkl])[m.ll]'h = mkl := fun h => by
    rw [List.getElem_append_right (by omega)]
    simp
  have g2 : ∀ h, (r.dirty ++ [mkd])[m.dl]'h = mkd := fun h => by
    rw [List.getElem_append_right (by omega)]
    simp
  have q1 : (r.live ++ [mkl]).length = mo.ll + 1 := by simp [hll]
  have q2 : (r.dirty ++ [mkd]).length = mo.dl + 1 := by simp [hdl]
  refine cond_t rfl ?_
  refine rd_el LV.csl (by omega) hl3.rd (k := m.ll) (by omega) q1 fun b o ha hc => ⟨-7, 0, false, false, ⟨?_, ?_, ?_, ?_, trivial⟩, cond_t rfl ?_⟩
  · first | rw [Int.toNat_natCast, add_at] | rw [add_at]
    exact hc 0 _ (by rw [g1]; rfl)
  · first | rw [Int.toNat_natCast, add_at, add_at] | rw [add_at, add_at]
    exact hc 1 _ (by rw [g1]; rfl)
  · first | rw [Int.toNat_natCast, add_at, add_at] | rw [add_at, add_at]
    exact hc 2 _ (by rw [g1]; rfl)
  · first | rw [Int.toNat_natCast, add_at, add_at] | rw [add_at, add_at]
    exact hc 3 _ (by rw [g1]; rfl)
  refine rd_el DV.csl (by omega) hd3.rd (k := m.dl) (by omega) q2 fun b' o' ha' hc' => ⟨-7, 0, ⟨?_, ?_, trivial⟩, ?_⟩
  · first | rw [Int.toNat_natCast, add_at] | rw [add_at]
    exact hc' 0 _ (by rw [g2]; rfl)
  · first | rw [Int.toNat_natCast, add_at, add_at] | rw [add_at, add_at]
    exact hc' 1 _ (by rw [g2]; rfl)
  clear hc hc'
  -- the live ones are written over
  refine loopN (fun s w' => ∃ i : Nat, i ≤ mo.ll + 1 ∧ s.1 = (i : Int) ∧ ∃ xs, Sl w' T_api_Live 4 mo.la (mo.ll + 1) mo.lc xs ∧ Kp (Is mo.la) w3 w') (fun s _ => mo.ll + 1 - s.1.toNat) ⟨0, by omega, rfl, _, hl3, Kp.refl _ _⟩ ?_
  rintro ⟨i0, u⟩ w4 ⟨i, hi1, hi0, xs, sl4, k34⟩ _
  dsimp only at hi0 ⊢
  subst hi0
  refine cond_d (fun hle => ?_) (fun hgt => ?_)
  · have wi : IntKind.wrap .i64 ((i : Int) + 1) = ((i + 1 : Nat) : Int) := by rw [wrap_i64 (by omega) (by omega)]; omega
    refine ⟨by omega, by omega, _, hal, ?_⟩
    rw [Int.toNat_natCast]
    rw [hal] at sl4
    refine wrL sl4 (by omega) fun w5 xs' h5 k5 => ?_
    rw [wi]
    refine ⟨⟨i + 1, by omega, rfl, xs', by rw [hal]; exact h5, k34.trans0 (by rw [hal]; exact k5)⟩, ?_⟩
    show mo.ll + 1 - (((i + 1 : Nat) : Int)).toNat < mo.ll + 1 - ((i : Nat) : Int).toNat
    simp only [Int.toNat_natCast]
    omega
  have sd4 : Sl w4 T_api_Dirty 2 mo.da (mo.dl + 1) mo.dc (flatV DV.cs (r.dirty ++ [mkd])) := hd3.kp k34 fun j hj hh => hap j hh hj
  have k34' : Kp (fun j => Is mo.la j ∨ Is mo.da j) w3 w4 := k34.mono fun _ _ h => .inl h
  refine loopN (fun s w' => ∃ i : Nat, i ≤ mo.dl + 1 ∧ s.1 = (i : Int) ∧ ∃ xs, Sl w' T_api_Dirty 2 mo.da (mo.dl + 1) mo.dc xs ∧ Kp (fun j => Is mo.la j ∨ Is mo.da j) w3 w') (fun s _ => mo.dl + 1 - s.1.toNat) ⟨0, by omega, rfl, _, sd4, k34'⟩ ?_
  rintro ⟨i0, u2⟩ w5 ⟨i2, hi2, hi0, xs2, sd5, k35⟩ _
  dsimp only at hi0 ⊢
  subst hi0
  refine cond_d (fun hle => ?_) (fun hgt => h w5 (k03.of_no.trans0 k35))
  have wi : IntKind.wrap .i64 ((i2 : Int) + 1) = ((i2 + 1 : Nat) : Int) := by rw [wrap_i64 (by omega) (by omega)]; omega
  refine ⟨by omega, by omega, _, had, ?_⟩
  rw [Int.toNat_natCast]
  rw [had] at sd5
  refine wrD sd5 (by omega) fun w6 xs' h6 k6 => ?_
  rw [wi]
  refine ⟨⟨i2 + 1, by omega, rfl, xs', by rw [had]; exact h6, k35.trans0 (k6.mono fun _ _ h => .inr (by rw [had]; exact h))⟩, ?_⟩
  show mo.dl + 1 - (((i2 + 1 : Nat) : Int)).toNat < mo.dl + 1 - ((i2 : Nat) : Int).toNat
  simp only [Int.toNat_natCast]
  omega
end Go.Proofs.Ytkfdkcclojepnaa

/- LogNewMemory's walk. Conditions: none. -/
set_option linter.unusedVariables false
set_option linter.unusedSimpArgs false
namespace Go.Proofs.Ytkfdkcclojepnaa
open Go Go.RowKit Go.ChangeShapes Go.WideShapes

theorem er_sl : ElemRow Try.prog T_s_s_api_Live T_s_api_Live (.slice none 0 0) 1 24 := elemRow (by kernel_rfl) (by kernel_rfl) rfl
theorem er_sd : ElemRow Try.prog T_s_s_api_Dirty T_s_api_Dirty (.slice none 0 0) 1 24 := elemRow (by kernel_rfl) (by kernel_rfl) rfl
theorem i64_8 : i64 8 := by decide
abbrev N62 : Nat → Prop := fun u => u = 0 ∨ 62 ≤ u
abbrev N60 : Nat → Prop := fun u => u = 0 ∨ 60 ≤ u
theorem N60.l {u : Nat} (h : N60 u) : Tl 10 u := by have h' : u = 0 ∨ 60 ≤ u := h; exact ⟨by omega, by omega, by omega⟩
theorem N60.o {u : Nat} (h : N60 u) : To 10 u := by have h' : u = 0 ∨ 60 ≤ u := h; exact ⟨⟨by omega, by omega, by omega⟩, by omega, by omega, by omega⟩
def mL (m : Mm) : SI := ⟨m.la, m.ll, m.lc⟩
def mD (m : Mm) : SI := ⟨m.da, m.dl, m.dc⟩
/-- Records that have been got. -/
structure GX (w : World) (ow : Nat → Nat) (a : Option Addr) (c : Nat) (Rs : List RV) (ms : List Mm) : Prop where
  ml : ms.length = Rs.length
  rs : SlT w ow T_api_Record 17 a Rs.length c (flatV cR (List.zip Rs ms)) 80
  lv : Fam w ow T_api_Live 4 1000 (ms.map mL) (fun _ => [])
  dv : Fam w ow T_api_Dirty 2 2000 (ms.map mD) (fun _ => [])
  z : ∀ k (h : k < ms.length), (ms[k]).ll = 0 ∧ (ms[k]).dl = 0
theorem GX.fr {T : Nat → Prop} {w w' : World} {ow ow' : Nat → Nat} {a : Option Addr} {c : Nat} {Rs : List RV} {ms : List Mm} (h : GX w ow a c Rs ms) (f : Fro T w ow w' ow') (h0 : T 80) (h1 : ∀ u, 1000 ≤ u → T u) : GX w' ow' a c Rs ms :=
  ⟨h.ml, h.rs.fr f h0, h.lv.fr f fun j _ => h1 _ (by omega), h.dv.fr f fun j _ => h1 _ (by omega), h.z⟩
theorem GX.nil (w : World) (ow : Nat → Nat) : GX w ow none 0 [] [] := ⟨rfl, slt_nil _ _ _ _ _, Fam.nil, Fam.nil, fun k h => absurd h (by simp)⟩
/-- A log whose records have no lists. -/
def NoL (recs : List RV) : Prop := ∀ k (h : k < recs.length), (recs[k]).live = [] ∧ (recs[k]).dirty = []

/-- One that has been got more. -/
theorem GX.snoc {w w0 w2 w3 w4 : World} {ow : Nat → Nat} {a a' : Option Addr} {c c' : Nat} {Rs : List RV} {ms : List Mm} {r : RV} {m : Mm} (h : GX w ow a c Rs ms) (hl : r.live = []) (hd : r.dirty = []) (ho : OwnL w w0 r m) (k0 : Kp no w w0) :
    ∃ ow', Fro (fun _ => True) w ow w0 ow' ∧ SlT w0 ow' T_api_Live 4 m.la 0 m.lc [] (1000 + Rs.length) ∧ SlT w0 ow' T_api_Dirty 2 m.da 0 m.dc [] (2000 + Rs.length) := by
  refine ⟨tag (Is m.la) (1000 + Rs.length) (ext ow w.heap.size (2000 + Rs.length)), Fro.new k0 fun b hb => ?_, ⟨?_, fun j hj => tag_in hj⟩, ⟨?_, fun j hj => ?_⟩⟩
  · rw [tag_out fun hh => by have := ho.fl b hh; omega, ext_old hb]
  · have := ho.l
    rw [hl] at this
    exact this
  · have := ho.d
    rw [hd] at this
    exact this
  · rw [tag_out fun hh => ho.ap j hh hj]
    exact ext_new (ho.fd j hj)
theorem GX.add {w w' : World} {ow ow' : Nat → Nat} {a a' : Option Addr} {c c' : Nat} {Rs : List RV} {ms : List Mm} {r : RV} {m : Mm} (h : GX w ow a c Rs ms) (f : Fro (fun u => u ≠ 80) w ow w' ow') (hs : SlT w' ow' T_api_Record 17 a' (Rs.length + 1) c' (flatV cR (List.zip Rs ms) ++ cR (r, m)) 80)
    (hl : SlT w' ow' T_api_Live 4 m.la 0 m.lc [] (1000 + Rs.length)) (hd : SlT w' ow' T_api_Dirty 2 m.da 0 m.dc [] (2000 + Rs.length)) (hz : m.ll = 0 ∧ m.dl = 0) : GX w' ow' a' c' (Rs ++ [r]) (ms ++ [m]) := by
  have ml := h.ml
  refine ⟨by simp [ml], ?_, ?_, ?_, fun k hk => ?_⟩
  · have elen : (Rs ++ [r]).length = Rs.length + 1 := by simp
    rw [elen, List.zip_append ml.symm, flatV_app]
    have e : flatV cR (List.zip [r] [m]) = cR (r, m) := by simp [flatV]
    rw [e]
    exact hs
  · rw [List.map_append]
    have l0 := h.lv.fr f (fun j _ => by omega)
    have hq : SlQ w' ow' T_api_Live 4 (mL m).a (mL m).l (mL m).c [] (1000 + (ms.map mL).length) := by
      rw [List.length_map, ml]
      show SlQ w' ow' T_api_Live 4 m.la m.ll m.lc [] _
      rw [hz.1]
      exact hl.q
    refine (l0.snoc hq).congr fun j _ => ?_
    split <;> rfl
  · rw [List.map_append]
    have l0 := h.dv.fr f (fun j _ => by omega)
    have hq : SlQ w' ow' T_api_Dirty 2 (mD m).a (mD m).l (mD m).c [] (2000 + (ms.map mD).length) := by
      rw [List.length_map, ml]
      show SlQ w' ow' T_api_Dirty 2 m.da m.dl m.dc [] _
      rw [hz.2]
      exact hd.q
    refine (l0.snoc hq).congr fun j _ => ?_
    split <;> rfl
  · by_cases hkl : k < ms.length
    · have e : (ms ++ [m])[k] = ms[k] := List.getElem_append_left hkl
      rw [e]
      exact h.z k hkl
    · have hke : k = ms.length := by simp at hk; omega
      subst hke
      have e : (ms ++ [m])[ms.length] = m := by simp
      rw [e]
      exact hz

set_option maxRecDepth 100000 in
set_option maxHeartbeats 16000000 in
theorem newmem_law {W : World} {x : LifeA} {R : Ending → World → Prop} (hx : x.Ok W) (hK : ∀ w', Kp no W w' → R (.returned (.bool true)) w') : GoC Try.prog F_law06_LogNewMemory #[.agg x.v] W R := by
  refine S_law06_LogNewMemory ?_
  unfold W_law06_LogNewMemory
  have hsz := x.sz_in
  refine AlF.intro fun b1 w1 hb1e hb1 k1 _ => ?_
  have hb1 : Blk w1 b1 x.v T_quotalaw06_Life := hb1
  have o0 : Old W W fun _ => 0 := ⟨Kp.refl _ _, fun _ _ => rfl⟩
  have f1 : Fro (fun _ => True) W (fun _ => 0) w1 (ext (fun _ => 0) W.heap.size 63) := Fro.of_kp0 63 k1
  have t1 : ext (fun _ => 0) W.heap.size 63 b1 = 63 := ext_new (by omega)
  have o1 := o0.fr f1 trivial
  generalize ext (fun _ => 0) W.heap.size 63 = ow1 at *
  refine ⟨_, _, _, _, _, _, _, ⟨hb1.at rfl rfl, hb1.at (add1 _ _) rfl, hb1.at (add1 _ _) rfl, trivial⟩, ?_⟩
  refine opened_c (t := 10) (ow := ow1) (x := x) fun db lb w3 ow3 d3 l3 f3 => ⟨_, _, rfl, cond_f rfl (awake_c fun w4 k4 => ⟨_, rfl, cond_f rfl ?_⟩)⟩
  have f4 : Fro (fun _ => True) w3 ow3 w4 ow3 := Fro.kp0 k4
  have l4 := l3.fr f4 trivial trivial trivial trivial trivial
  have F4 : Fro N60 w1 ow1 w4 ow3 := (f3.mono fun _ hu => hu.o).trans (f4.mono fun _ _ => trivial)
  have o4 := o1.fr F4 (.inl rfl)
  obtain ⟨x4, tx4⟩ := blk_fr hb1 t1 F4 (.inr (by omega))
  -- records are appended
  refine ⟨fun s w' => ∃ ow g ms, Old W w' ow ∧ LG w' ow 10 lb db g ∧ g.err = 0 ∧ NoL g.recs ∧ g.recs.length ≤ 30 ∧ AX w' ow s.1.1 s.1.2.2 g.recs ms ∧ s.1.2.1 = g.recs.length, ?_, ?_⟩
  · refine loopN (fun s w' => ∃ i : Nat, i ≤ 30 ∧ s.2.1 = (i : Int) ∧ ∃ ow g ms, Old W w' ow ∧ LG w' ow 10 lb db g ∧ g.err = 0 ∧ NoL g.recs ∧ g.recs.length = i ∧ AX w' ow s.1.1 s.1.2.2 g.recs ms ∧ s.1.2.1 = g.recs.length ∧ Blk w' b1 x.v T_quotalaw06_Life ∧ ow b1 = 63) (fun s _ => 30 - s.2.1.toNat)
      ⟨0, by omega, rfl, ow3, ⟨2, x.sz, [], 0, 0⟩, [], o4, l4, rfl, fun k h => absurd h (by simp), rfl, ⟨rfl, slt_nil _ _ _ _ _, fun k h => absurd h (by simp)⟩, rfl, x4, tx4⟩ ?_
    rintro ⟨⟨a, l, c⟩, i0, u⟩ w5 ⟨i, hi, hi0, ow5, g, ms, o5, l5, he, hno, hgl, A5, hlen, x5, tx5⟩ _
    dsimp only at hi0 A5 hlen ⊢
    subst hi0 hlen
    have fin : ∀ w', Kp no w5 w' → ∃ ow g' ms', Old W w' ow ∧ LG w' ow 10 lb db g' ∧ g'.err = 0 ∧ NoL g'.recs ∧ g'.recs.length ≤ 30 ∧ AX w' ow a c g'.recs ms' ∧ g.recs.length = g'.recs.length := fun w' k =>
      ⟨ow5, g, ms, o5.fr (Fro.kp0 k) trivial, l5.kp0 k, he, hno, by omega, A5.fr (Fro.kp0 k) trivial trivial, rfl⟩
    refine ⟨_, _, _, x5.at (add1 _ _) rfl, cond_d (fun hlt => cond_d (fun hlt2 => ?_) (fun _ => fin w5 (Kp.refl _ _))) (fun _ => fin w5 (Kp.refl _ _))⟩
    refine free_c l5 fun w6 k6 => ⟨_, rfl, cond_d (fun hfr => ?_) (fun _ => fin w6 k6)⟩
    have hil : i < x.R.length := by omega
    have wi : IntKind.wrap .i64 ((i : Int) + 1) = ((i + 1 : Nat) : Int) := by rw [wrap_i64 (by omega) (by omega)]; omega
    have f6 : Fro (fun _ => True) w5 ow5 w6 ow5 := Fro.kp0 k6
    have o6 := o5.fr f6 trivial
    have l6 := l5.fr f6 trivial trivial trivial trivial trivial
    have A6 := A5.fr f6 trivial trivial
    obtain ⟨x6, tx6⟩ := blk_fr x5 tx5 f6 trivial
    have rd := hx.r.rd.kp0 o6.kp
    obtain ⟨b, o, ha⟩ := rcAddr rd hil
    refine ⟨_, _, _, x6.at (add1 _ _) rfl, ⟨by omega, by omega, _, ha, ?_⟩⟩
    rw [Int.toNat_natCast, wi]
    have c0 := rcCell0 rd hil ha
    have cj := rcCell rd hil ha
    refine ⟨_, _, _, _, _, _, _, _, _, _, _, _, _, _, _, _, _, _, _, _, _, ⟨c0 _ rfl, cj 1 _ rfl, cj 2 _ rfl, cj 3 _ rfl, cj 4 _ rfl, cj 5 _ rfl, cj 6 _ rfl, cj 7 _ rfl, cj 8 _ rfl, cj 9 _ rfl, cj 10 _ rfl, cj 11 _ rfl, cj 12 _ rfl, cj 13 _ rfl, cj 14 _ rfl, cj 15 _ rfl, cj 16 _ rfl, trivial⟩, ?_⟩
    have hra := (hx.r.ok _ (List.getElem_mem hil)).kp0 o6.kp
    refine rec_cp (x.R[i]).1 (x.R[i]).2 fun b2 w7 h7 => ?_
    refine h7.st (add1 _ _) (Nat.le_of_ble_eq_true rfl) fun w8 h8 _ => ?_
    have h8 : Loc w6 w8 b2 (({ (x.R[i]).1 with kind := 8 } : RV).ca (x.R[i]).2) T_api_Record := h8
    have hra8 : RArg w8 { (x.R[i]).1 with kind := 8 } (x.R[i]).2 := by
      have := hra.kp0 h8.kp
      exact ⟨this.li, ⟨this.wf.lsn, i64_8, this.wf.tx, this.wf.prev, this.wf.wp, this.wf.wi, this.wf.sp, this.wf.si, this.wf.delta, this.wf.id, this.wf.grp, this.wf.lo, this.wf.hi, this.wf.val, this.wf.next⟩, this.lc, this.dc⟩
    refine rec_rd h8.blk (made_c hra8 ⟨by omega, by omega⟩ fun q m' w9 k9 o9 qc q64 ql qk => ⟨_, _, _, _, _, _, _, _, _, _, _, _, _, _, _, _, _, _, _, _, _, rfl, ?_⟩)
    have qk1 : q.kind = 1 := by rcases qk with h | h; exact h; exact h
    obtain ⟨kk1, kk8, kok⟩ := chk_kind qc
    obtain ⟨z1, z2⟩ := (ok_zero kok kk1 kk8).2 (by show q.kind ≠ 8; omega)
    have z1 : q.live = [] := z1
    have z2 : q.dirty = [] := z2
    have oll := o9.ll
    have odl := o9.dl
    rw [z1] at oll
    rw [z2] at odl
    have oll : m'.ll = 0 := oll
    have odl : m'.dl = 0 := odl
    have h9 := h8.kp' k9
    have f9 : Fro (fun _ => True) w6 ow5 w9 (ext ow5 w6.heap.size 64) := Fro.of_kp0 64 h9.kp
    have tb2 : ext ow5 w6.heap.size 64 b2 = 64 := ext_new h9.nw
    have o9' := o6.fr f9 trivial
    have l9 := l6.fr f9 trivial trivial trivial trivial trivial
    have A9 := A6.fr f9 trivial trivial
    obtain ⟨x9, tx9⟩ := blk_fr x6 tx6 f9 trivial
    have hb9 := h9.blk
    generalize ext ow5 w6.heap.size 64 = ow9 at *
    refine rec_st hb9 q m' fun w10 hb10 k10 => rec_rd hb10 ?_
    have f10 : Fro (fun u => u ≠ 64) w9 ow9 w10 ow9 := Fro.of_kp' k10 fun j _ hj hne => hne (by rw [hj]; exact tb2)
    have o10 := o9'.fr f10 (by omega)
    have l10 := l9.fr f10 (by omega) (by omega) (by omega) (by omega) (by omega)
    have A10 := A9.fr f10 (by omega) (by omega)
    obtain ⟨x10, tx10⟩ := blk_fr x9 tx9 f10 (by omega)
    have li10 : LiIn w10 m' q.live q.dirty := by
      rw [z1, z2]
      exact ⟨Rd.nil _ _, by rw [oll]; rfl, by omega, Rd.nil _ _, by rw [odl]; rfl, by omega⟩
    refine mlent_c (r := q) (m := m') li10 (by rw [oll]; omega) (by rw [odl]; omega) fun mo w11 k11 om mo1 mo2 => ⟨_, _, _, _, _, _, _, _, _, _, _, _, _, _, _, _, _, _, _, _, _, rfl, ?_⟩
    have f11 : Fro (fun _ => True) w10 ow9 w11 (ext ow9 w10.heap.size 70) := Fro.of_kp0 70 k11
    have sl11 : SlT w11 (ext ow9 w10.heap.size 70) T_api_Live 4 mo.la (mo.ll + 1) mo.lc (flatV LV.cs (q.live ++ [mkl])) 70 := ⟨om.l, fun j hj => ext_new (om.fl j hj)⟩
    have sd11 : SlT w11 (ext ow9 w10.heap.size 70) T_api_Dirty 2 mo.da (mo.dl + 1) mo.dc (flatV DV.cs (q.dirty ++ [mkd])) 70 := ⟨om.d, fun j hj => ext_new (om.fd j hj)⟩
    have o11 := o10.fr f11 trivial
    have l11 := l10.fr f11 trivial trivial trivial trivial trivial
    have A11 := A10.fr f11 trivial trivial
    obtain ⟨x11, tx11⟩ := blk_fr x10 tx10 f11 trivial
    obtain ⟨hb11, tb11⟩ := blk_fr hb10 tb2 f11 trivial
    have apm := om.ap
    have omll := om.ll
    have omdl := om.dl
    generalize ext ow9 w10.heap.size 70 = ow11 at *
    refine rec_cp q mo fun b3 w12 h12 => ?_
    have f12 : Fro (fun _ => True) w11 ow11 w12 (ext ow11 w11.heap.size 64) := Fro.of_kp0 64 h12.kp
    have tb3 : ext ow11 w11.heap.size 64 b3 = 64 := ext_new h12.nw
    have sl12 := sl11.fr f12 trivial
    have sd12 := sd11.fr f12 trivial
    have o12 := o11.fr f12 trivial
    have l12 := l11.fr f12 trivial trivial trivial trivial trivial
    have A12 := A11.fr f12 trivial trivial
    obtain ⟨x12, tx12⟩ := blk_fr x11 tx11 f12 trivial
    obtain ⟨hb12, tb12⟩ := blk_fr hb11 tb11 f12 trivial
    have hb312 := h12.blk
    generalize ext ow11 w11.heap.size 64 = ow12 at *
    have li12 : LiIn w12 mo q.live q.dirty := ⟨rd_init sl12.sl.rd, omll, by omega, rd_init sd12.sl.rd, omdl, by omega⟩
    refine rec_rd hb312 (append_c (r := q) (m := mo) l12 li12 q64 fun w13 ow13 l13 f13 => ⟨_, _, rfl, ?_⟩)
    have enx : nxtR g q = { q with lsn := ((i + 1 : Nat) : Int) } := by unfold nxtR; rw [hgl]
    have hcn : chkN (nxtR g q) = 0 := by rw [enx]; exact qc
    have ea : appR g q = ((i + 1, 0), g.add (nxtR g q)) := by
      unfold appR
      rw [if_neg (by omega), if_neg (by omega), if_neg (by omega), hgl]
    rw [ea] at l13 ⊢
    have l13 : LG w13 ow13 10 lb db (g.add (nxtR g q)) := l13
    have sl13 := sl12.fr f13 (by omega)
    have sd13 := sd12.fr f13 (by omega)
    have o13 := o12.fr f13 (by omega)
    have A13 := A12.fr f13 (by omega) (by omega)
    obtain ⟨x13, tx13⟩ := blk_fr x12 tx12 f13 (by omega)
    obtain ⟨hb13, tb13⟩ := blk_fr hb12 tb12 f13 (by omega)
    obtain ⟨hb313, tb313⟩ := blk_fr hb312 tb3 f13 (by omega)
    have li13 : LiIn w13 m' q.live q.dirty := by
      rw [z1, z2]
      exact ⟨Rd.nil _ _, by rw [oll]; rfl, by omega, Rd.nil _ _, by rw [odl]; rfl, by omega⟩
    refine num_c ⟨_, rfl, cond_f rfl ?_⟩
    refine rec_rd hb313 (rec_rd hb13 (mkept_c (r := q) (mo := mo) (m := m') sl13.sl sd13.sl omll omdl apm li13 fun w14 k14 => ⟨_, rfl, cond_f rfl ?_⟩))
    have f14 : Fro (fun u => u ≠ 70) w13 ow13 w14 ow13 := Fro.of_kp' k14 fun j _ hj hne => hne (by rcases hj with h | h; exact sl13.tg j h; exact sd13.tg j h)
    have l14 := l13.fr f14 (by omega) (by omega) (by omega) (by omega) (by omega)
    have o14 := o13.fr f14 (by omega)
    have A14 := A13.fr f14 (by omega) (by omega)
    obtain ⟨x14, tx14⟩ := blk_fr x13 tx13 f14 (by omega)
    obtain ⟨hb14, tb14⟩ := blk_fr hb13 tb13 f14 (by omega)
    refine StF.at rfl hb14 (Nat.le_of_ble_eq_true rfl) fun w15 hb15 k15 _ => ?_
    have hb15 : Blk w15 b2 ((nxtR g q).ca m') T_api_Record := by
      have e : (nxtR g q).ca m' = (q.ca m').setIfInBounds 0 (.int .i64 ((i + 1 : Nat) : Int)) := by rw [enx]; rfl
      rw [e]
      exact hb15
    have f15 : Fro (fun u => u ≠ 64) w14 ow13 w15 ow13 := Fro.of_kp' k15 fun j _ hj hne => hne (by rw [hj]; exact tb14)
    have l15 := l14.fr f15 (by omega) (by omega) (by omega) (by omega) (by omega)
    have o15 := o14.fr f15 (by omega)
    have A15 := A14.fr f15 (by omega) (by omega)
    obtain ⟨x15, tx15⟩ := blk_fr x14 tx14 f15 (by omega)
    refine rec_rd hb15 (AlF.intro fun b4 w16 hb4e hb416 k16 _ => ?_)
    have f16 : Fro (fun _ => True) w15 ow13 w16 (ext ow13 w15.heap.size 64) := Fro.of_kp0 64 k16
    have l16 := l15.fr f16 trivial trivial trivial trivial trivial
    have o16 := o15.fr f16 trivial
    have A16 := A15.fr f16 trivial trivial
    obtain ⟨x16, tx16⟩ := blk_fr x15 tx15 f16 trivial
    generalize ext ow13 w15.heap.size 64 = ow16 at *
    have hb416 : Blk w16 b4 ((nxtR g q).ca m') T_api_Record := hb416
    have aml := A16.ml
    refine app_c er_rec A16.rs (rd_cells hb416 (rfl : _ = cR (nxtR g q, m'))) (by rfl) (fun h => by cases h) (cR_one _) (by omega) (by omega) fun a' c' w17 hs17 k17 f17 => ⟨_, _, _, rfl, ?_⟩
    have l17 := l16.fr f17 (by omega) (by omega) (by omega) (by omega) (by omega)
    have o17 := o16.fr f17 (by omega)
    obtain ⟨x17, tx17⟩ := blk_fr x16 tx16 f17 (by omega)
    have li17 := fun k h' h'' => (A16.li k h' h'').fr f17 (by omega)
    have elen : (g.recs ++ [nxtR g q]).length = g.recs.length + 1 := by simp
    refine ⟨⟨i + 1, by omega, rfl, _, g.add (nxtR g q), ms ++ [m'], o17, l17, he, fun k hk => ?_, by show (g.recs ++ [nxtR g q]).length = _; rw [elen]; omega, ⟨by show (ms ++ [m']).length = (g.recs ++ [nxtR g q]).length; rw [List.length_append, List.length_append, aml]; rfl, ?_, fun k hk1 hk2 => ?_⟩, by show g.recs.length + 1 = (g.recs ++ [nxtR g q]).length; rw [elen], x17, tx17⟩, ?_⟩
    · by_cases hkl : k < g.recs.length
      · have e : (g.add (nxtR g q)).recs[k] = g.recs[k] := List.getElem_append_left hkl
        rw [e]
        exact hno k hkl
      · have hke : k = g.recs.length := by simp [Lg.add] at hk; omega
        subst hke
        have e : (g.add (nxtR g q)).recs[g.recs.length] = nxtR g q := by simp [Lg.add]
        rw [e]
        exact ⟨z1, z2⟩
    · show SlT w17 _ T_api_Record 17 a' (g.recs ++ [nxtR g q]).length c' (flatV cR (List.zip (g.recs ++ [nxtR g q]) (ms ++ [m']))) 60
      rw [elen, List.zip_append aml.symm, flatV_app]
      have e : flatV cR (List.zip [nxtR g q] [m']) = cR (nxtR g q, m') := by simp [flatV]
      rw [e]
      exact hs17
    · by_cases hkl : k < g.recs.length
      · have ea : (g.add (nxtR g q)).recs[k] = g.recs[k] := List.getElem_append_left hkl
        have eb : (ms ++ [m'])[k] = ms[k]'(by rw [aml]; exact hkl) := List.getElem_append_left (by rw [aml]; exact hkl)
        rw [ea, eb]
        exact li17 k hkl _
      · have hke : k = g.recs.length := by simp [Lg.add] at hk1; omega
        subst hke
        have ea : (g.add (nxtR g q)).recs[g.recs.length] = nxtR g q := by simp [Lg.add]
        have eb : (ms ++ [m'])[g.recs.length] = m' := by simp [← aml]
        rw [ea, eb]
        refine ⟨?_, ?_, by omega, ?_, ?_, by omega⟩
        · show RdT _ _ _ _ (flatV LV.cs q.live)
          rw [z1]
          exact fun i v hv => by simp [flatV] at hv
        · show q.live.length = _
          rw [z1, oll]
          rfl
        · show RdT _ _ _ _ (flatV DV.cs q.dirty)
          rw [z2]
          exact fun i v hv => by simp [flatV] at hv
        · show q.dirty.length = _
          rw [z2, odl]
          rfl
    · show 30 - (((i + 1 : Nat) : Int)).toNat < 30 - ((i : Nat) : Int).toNat
      simp only [Int.toNat_natCast]
      omega
  rintro ⟨⟨aa, la, ca⟩, u⟩ w5 ⟨ow5, g, msa, o5, l5, he, hno, hg30, A5, hlen⟩ _
  dsimp only at A5 hlen ⊢
  subst hlen
  clear l4 o4 F4 f4 x4 tx4
  -- they are got, three times
  refine loopN (fun s w' => ∃ t : Nat, t ≤ 3 ∧ s.2.1 = (t : Int) ∧ ∃ ow Rs ms, Old W w' ow ∧ LG w' ow 10 lb db g ∧ AX w' ow aa ca g.recs msa ∧ GX w' ow s.1.1 s.1.2.2 Rs ms ∧ s.1.2.1 = Rs.length ∧ Rs.length = t * g.recs.length ∧ (∀ k (h : k < Rs.length) (h' : k % g.recs.length < g.recs.length), Rs[k] = g.recs[k % g.recs.length])) (fun s _ => 3 - s.2.1.toNat)
    ⟨0, by omega, rfl, ow5, [], [], o5, l5, A5, GX.nil _ _, rfl, by simp, fun k h => absurd h (by simp)⟩ ?_
  rintro ⟨⟨ga, gl, gc⟩, t0, u⟩ w6 ⟨t, ht3, ht0, ow6, Rs, ms, o6, l6, A6, G6, hgl, hRl, hRs⟩ _
  dsimp only at ht0 G6 hgl ⊢
  subst ht0 hgl
  refine cond_d (fun hlt => ?_) (fun hge => ?_)
  · -- one turn
    have wt : IntKind.wrap .i64 ((t : Int) + 1) = ((t + 1 : Nat) : Int) := by rw [wrap_i64 (by omega) (by omega)]; omega
    have n0 : t * g.recs.length ≤ 2 * 30 := Nat.mul_le_mul (by omega) hg30
    refine loopN (fun s w' => ∃ i : Nat, i ≤ g.recs.length ∧ s.2.1 = ((i + 1 : Nat) : Int) ∧ ∃ ow Rs ms, Old W w' ow ∧ LG w' ow 10 lb db g ∧ AX w' ow aa ca g.recs msa ∧ GX w' ow s.1.1 s.1.2.2 Rs ms ∧ s.1.2.1 = Rs.length ∧ Rs.length = t * g.recs.length + i ∧ (∀ k (h : k < Rs.length) (h' : k % g.recs.length < g.recs.length), Rs[k] = g.recs[k % g.recs.length])) (fun s _ => g.recs.length + 1 - s.2.1.toNat)
      ⟨0, Nat.zero_le _, rfl, ow6, Rs, ms, o6, l6, A6, G6, rfl, hRl, hRs⟩ ?_
    clear o6 l6 A6 G6 hRl hRs
    rintro ⟨⟨ga, gl, gc⟩, i0, u⟩ w7 ⟨i, hi, hi0, ow7, Rs, ms, o7, l7, A7, G7, hgl, hRl, hRs⟩ _
    dsimp only at hi0 G7 hgl ⊢
    subst hi0 hgl
    refine cond_d (fun hle => ?_) (fun hgt => ?_)
    · have hig : i < g.recs.length := by omega
      have hgt : getG g ((i + 1 : Nat) : Int) = (g.recs[i], 0) := by
        unfold getG
        rw [if_neg (by omega), if_neg (by omega), if_neg (by omega), Int.toNat_natCast, Nat.add_sub_cancel, List.getD_eq_getElem?_getD, List.getElem?_eq_getElem hig]
        rfl
      obtain ⟨z1, z2⟩ := hno i hig
      refine lget_c l7 ⟨by omega, by omega⟩ fun m w8 k8 om => ?_
      rw [hgt] at om ⊢
      refine ⟨_, _, _, _, _, _, _, _, _, _, _, _, _, _, _, _, _, _, _, _, _, _, rfl, ?_⟩
      obtain ⟨ow8, f8, sl8, sd8⟩ := G7.snoc z1 z2 om k8 (a' := none) (c' := 0) (w2 := w8) (w3 := w8) (w4 := w8)
      have o8 := o7.fr f8 trivial
      have l8 := l7.fr f8 trivial trivial trivial trivial trivial
      have A8 := A7.fr f8 trivial trivial
      have G8 := G7.fr f8 trivial fun _ _ => trivial
      have oll : m.ll = 0 := by have := om.ll; rw [z1] at this; exact this
      have odl : m.dl = 0 := by have := om.dl; rw [z2] at this; exact this
      refine rec_cp g.recs[i] m fun b5 w9 h9 => num_c ⟨_, rfl, cond_f rfl ?_⟩
      have f9 : Fro (fun _ => True) w8 ow8 w9 (ext ow8 w8.heap.size 64) := Fro.of_kp0 64 h9.kp
      have o9 := o8.fr f9 trivial
      have l9 := l8.fr f9 trivial trivial trivial trivial trivial
      have A9 := A8.fr f9 trivial trivial
      have G9 := G8.fr f9 trivial fun _ _ => trivial
      have sl9 := sl8.fr f9 trivial
      have sd9 := sd8.fr f9 trivial
      generalize ext ow8 w8.heap.size 64 = ow9 at *
      refine rec_rd h9.blk (AlF.intro fun b6 w10 hb6e hb610 k10 _ => ?_)
      have f10 : Fro (fun _ => True) w9 ow9 w10 (ext ow9 w9.heap.size 64) := Fro.of_kp0 64 k10
      have o10 := o9.fr f10 trivial
      have l10 := l9.fr f10 trivial trivial trivial trivial trivial
      have A10 := A9.fr f10 trivial trivial
      have G10 := G9.fr f10 trivial fun _ _ => trivial
      have sl10 := sl9.fr f10 trivial
      have sd10 := sd9.fr f10 trivial
      generalize ext ow9 w9.heap.size 64 = ow10 at *
      have hb610 : Blk w10 b6 ((g.recs[i]).ca m) T_api_Record := hb610
      refine app_c er_rec G10.rs (rd_cells hb610 (rfl : _ = cR (g.recs[i], m))) (by rfl) (fun h => by cases h) (cR_one _) (by omega) (by omega) fun a' c' w11 hs11 k11 f11 => ⟨_, _, _, rfl, ?_⟩
      have G11 := G10.add f11 hs11 (sl10.fr f11 (by omega)) (sd10.fr f11 (by omega)) ⟨oll, odl⟩
      have elen : (Rs ++ [g.recs[i]]).length = Rs.length + 1 := by simp
      have wi : IntKind.wrap .i64 (((i + 1 : Nat) : Int) + 1) = ((i + 1 + 1 : Nat) : Int) := by rw [wrap_i64 (by omega) (by omega)]; omega
      rw [wi]
      refine ⟨⟨i + 1, by omega, rfl, _, Rs ++ [g.recs[i]], ms ++ [m], o10.fr f11 (by omega), l10.fr f11 (by omega) (by omega) (by omega) (by omega) (by omega), A10.fr f11 (by omega) (by omega), G11, elen.symm, by rw [elen]; omega, fun k hk hk' => ?_⟩, ?_⟩
      · by_cases hkl : k < Rs.length
        · have e : (Rs ++ [g.recs[i]])[k] = Rs[k] := List.getElem_append_left hkl
          rw [e]
          exact hRs k hkl hk'
        · have hke : k = Rs.length := by omega
          subst hke
          have e : (Rs ++ [g.recs[i]])[Rs.length] = g.recs[i] := by simp
          rw [e]
          have em : Rs.length % g.recs.length = i := by
            rw [hRl, Nat.add_comm, Nat.add_mul_mod_self_right, Nat.mod_eq_of_lt hig]
          congr 1
          exact em.symm
      · show g.recs.length + 1 - (((i + 1 + 1 : Nat) : Int)).toNat < g.recs.length + 1 - (((i + 1 : Nat) : Int)).toNat
        simp only [Int.toNat_natCast]
        omega
    · have hie : i = g.recs.length := by omega
      rw [wt]
      refine ⟨⟨t + 1, by omega, rfl, ow7, Rs, ms, o7, l7, A7, G7, rfl, by rw [hRl, hie, Nat.add_mul, Nat.one_mul], hRs⟩, ?_⟩
      show 3 - (((t + 1 : Nat) : Int)).toNat < 3 - ((t : Nat) : Int).toNat
      simp only [Int.toNat_natCast]
      omega
  have n90 : Rs.length ≤ 90 := by rw [hRl]; have := Nat.mul_le_mul ht3 hg30; omega
  have gml := G6.ml
  have aml := A6.ml
  have hzG : ∀ k, k < Rs.length → k < (List.zip Rs ms).length := fun k hk => by rw [List.length_zip]; omega
  have ezG : ∀ k (hk : k < Rs.length), (List.zip Rs ms)[k]'(hzG k hk) = (Rs[k], ms[k]'(by omega)) := fun k hk => List.getElem_zip
  -- the same as were handed in
  refine loopN (fun s w' => Kp no w6 w' ∧ ∃ k : Nat, k ≤ Rs.length ∧ s.1 = (k : Int)) (fun s _ => Rs.length - s.1.toNat) ⟨Kp.refl _ _, 0, Nat.zero_le _, rfl⟩ ?_
  rintro ⟨i0, u2⟩ w7 ⟨k67, k, hk, hi0⟩ _
  dsimp only at hi0 ⊢
  subst hi0
  have A7 := A6.fr (Fro.kp0 k67) trivial trivial
  have G7 := G6.fr (Fro.kp0 k67) trivial fun _ _ => trivial
  refine cond_d (fun hlt => ?_) (fun hge => ?_)
  · have hkR : k < Rs.length := by omega
    have hn0 : 0 < g.recs.length := by
      rcases Nat.eq_zero_or_pos g.recs.length with h | h
      · rw [hRl, h] at hkR; omega
      · exact h
    have hmod : k % g.recs.length < g.recs.length := Nat.mod_lt _ hn0
    have wk : IntKind.wrap .i64 ((k : Int) + 1) = ((k + 1 : Nat) : Int) := by rw [wrap_i64 (by omega) (by omega)]; omega
    have kd : Kp no w7 w7.drew := Kp.drew w7 1
    have A8 := A7.fr (Fro.kp0 kd) trivial trivial
    have G8 := G7.fr (Fro.kp0 kd) trivial fun _ _ => trivial
    have rdG := G8.rs.sl.rd
    obtain ⟨b, o, ha⟩ := rcAddr rdG (hzG k hkR)
    refine ⟨by omega, by omega, _, ha, ?_⟩
    have c0 := fun v (hv : (cR (Rs[k], ms[k]'(by omega)))[0]? = some v) => rcCell0 rdG (hzG k hkR) ha v (by rw [ezG k hkR]; exact hv)
    have cj := fun j v (hv : (cR (Rs[k], ms[k]'(by omega)))[j]? = some v) => rcCell rdG (hzG k hkR) ha j v (by rw [ezG k hkR]; exact hv)
    rw [Int.toNat_natCast]
    refine ⟨_, _, _, _, _, _, _, _, _, _, _, _, _, _, _, _, _, _, _, _, _, ⟨c0 _ rfl, cj 1 _ rfl, cj 2 _ rfl, cj 3 _ rfl, cj 4 _ rfl, cj 5 _ rfl, cj 6 _ rfl, cj 7 _ rfl, cj 8 _ rfl, cj 9 _ rfl, cj 10 _ rfl, cj 11 _ rfl, cj 12 _ rfl, cj 13 _ rfl, cj 14 _ rfl, cj 15 _ rfl, cj 16 _ rfl, trivial⟩, ?_⟩
    have et : Int.tmod (k : Int) ((g.recs.length : Nat) : Int) = ((k % g.recs.length : Nat) : Int) := rfl
    rw [et]
    have hzA : k % g.recs.length < (List.zip g.recs msa).length := by rw [List.length_zip]; omega
    have ezA : (List.zip g.recs msa)[k % g.recs.length]'hzA = (g.recs[k % g.recs.length], msa[k % g.recs.length]'(by omega)) := List.getElem_zip
    have rdA := A8.rs.sl.rd
    obtain ⟨b', o', ha'⟩ := rcAddr rdA hzA
    refine ⟨by omega, by omega, by omega, _, ha', ?_⟩
    have d0 := fun v (hv : (cR (g.recs[k % g.recs.length], msa[k % g.recs.length]'(by omega)))[0]? = some v) => rcCell0 rdA hzA ha' v (by rw [ezA]; exact hv)
    have dj := fun j v (hv : (cR (g.recs[k % g.recs.length], msa[k % g.recs.length]'(by omega)))[j]? = some v) => rcCell rdA hzA ha' j v (by rw [ezA]; exact hv)
    rw [Int.toNat_natCast]
    refine ⟨_, _, _, _, _, _, _, _, _, _, _, _, _, _, _, _, _, _, _, _, _, ⟨d0 _ rfl, dj 1 _ rfl, dj 2 _ rfl, dj 3 _ rfl, dj 4 _ rfl, dj 5 _ rfl, dj 6 _ rfl, dj 7 _ rfl, dj 8 _ rfl, dj 9 _ rfl, dj 10 _ rfl, dj 11 _ rfl, dj 12 _ rfl, dj 13 _ rfl, dj 14 _ rfl, dj 15 _ rfl, dj 16 _ rfl, trivial⟩, ?_⟩
    obtain ⟨z1, z2⟩ := hno _ hmod
    obtain ⟨zl, zd⟩ := G6.z k (by omega)
    have hRk := hRs k hkR hmod
    have liG : LiIn w7.drew (ms[k]'(by omega)) (Rs[k]).live (Rs[k]).dirty := by
      rw [hRk, z1, z2]
      exact ⟨Rd.nil _ _, by rw [zl]; rfl, by omega, Rd.nil _ _, by rw [zd]; rfl, by omega⟩
    refine rsame_c (r := Rs[k]) (q := g.recs[k % g.recs.length]) liG (A8.li _ hmod (by omega)).li fun w8 k8 => ⟨_, rfl, ?_⟩
    rw [decide_eq_true hRk, wk]
    refine cond_f rfl ⟨⟨(k67.trans0 kd).trans0 k8, k + 1, by omega, rfl⟩, ?_⟩
    show Rs.length - (((k + 1 : Nat) : Int)).toNat < Rs.length - ((k : Nat) : Int).toNat
    simp only [Int.toNat_natCast]
    omega
  have Gz : ∀ k (hk : k < ms.length), (ms[k]).ll = 0 ∧ (ms[k]).dl = 0 := G6.z
  -- their lists are empty: nothing is marked
  refine loopN (fun s w' => w' = w7 ∧ ∃ k : Nat, k ≤ Rs.length ∧ s.1 = (k : Int)) (fun s _ => Rs.length - s.1.toNat) ⟨rfl, 0, Nat.zero_le _, rfl⟩ ?_
  rintro ⟨i0, u2⟩ w8 ⟨hw8, k, hk, hi0⟩ _
  dsimp only at hi0 ⊢
  subst hw8 hi0
  have rdG := G7.rs.sl.rd
  refine cond_d (fun hlt => ?_) (fun hge => ?_)
  · have hkR : k < Rs.length := by omega
    have wk : IntKind.wrap .i64 ((k : Int) + 1) = ((k + 1 : Nat) : Int) := by rw [wrap_i64 (by omega) (by omega)]; omega
    obtain ⟨b, o, ha⟩ := rcAddr rdG (hzG k hkR)
    have cj := fun j v (hv : (cR (Rs[k], ms[k]'(by omega)))[j]? = some v) => rcCell rdG (hzG k hkR) ha j v (by rw [ezG k hkR]; exact hv)
    obtain ⟨zl, zd⟩ := Gz k (by omega)
    refine loopN (fun s w' => w' = w8 ∧ s.1 = 0) (fun _ _ => 0) ⟨rfl, rfl⟩ ?_
    rintro ⟨j0, u3⟩ w9 ⟨hw9, hj0⟩ _
    dsimp only at hj0 ⊢
    subst hw9 hj0
    refine ⟨by omega, by omega, _, ha, ?_⟩
    rw [Int.toNat_natCast]
    refine ⟨_, _, _, cj 14 _ rfl, cond_d (fun hh => by rw [zl] at hh; omega) (fun _ => ?_)⟩
    refine loopN (fun s w' => w' = w9 ∧ s.1 = 0) (fun _ _ => 0) ⟨rfl, rfl⟩ ?_
    rintro ⟨j0, u4⟩ w10 ⟨hw10, hj0⟩ _
    dsimp only at hj0 ⊢
    subst hw10 hj0
    refine ⟨by omega, by omega, _, ha, ?_⟩
    have c15 := cj 15 _ rfl
    rw [add_at, add_at] at c15
    refine ⟨_, _, _, by rw [add_at, add_at, add_at]; exact c15, cond_d (fun hh => by rw [zd] at hh; omega) (fun _ => ?_)⟩
    rw [wk]
    refine ⟨⟨rfl, k + 1, by omega, rfl⟩, ?_⟩
    show Rs.length - (((k + 1 : Nat) : Int)).toNat < Rs.length - ((k : Nat) : Int).toNat
    simp only [Int.toNat_natCast]
    omega
  -- the lists are made longer
  have o8 := o6.fr (Fro.kp0 k67) trivial
  have l8 := l6.kp0 k67
  have gLl : (ms.map mL).length = Rs.length := by rw [List.length_map, gml]
  have gDl : (ms.map mD).length = Rs.length := by rw [List.length_map, gml]
  have gLz : ∀ k (hk : k < (ms.map mL).length), ((ms.map mL)[k]).l = 0 := fun k hk => by rw [List.getElem_map]; exact (Gz k (by omega)).1
  have gDz : ∀ k (hk : k < (ms.map mD).length), ((ms.map mD)[k]).l = 0 := fun k hk => by rw [List.getElem_map]; exact (Gz k (by omega)).2
  refine loopN (fun s w' => ∃ k : Nat, k ≤ Rs.length ∧ s.2.2.1 = (k : Int) ∧ ∃ ow ML MD, Old W w' ow ∧ LG w' ow 10 lb db g ∧ AX w' ow aa ca g.recs msa ∧ GX w' ow ga gc Rs ms ∧ SlT w' ow T_s_api_Live 1 s.1.1 s.1.2.1 s.1.2.2 (ML.map siV) 81 ∧ SlT w' ow T_s_api_Dirty 1 s.2.1.1 s.2.1.2.1 s.2.1.2.2 (MD.map siV) 82 ∧ ML.length = k ∧ MD.length = k ∧ s.1.2.1 = k ∧ s.2.1.2.1 = k ∧
      Fam w' ow T_api_Live 4 1000 ML (fun j => LV.cs ⟨-1 - (j : Int), 0, false, false⟩) ∧ Fam w' ow T_api_Dirty 2 2000 MD (fun j => DV.cs ⟨-1 - (j : Int), 0⟩) ∧ (∀ j (h : j < ML.length), (ML[j]).l = 1) ∧ (∀ j (h : j < MD.length), (MD[j]).l = 1)) (fun s _ => Rs.length - s.2.2.1.toNat)
    ⟨0, Nat.zero_le _, rfl, ow6, [], [], o8, l8, A7, G7, slt_nil _ _ _ _ _, slt_nil _ _ _ _ _, rfl, rfl, rfl, rfl, Fam.nil, Fam.nil, fun j h => absurd h (by simp), fun j h => absurd h (by simp)⟩ ?_
  clear o8 l8 rdG A7 G7
  rintro ⟨⟨lla, lll, llc⟩, ⟨lda, ldl, ldc⟩, i0, u2⟩ w9 ⟨k, hk, hi0, ow9, ML, MD, o9, l9, A9, G9, sL9, sD9, hML, hMD, hll, hdl, fL9, fD9, hL1, hD1⟩ _
  dsimp only at hi0 sL9 sD9 hll hdl ⊢
  subst hi0
  refine cond_d (fun hlt => ?_) (fun hge => ?_)
  · have hkR : k < Rs.length := by omega
    have wk : IntKind.wrap .i64 ((k : Int) + 1) = ((k + 1 : Nat) : Int) := by rw [wrap_i64 (by omega) (by omega)]; omega
    have wm : IntKind.wrap .i64 ((-1 : Int) - (k : Int)) = -1 - (k : Int) := wrap_i64 (by omega) (by omega)
    have w0 : IntKind.wrap .i64 (0 - ((0 : Nat) : Int)) = 0 := by decide
    rw [wk, wm]
    have rdG := G9.rs.sl.rd
    obtain ⟨b, o, ha⟩ := rcAddr rdG (hzG k hkR)
    have cj := fun j v (hv : (cR (Rs[k], ms[k]'(by omega)))[j]? = some v) => rcCell rdG (hzG k hkR) ha j v (by rw [ezG k hkR]; exact hv)
    have c15 := cj 15 _ rfl
    have c16 := cj 16 _ rfl
    rw [add_at, add_at] at c15 c16
    have kL : k < (ms.map mL).length := by omega
    have kD : k < (ms.map mD).length := by omega
    have eL : (ms.map mL)[k] = mL (ms[k]'(by omega)) := List.getElem_map _
    have eD : (ms.map mD)[k] = mD (ms[k]'(by omega)) := List.getElem_map _
    have zL := gLz k kL
    have zD := gDz k kD
    refine ⟨by omega, by omega, _, ha, ?_⟩
    rw [Int.toNat_natCast]
    refine ⟨((ms.map mL)[k]).a, ((ms.map mL)[k]).l, ((ms.map mL)[k]).c, ((ms.map mD)[k]).a, ((ms.map mD)[k]).l, ((ms.map mD)[k]).c, (Rs[k]).next, ⟨by rw [eL]; exact cj 14 _ rfl, by rw [eD, add_at, add_at, add_at]; exact c15, by rw [add_at, add_at, add_at]; exact c16, trivial⟩, ?_⟩
    clear cj c15 c16 rdG ha
    refine AlF.intro fun b7 w10 hb7e hb710 k10 _ => StF.at rfl hb710 (Nat.le_of_ble_eq_true rfl) fun w11 hb11 k11 _ => StF.at (add1 _ _) hb11 (Nat.le_of_ble_eq_true rfl) fun w12 hb12 k12 _ => StF.at (add1 _ _) hb12 (Nat.le_of_ble_eq_true rfl) fun w13 hb13 k13 _ => ?_
    have k913 := kp_blk k10 (by omega) ((k11.trans0 k12).trans0 k13)
    have f13 : Fro (fun _ => True) w9 ow9 w13 (ext ow9 w9.heap.size 70) := Fro.of_kp0 70 k913
    have t13 : ext ow9 w9.heap.size 70 b7 = 70 := ext_new (by omega)
    have o13 := o9.fr f13 trivial
    have l13 := l9.fr f13 trivial trivial trivial trivial trivial
    have A13 := A9.fr f13 trivial trivial
    have G13 := G9.fr f13 trivial fun _ _ => trivial
    have sL13 := sL9.fr f13 trivial
    have sD13 := sD9.fr f13 trivial
    have fL13 := fL9.fr f13 fun _ _ => trivial
    have fD13 := fD9.fr f13 fun _ _ => trivial
    generalize ext ow9 w9.heap.size 70 = ow13 at *
    refine ⟨_, _, _, hb13.at rfl rfl, _, _, _, hb13.at rfl rfl, ?_⟩
    rw [zL, w0]
    refine AlF.intro fun b8 w14 hb8e hb814 k14 _ => ?_
    have f14 : Fro (fun _ => True) w13 ow13 w14 (ext ow13 w13.heap.size 71) := Fro.of_kp0 71 k14
    have o14 := o13.fr f14 trivial
    have l14 := l13.fr f14 trivial trivial trivial trivial trivial
    have A14 := A13.fr f14 trivial trivial
    have G14 := G13.fr f14 trivial fun _ _ => trivial
    have sL14 := sL13.fr f14 trivial
    have sD14 := sD13.fr f14 trivial
    have fL14 := fL13.fr f14 fun _ _ => trivial
    have fD14 := fD13.fr f14 fun _ _ => trivial
    obtain ⟨hb714, t14⟩ := blk_fr hb13 t13 f14 trivial
    generalize ext ow13 w13.heap.size 71 = ow14 at *
    have hgr := fun {K : Value → World → Prop} => Fam.grow (K := K) (ty := T_s_api_Live) (a2 := some ⟨b8, 0, none⟩) (m := 1) (c2 := 1) er_lv G14.lv fL14 kL hML (rd_cells hb814 (rfl : _ = LV.cs ⟨-1 - (k : Int), 0, false, false⟩)) (by rfl) (by omega) (fun h => by cases h) (LV.cs1 _) (by omega) (by omega)
    rw [zL] at hgr
    refine hgr fun a15 c15 w15 ow15 gL15 mL15 k15 f15 => ⟨_, _, _, rfl, ?_⟩
    clear hgr
    have G15 : GX w15 ow15 ga gc Rs ms := ⟨gml, G14.rs.fr f15 (by omega), gL15, G14.dv.fr f15 (fun j _ => by omega), Gz⟩
    have o15 := o14.fr f15 (by omega)
    have l15 := l14.fr f15 (by omega) (by omega) (by omega) (by omega) (by omega)
    have A15 := A14.fr f15 (by omega) (by omega)
    have sL15 := sL14.fr f15 (by omega)
    have sD15 := sD14.fr f15 (by omega)
    have fD15 := fD14.fr f15 (fun j _ => by omega)
    obtain ⟨hb715, t15⟩ := blk_fr hb714 t14 f15 (by omega)
    rw [hll] at sL15 ⊢
    refine pushT er_sl sL15 (v := .slice a15 (0 + 1) c15) rfl (by omega) (by omega) fun a16 c16 w16 sL16 k16 f16 => ?_
    have o16 := o15.fr f16 (by omega)
    have l16 := l15.fr f16 (by omega) (by omega) (by omega) (by omega) (by omega)
    have A16 := A15.fr f16 (by omega) (by omega)
    have G16 := G15.fr f16 (by omega) fun u hu => by omega
    have sD16 := sD15.fr f16 (by omega)
    have fD16 := fD15.fr f16 (fun j _ => by omega)
    have fL16 := mL15.fr f16 (fun j _ => by omega)
    obtain ⟨hb716, t16⟩ := blk_fr hb715 t15 f16 (by omega)
    generalize ext ow15 w15.heap.size 81 = ow16 at *
    refine ⟨_, _, _, hb716.at (add1 _ _) rfl, _, _, _, hb716.at (add1 _ _) rfl, ?_⟩
    rw [zD, w0]
    refine AlF.intro fun b10 w17 hb10e hb1017 k17 _ => ?_
    have f17 : Fro (fun _ => True) w16 ow16 w17 (ext ow16 w16.heap.size 71) := Fro.of_kp0 71 k17
    have o17 := o16.fr f17 trivial
    have l17 := l16.fr f17 trivial trivial trivial trivial trivial
    have A17 := A16.fr f17 trivial trivial
    have G17 := G16.fr f17 trivial fun _ _ => trivial
    have sL17 := sL16.fr f17 trivial
    have sD17 := sD16.fr f17 trivial
    have fL17 := fL16.fr f17 fun _ _ => trivial
    have fD17 := fD16.fr f17 fun _ _ => trivial
    generalize ext ow16 w16.heap.size 71 = ow17 at *
    have hgr := fun {K : Value → World → Prop} => Fam.grow (K := K) (ty := T_s_api_Dirty) (a2 := some ⟨b10, 0, none⟩) (m := 1) (c2 := 1) er_dv G17.dv fD17 kD hMD (rd_cells hb1017 (rfl : _ = DV.cs ⟨-1 - (k : Int), 0⟩)) (by rfl) (by omega) (fun h => by cases h) (DV.cs1 _) (by omega) (by omega)
    rw [zD] at hgr
    refine hgr fun a18 c18 w18 ow18 gD18 mD18 k18 f18 => ⟨_, _, _, rfl, ?_⟩
    clear hgr
    have G18 : GX w18 ow18 ga gc Rs ms := ⟨gml, G17.rs.fr f18 (by omega), G17.lv.fr f18 (fun j _ => by omega), gD18, Gz⟩
    have o18 := o17.fr f18 (by omega)
    have l18 := l17.fr f18 (by omega) (by omega) (by omega) (by omega) (by omega)
    have A18 := A17.fr f18 (by omega) (by omega)
    have sL18 := sL17.fr f18 (by omega)
    have sD18 := sD17.fr f18 (by omega)
    have fL18 := fL17.fr f18 (fun j hj => by simp at hj; omega)
    rw [hdl] at sD18 ⊢
    refine pushT er_sd sD18 (v := .slice a18 (0 + 1) c18) rfl (by omega) (by omega) fun a19 c19 w19 sD19 k19 f19 => ?_
    have o19 := o18.fr f19 (by omega)
    have l19 := l18.fr f19 (by omega) (by omega) (by omega) (by omega) (by omega)
    have A19 := A18.fr f19 (by omega) (by omega)
    have G19 := G18.fr f19 (by omega) fun u hu => by omega
    have sL19 := sL18.fr f19 (by omega)
    have fL19 := fL18.fr f19 (fun j _ => by omega)
    have fD19 := mD18.fr f19 (fun j _ => by omega)
    refine ⟨⟨k + 1, by omega, rfl, _, ML ++ [⟨a15, 0 + 1, c15⟩], MD ++ [⟨a18, 0 + 1, c18⟩], o19, l19, A19, G19, by rw [List.map_append]; exact sL19, by rw [List.map_append]; exact sD19, by rw [List.length_append, hML]; rfl, by rw [List.length_append, hMD]; rfl, rfl, rfl, ?_, ?_, fun j hj => ?_, fun j hj => ?_⟩, ?_⟩
    · refine fL19.congr fun j _ => ?_
      split
      · rename_i h; subst h; rfl
      · rfl
    · refine fD19.congr fun j _ => ?_
      split
      · rename_i h; subst h; rfl
      · rfl
    · by_cases hjl : j < ML.length
      · rw [List.getElem_append_left hjl]; exact hL1 j hjl
      · rw [List.getElem_append_right (by omega)]; simp
    · by_cases hjl : j < MD.length
      · rw [List.getElem_append_left hjl]; exact hD1 j hjl
      · rw [List.getElem_append_right (by omega)]; simp
    · show Rs.length - (((k + 1 : Nat) : Int)).toNat < Rs.length - ((k : Nat) : Int).toNat
      simp only [Int.toNat_natCast]
      omega
  -- they are as they were made
  have hkR : k = Rs.length := by omega
  have rL := sL9.sl.rd
  have rD := sD9.sl.rd
  refine loopN (fun s w' => w' = w9 ∧ ∃ k : Nat, k ≤ Rs.length ∧ s.1 = (k : Int)) (fun s _ => Rs.length - s.1.toNat) ⟨rfl, 0, Nat.zero_le _, rfl⟩ ?_
  rintro ⟨i1, u3⟩ w10 ⟨hw10, i, hi, hi1⟩ _
  dsimp only at hi1 ⊢
  subst hw10 hi1
  refine cond_d (fun hlt => ?_) (fun hge2 => ?_)
  · have wi : IntKind.wrap .i64 ((i : Int) + 1) = ((i + 1 : Nat) : Int) := by rw [wrap_i64 (by omega) (by omega)]; omega
    have wm : IntKind.wrap .i64 ((-1 : Int) - (i : Int)) = -1 - (i : Int) := wrap_i64 (by omega) (by omega)
    have wj : ∀ j : Nat, j ≤ 1 → IntKind.wrap .i64 ((j : Int) + 1) = ((j + 1 : Nat) : Int) := fun j hj => by rw [wrap_i64 (by omega) (by omega)]; omega
    have wz : IntKind.wrap .i64 (0 - ((0 : Nat) : Int)) = 0 := by decide
    have iL : i < ML.length := by omega
    have iD : i < MD.length := by omega
    have l1 := hL1 i iL
    have d1 := hD1 i iD
    have qL : Rd w10 (ML[i]).a (flatV LV.cs [⟨-1 - (i : Int), 0, false, false⟩]) := (fL9 i iL).rd
    have qD : Rd w10 (MD[i]).a (flatV DV.cs [⟨-1 - (i : Int), 0⟩]) := (fD9 i iD).rd
    rw [wi, wm]
    refine loopN (fun s w' => w' = w10 ∧ ∃ j : Nat, j ≤ 1 ∧ s.1 = (j : Int)) (fun s _ => 1 - s.1.toNat) ⟨rfl, 0, by omega, rfl⟩ ?_
    rintro ⟨j0, u4⟩ w11 ⟨hw11, j, hj, hj0⟩ _
    dsimp only at hj0 ⊢
    subst hw11 hj0
    refine siI rL iL rfl (by omega) (cond_d (fun hl1 => ?_) (fun hl1 => ?_))
    · obtain rfl : j = 0 := by omega
      refine siI rL iL rfl (by omega) (rd_el LV.csl (by omega) qL (k := 0) (by simp) (by rw [l1]; rfl) fun b o ha hc => ⟨-1 - (i : Int), ?_, cond_f (by simp) ?_⟩)
      · rw [Int.toNat_natCast, add_at]; exact hc 0 _ rfl
      refine siI rL iL rfl (by omega) (rd_el LV.csl (by omega) qL (k := 0) (by simp) (by rw [l1]; rfl) fun b o ha hc => ⟨0, ?_, cond_f (by rw [wz]; rfl) ?_⟩)
      · rw [Int.toNat_natCast, add_at, add_at]; exact hc 1 _ rfl
      refine siI rL iL rfl (by omega) ?_
      rw [wj 0 (by omega)]
      refine cond_d (fun hh => by omega) (fun _ => ⟨⟨rfl, 1, by omega, rfl⟩, ?_⟩)
      show 1 - (((0 + 1 : Nat) : Int)).toNat < 1 - ((0 : Nat) : Int).toNat
      simp only [Int.toNat_natCast]
      omega
    refine loopN (fun s w' => w' = w11 ∧ ∃ j : Nat, j ≤ 1 ∧ s.1 = (j : Int)) (fun s _ => 1 - s.1.toNat) ⟨rfl, 0, by omega, rfl⟩ ?_
    rintro ⟨j0, u5⟩ w12 ⟨hw12, j', hj', hj0⟩ _
    dsimp only at hj0 ⊢
    subst hw12 hj0
    refine siI rD iD rfl (by omega) (cond_d (fun hl1 => ?_) (fun hl1 => ?_))
    · obtain rfl : j' = 0 := by omega
      refine siI rD iD rfl (by omega) (rd_el DV.csl (by omega) qD (k := 0) (by simp) (by rw [d1]; rfl) fun b o ha hc => ⟨-1 - (i : Int), ?_, cond_f (by simp) ?_⟩)
      · rw [Int.toNat_natCast, add_at]; exact hc 0 _ rfl
      refine siI rD iD rfl (by omega) (rd_el DV.csl (by omega) qD (k := 0) (by simp) (by rw [d1]; rfl) fun b o ha hc => ⟨0, ?_, cond_f (by rw [wz]; rfl) ?_⟩)
      · rw [Int.toNat_natCast, add_at, add_at]; exact hc 1 _ rfl
      refine siI rD iD rfl (by omega) ?_
      rw [wj 0 (by omega)]
      refine cond_d (fun hh => by omega) (fun _ => ⟨⟨rfl, 1, by omega, rfl⟩, ?_⟩)
      show 1 - (((0 + 1 : Nat) : Int)).toNat < 1 - ((0 : Nat) : Int).toNat
      simp only [Int.toNat_natCast]
      omega
    refine ⟨⟨rfl, i + 1, by omega, rfl⟩, ?_⟩
    show Rs.length - (((i + 1 : Nat) : Int)).toNat < Rs.length - ((i : Nat) : Int).toNat
    simp only [Int.toNat_natCast]
    omega
  refine last_c l9 ⟨_, rfl, cond_t (beq_self_eq_true _) ?_⟩
  exact prefix_c l9 he A9 rfl (Nat.le_refl _) (Int.le_refl _) (fun k h h' => rfl) fun w' k' => ⟨_, rfl, hK w' (o9.kp.trans0 k')⟩

theorem logNewMemory_walk {W : World} {v0 : Value} (h0 : ArgW Try.prog W T_quotalaw06_Life v0) : GoC Try.prog F_law06_LogNewMemory #[v0] W fun e W' => e = .returned (.bool true) ∧ Kp no W W' := by
  obtain ⟨x, rfl, hx⟩ := life_open h0
  exact newmem_law hx fun w' k => ⟨rfl, k⟩
end Go.Proofs.Ytkfdkcclojepnaa
