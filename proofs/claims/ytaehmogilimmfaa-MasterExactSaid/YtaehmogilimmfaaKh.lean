/- Layer 4, plain: a slot's bytes are read again; a torn slot; a master's disk. Conditions: none. -/
import Derived.Test.YtaehmogilimmfaaKg
set_option linter.unusedVariables false
set_option linter.unusedSimpArgs false
namespace Go.Proofs.Ytaehmogilimmfaa
open Go Go.RowKit

theorem gt_app {a b : List UInt8} {i n : Nat} (h : a.length = i) (hb : n ≤ b.length) : gt (a ++ b) i n = leN (b.take n) := by
  unfold gt
  rw [List.drop_append, List.drop_eq_nil_of_le (by omega), h, Nat.sub_self, List.drop_zero, List.nil_append]
theorem gt_put {a r : List UInt8} {i n x : Nat} (h : a.length = i) (hx : x < 256 ^ n) : gt (a ++ (leB8 n x ++ r)) i n = x := by
  rw [gt_app h (by rw [List.length_append, leB8_len]; omega), List.take_append, leB8_len, Nat.sub_self, List.take_zero, List.append_nil, List.take_of_length_le (by rw [leB8_len]; omega), leN_leB8, Nat.mod_eq_of_lt hx]

/-- A slot that is written is read again. -/
theorem slot_back {st : Nat} {s : Sh} {pt : Int} (hst : st < 256 ^ 8) (hs : s.may) (hp : 0 ≤ pt ∧ pt ≤ 2147483647) : slotOf (slotB st s pt) = ⟨st, s, pt⟩ := by
  have hs' := hs
  unfold Sh.may at hs'
  unfold slotOf slotB
  rw [show ∀ r : List UInt8, (77 :: r) = [77] ++ r from fun _ => rfl]
  rw [gt_put (i := 1) (by rfl) hst]
  rw [← List.append_assoc, gt_put (i := 9) (by rw [List.length_append, leB8_len]; rfl) (by omega)]
  rw [← List.append_assoc, gt_put (i := 10) (by simp only [List.length_append, leB8_len]; rfl) (by omega)]
  rw [← List.append_assoc, gt_put (i := 12) (by simp only [List.length_append, leB8_len]; rfl) (by omega)]
  rw [← List.append_assoc, gt_put (i := 13) (by simp only [List.length_append, leB8_len]; rfl) (by omega)]
  rw [Int.toNat_of_nonneg (by omega), Int.toNat_of_nonneg (by omega), Int.toNat_of_nonneg (by omega), Int.toNat_of_nonneg (by omega)]
theorem slot_right {st : Nat} {s : Sh} {pt n i : Int} (hst : 1 ≤ st ∧ st ≤ 4611686018427387904) (hi : ((st % 2 : Nat) : Int) = i) (hs : s.may) (hn : s.need = n) (hp : 0 ≤ pt ∧ pt ≤ 2147483647) : rdSlot (slotB st s pt) i n = (⟨st, s, pt⟩, true) := by
  unfold rdSlot
  rw [slot_back (by omega) hs hp, if_pos ⟨hs, hn, hst.1, hst.2, hi, hp.2⟩, decide_eq_true rfl]

/-- Some bytes of a slot. -/
theorem slotB_511 (st : Nat) (s : Sh) (pt : Int) : (slotB st s pt)[511]? = some (UInt8.ofNat (st % 256)) := by
  unfold slotB
  rw [List.getElem?_cons_succ, List.getElem?_append_right (by rw [leB8_len]; omega), leB8_len, List.getElem?_append_right (by rw [leB8_len]; omega), leB8_len, List.getElem?_append_right (by rw [leB8_len]; omega), leB8_len, List.getElem?_append_right (by rw [leB8_len]; omega), leB8_len, List.getElem?_append_right (by rw [leB8_len]; omega), leB8_len, List.getElem?_append_right (by rw [List.length_replicate]; omega), List.length_replicate]
  rfl
theorem slotB_1 (st : Nat) (s : Sh) (pt : Int) : (slotB st s pt)[1]? = some (UInt8.ofNat (st % 256)) := by
  unfold slotB
  rw [List.getElem?_cons_succ, List.getElem?_append_left (by rw [leB8_len]; omega), leB8_get 8 st 0 (by omega)]
  rw [Nat.pow_zero, Nat.div_one]
theorem slotB_0 (st : Nat) (s : Sh) (pt : Int) : slotB st s pt = 77 :: (slotB st s pt).drop 1 := rfl
/-- A right slot's byte 511 is its byte 1. -/
theorem right_ends {bs : List UInt8} {i n : Int} (h : (rdSlot bs i n).2 = true) : bs[511]? = bs[1]? := by
  unfold rdSlot at h
  split at h
  · have e := of_decide_eq_true h
    rw [← e, slotB_511, slotB_1]
  · cases h

/-- What a sector's other content is: zeros ahead of stamp 2, or the slot before. -/
def Before (bs : List UInt8) (st : Nat) : Prop := (st = 1 ∧ bs = List.replicate 512 0) ∨ ∃ s pt, 2 ≤ st ∧ bs = slotB (st - 1) s pt
theorem Before.len {bs : List UInt8} {st : Nat} (h : Before bs st) : bs.length = 512 := by
  rcases h with ⟨_, rfl⟩ | ⟨s, pt, _, rfl⟩
  · exact List.length_replicate ..
  · exact slotB_len _ _ _
theorem gt_drop1 {bs : List UInt8} {x : UInt8} {r : List UInt8} (h : bs = x :: r) : gt bs 1 8 = leN (r.take 8) := by
  subst h
  rfl
theorem slotB_st {st : Nat} {s : Sh} {pt : Int} (h : st < 256 ^ 8) : gt (slotB st s pt) 1 8 = st := by
  unfold slotB
  rw [show ∀ r : List UInt8, (77 :: r) = [77] ++ r from fun _ => rfl]
  exact gt_put (i := 1) (by rfl) h
theorem zeros_gt (i n k : Nat) : gt (List.replicate k 0) i n = 0 := by
  unfold gt
  rw [List.drop_replicate, List.take_replicate]
  generalize min n (k - i) = m
  induction m with
  | zero => rfl
  | succ m ih => rw [List.replicate_succ, leN, ih]; rfl
theorem Before.st {bs : List UInt8} {st : Nat} (h : Before bs st) (hb : st ≤ 4611686018427387904) : gt bs 1 8 < st := by
  rcases h with ⟨h1, rfl⟩ | ⟨s, pt, h2, rfl⟩
  · rw [zeros_gt]; omega
  · rw [slotB_st (by omega)]; omega
theorem Before.b511 {bs : List UInt8} {st : Nat} (h : Before bs st) : bs[511]? ≠ some (UInt8.ofNat ((st + 1) % 256)) := by
  rcases h with ⟨h1, rfl⟩ | ⟨s, pt, h2, rfl⟩
  · subst h1
    rw [List.getElem?_replicate_of_lt (by omega)]
    decide
  · rw [slotB_511]
    intro e
    have e := Option.some.inj e
    have : (UInt8.ofNat ((st - 1) % 256)).toNat = (UInt8.ofNat ((st + 1) % 256)).toNat := by rw [e]
    rw [UInt8.toNat_ofNat', UInt8.toNat_ofNat'] at this
    omega
/-- A torn slot over what was before: if it isn't the new one, its stamp is below the master's when it is right. -/
theorem torn_low {bs : List UInt8} {st k : Nat} {s : Sh} {pt i n : Int} (h : Before bs st) (hb : st ≤ 4611686018427387904) (hk : k < 512)
    (hr : (rdSlot ((slotB (st + 1) s pt).take k ++ bs.drop k) i n).2 = true) : (rdSlot ((slotB (st + 1) s pt).take k ++ bs.drop k) i n).1.st < st := by
  have hl := h.len
  have e1 := right_ends hr
  have hs1 : (rdSlot ((slotB (st + 1) s pt).take k ++ bs.drop k) i n).1.st = gt ((slotB (st + 1) s pt).take k ++ bs.drop k) 1 8 := by
    unfold rdSlot at hr ⊢
    split
    · rfl
    · rename_i hn
      rw [if_neg hn] at hr
      cases hr
  rw [hs1]
  by_cases h2 : k ≤ 1
  · have : gt ((slotB (st + 1) s pt).take k ++ bs.drop k) 1 8 = gt bs 1 8 := by
      unfold gt
      rw [List.drop_append, List.drop_eq_nil_of_le (by rw [List.length_take]; omega), List.length_take, slotB_len, List.drop_drop, List.nil_append]
      congr 3
      omega
    rw [this]
    exact h.st hb
  · exfalso
    rw [List.getElem?_append_right (by rw [List.length_take, slotB_len]; omega), List.length_take, slotB_len, List.getElem?_drop, List.getElem?_append_left (by rw [List.length_take, slotB_len]; omega), List.getElem?_take, if_pos (by omega), slotB_1, show k + (511 - min k 512) = 511 by omega] at e1
    exact h.b511 e1

/-- The sectors behind a write. -/
theorem sect_len {v : Dv} (hok : v.Ok) {i : Nat} (hi : i < v.n) : (v.sect i).length = 512 := by
  have := hok.len
  unfold Dv.sect
  rw [List.length_take, List.length_drop]
  have : (i + 1) * 512 ≤ v.n * 512 := Nat.mul_le_mul_right _ hi
  omega
theorem sect_ovr {img b : List UInt8} {n i j : Nat} (hl : img.length = n * 512) (hi : i < n) (hb : b.length ≤ 512) :
    ((ovr img (i * 512) b).drop (j * 512)).take 512 = if j = i then b ++ ((img.drop (i * 512)).take 512).drop b.length else (img.drop (j * 512)).take 512 := by
  have h1 : (i + 1) * 512 ≤ n * 512 := Nat.mul_le_mul_right _ hi
  apply List.ext_getElem?
  intro k
  rw [List.getElem?_take]
  by_cases hk : k < 512
  · rw [if_pos hk, List.getElem?_drop, ovr_get (by omega)]
    by_cases hj : j = i
    · subst hj
      rw [if_pos rfl]
      by_cases h2 : k < b.length
      · rw [if_pos (by omega), List.getElem?_append_left h2]
        congr 1
        omega
      · rw [if_neg (by omega), List.getElem?_append_right (by omega), List.getElem?_drop, List.getElem?_take, if_pos (by omega), List.getElem?_drop]
        congr 1
        omega
    · rw [if_neg hj, if_neg, List.getElem?_take, if_pos hk, List.getElem?_drop]
      intro ⟨h3, h4⟩
      rcases Nat.lt_or_gt_of_ne hj with h | h
      · have : (j + 1) * 512 ≤ i * 512 := Nat.mul_le_mul_right _ h
        omega
      · have : (i + 1) * 512 ≤ j * 512 := Nat.mul_le_mul_right _ h
        omega
  · rw [if_neg hk]
    split
    · rw [List.getElem?_eq_none]
      rw [List.length_append, List.length_drop, List.length_take, List.length_drop]
      omega
    · rw [List.getElem?_take, if_neg hk]
theorem sect_all {img b : List UInt8} {n i j : Nat} (hl : img.length = n * 512) (hi : i < n) (hb : b.length = 512) :
    ((ovr img (i * 512) b).drop (j * 512)).take 512 = if j = i then b else (img.drop (j * 512)).take 512 := by
  rw [sect_ovr hl hi (by omega)]
  split
  · rw [List.drop_eq_nil_of_le (by rw [List.length_take]; omega), List.append_nil]
  · rfl

/-- A disk that is up, nothing cached, whose master is that; what is in the other sector has a smaller stamp, if it is right. -/
structure Mas (v : Dv) (n st : Nat) (s : Sh) (pt : Int) : Prop where
  ok : v.Ok
  d : v.down = false
  q : v.q = []
  vn : v.n = n
  may : s.may
  need : s.need = (n : Int)
  ht : 1 ≤ st ∧ st ≤ 1000
  hp : 0 ≤ pt ∧ pt ≤ 2147483647
  a : v.sect (st % 2) = slotB st s pt
  b : (rdSlot (v.sect ((st + 1) % 2)) (((st + 1) % 2 : Nat) : Int) (n : Int)).2 = true → (rdSlot (v.sect ((st + 1) % 2)) (((st + 1) % 2 : Nat) : Int) (n : Int)).1.st < st
theorem Mas.big {v : Dv} {n st : Nat} {s : Sh} {pt : Int} (h : Mas v n st s pt) : 13 ≤ n ∧ n ≤ 5000 := by
  have h1 := h.may
  have h2 := h.need
  unfold Sh.may at h1
  unfold Sh.need at h2
  omega
theorem Mas.read {v : Dv} {n st : Nat} {s : Sh} {pt : Int} (h : Mas v n st s pt) {i : Nat} (hi : i < 2) : (v.read (i : Int)).1 = v.sect i := by
  have hn := h.vn
  have hb := h.big
  unfold Dv.read
  rw [h.d, if_neg (by simp), if_neg (by unfold Dv.there; omega), h.q, Int.toNat_natCast]
  rfl
theorem Mas.mst {v : Dv} {n st : Nat} {s : Sh} {pt : Int} (h : Mas v n st s pt) : mstR v = (⟨st, s, pt⟩, 0) := by
  have hb := h.big
  have hst := h.ht
  have hn := h.vn
  have r0 := h.read (i := 0) (by omega)
  have r1 := h.read (i := 1) (by omega)
  have ha := h.a
  have hB := h.b
  have hr := slot_right (n := (n : Int)) (i := ((st % 2 : Nat) : Int)) (by omega) rfl h.may h.need h.hp
  rw [← ha] at hr
  have e : bestN v 2 = ⟨st, s, pt⟩ := by
    show bestS v (bestS v SlV.z 0) 1 = _
    unfold bestS
    rw [r0, r1, hn]
    rcases Nat.mod_two_eq_zero_or_one st with hm | hm
    · rw [hm] at hr ha
      have hm' : (st + 1) % 2 = 1 := by omega
      rw [hm'] at hB
      rw [hr]
      have : (true = true ∧ SlV.z.st < (⟨st, s, pt⟩ : SlV).st) := ⟨rfl, by show 0 < st; omega⟩
      rw [if_pos this]
      rw [if_neg]
      rintro ⟨h1, h2⟩
      have := hB h1
      have h2 : st < _ := h2
      omega
    · rw [hm] at hr ha
      have hm' : (st + 1) % 2 = 0 := by omega
      rw [hm'] at hB
      rw [hr]
      have : ∀ x : SlV, x.st < st → (if true = true ∧ x.st < (⟨st, s, pt⟩ : SlV).st then (⟨st, s, pt⟩ : SlV) else x) = ⟨st, s, pt⟩ := fun x hx => if_pos ⟨rfl, hx⟩
      refine this _ ?_
      split
      · rename_i hh
        exact hB hh.1
      · show 0 < st
        omega
  unfold mstR
  rw [h.d, if_neg (by simp), show min 2 v.n = 2 by omega, e, if_neg]
  intro hh
  have : (⟨st, s, pt⟩ : SlV).st = SlV.z.st := by rw [hh]
  have : st = 0 := this
  omega
theorem Mas.open {v : Dv} {n st : Nat} {s : Sh} {pt : Int} (h : Mas v n st s pt) : openR v = (s, pt, 0) := by
  unfold openR
  rw [h.mst, if_neg (fun hh => hh rfl)]
/-- The disk behind a whole write of the next slot. -/
theorem Mas.next {v v' : Dv} {n st : Nat} {s : Sh} {pt p : Int} (h : Mas v n st s pt) (hst : st < 1000) (hp : 0 ≤ p ∧ p ≤ 2147483647) (hok : v'.Ok) (hd : v'.down = false) (hq : v'.q = [])
    (hi : v'.img = ovr v.img ((st + 1) % 2 * 512) (slotB (st + 1) s p)) : Mas v' n (st + 1) s p := by
  have hb := h.big
  have hlen := h.ok.len
  have hn := h.vn
  have sx : ∀ j, v'.sect j = if j = (st + 1) % 2 then slotB (st + 1) s p else v.sect j := fun j => by
    unfold Dv.sect
    rw [hi, sect_ovr (img := v.img) (b := slotB (st + 1) s p) (i := (st + 1) % 2) (j := j) (by rw [hlen, hn]) (by omega) (by rw [slotB_len]; omega)]
    split
    · rw [List.drop_eq_nil_of_le (by rw [slotB_len, List.length_take]; omega), List.append_nil]
    · rfl
  refine ⟨hok, hd, hq, ?_, h.may, h.need, by omega, hp, ?_, ?_⟩
  · unfold Dv.n at hn ⊢
    rw [hi, ovr_len (by rw [slotB_len, hlen]; omega)]
    exact hn
  · rw [sx, if_pos rfl]
  · rw [sx, if_neg (by omega), show (st + 1 + 1) % 2 = st % 2 by omega, h.a]
    intro _
    rw [slot_right (n := (n : Int)) (by have := h.ht; omega) rfl h.may h.need h.hp]
    show st < st + 1
    omega
/-- Behind a torn write. -/
theorem Mas.torn {v v' : Dv} {n st k : Nat} {s : Sh} {pt p : Int} (h : Mas v n st s pt) (hB : Before (v.sect ((st + 1) % 2)) st) (hk : k < 512) (hok : v'.Ok) (hd : v'.down = false) (hq : v'.q = [])
    (hi : v'.img = ovr v.img ((st + 1) % 2 * 512) ((slotB (st + 1) s p).take k)) : Mas v' n st s pt := by
  have hb := h.big
  have hlen := h.ok.len
  have hn := h.vn
  have hl : ((slotB (st + 1) s p).take k).length = k := by rw [List.length_take, slotB_len]; omega
  have sx : ∀ j, v'.sect j = if j = (st + 1) % 2 then (slotB (st + 1) s p).take k ++ (v.sect ((st + 1) % 2)).drop k else v.sect j := fun j => by
    unfold Dv.sect
    rw [hi, sect_ovr (img := v.img) (b := (slotB (st + 1) s p).take k) (i := (st + 1) % 2) (j := j) (by rw [hlen, hn]) (by omega) (by rw [hl]; omega), hl]
  refine ⟨hok, hd, hq, ?_, h.may, h.need, h.ht, h.hp, ?_, ?_⟩
  · unfold Dv.n at hn ⊢
    rw [hi, ovr_len (by rw [hl, hlen]; omega)]
    exact hn
  · rw [sx, if_neg (by omega)]
    exact h.a
  · rw [sx, if_pos rfl]
    exact torn_low hB (by have := h.ht; omega) hk
theorem Mas.same {v v' : Dv} {n st : Nat} {s : Sh} {pt : Int} (h : Mas v n st s pt) (hok : v'.Ok) (hd : v'.down = false) (hq : v'.q = []) (hi : v'.img = v.img) : Mas v' n st s pt := by
  have sx : ∀ j, v'.sect j = v.sect j := fun j => by unfold Dv.sect; rw [hi]
  refine ⟨hok, hd, hq, ?_, h.may, h.need, h.ht, h.hp, by rw [sx]; exact h.a, by rw [sx]; exact h.b⟩
  rw [← h.vn]
  unfold Dv.n
  rw [hi]
theorem Mas.point {v : Dv} {n st : Nat} {s : Sh} {pt p : Int} (h : Mas v n st s pt) (hp : 0 ≤ p ∧ p ≤ 2147483647) : pointR v p = v.put (((st + 1) % 2 : Nat) : Int) (slotB (st + 1) s p) := by
  unfold pointR
  rw [if_neg (by omega), h.mst, if_neg (fun hh => hh rfl), if_neg (by have := h.ht; show ¬ st = _; omega)]
/-- A point on a disk that doesn't give up. -/
theorem Mas.pointed {v : Dv} {n st : Nat} {s : Sh} {pt p : Int} (h : Mas v n st s pt) (h0 : v.step = 0) (hst : st < 1000) (hp : 0 ≤ p ∧ p ≤ 2147483647) :
    (pointR v p).1 = 0 ∧ (pointR v p).2.step = 0 ∧ Mas (pointR v p).2 n (st + 1) s p ∧ (pointR v p).2.sect ((st + 1 + 1) % 2) = slotB st s pt := by
  have hb := h.big
  have hn := h.vn
  have hlen := h.ok.len
  rw [h.point hp]
  have e1 : v.write (((st + 1) % 2 : Nat) : Int) (slotB (st + 1) s p) = (0, v.bump.add (((st + 1) % 2 : Nat) : Int) (slotB (st + 1) s p)) := by
    unfold Dv.write
    rw [h.d, if_neg (by simp), if_neg (fun hh => hh ⟨by omega, by omega⟩), if_neg (fun hh => hh (slotB_len _ _ _)), h0, if_neg (by omega)]
  have e2 : (v.bump.add (((st + 1) % 2 : Nat) : Int) (slotB (st + 1) s p)).sync = (0, (v.bump.add (((st + 1) % 2 : Nat) : Int) (slotB (st + 1) s p)).bump.synced) := by
    unfold Dv.sync
    have d1 : (v.bump.add (((st + 1) % 2 : Nat) : Int) (slotB (st + 1) s p)).down = false := h.d
    have s1 : (v.bump.add (((st + 1) % 2 : Nat) : Int) (slotB (st + 1) s p)).step = 0 := by
      show (if v.step = 0 then (0 : Int) else v.step - 1) = 0
      rw [if_pos h0]
    rw [d1, if_neg (by simp), s1, if_neg (by omega)]
  have ep : v.put (((st + 1) % 2 : Nat) : Int) (slotB (st + 1) s p) = (0, (v.bump.add (((st + 1) % 2 : Nat) : Int) (slotB (st + 1) s p)).bump.synced) := by
    unfold Dv.put
    rw [e1, if_neg (by simp), e2]
  have hok := put_Ok h.ok (((st + 1) % 2 : Nat) : Int) (slotB (st + 1) s p)
  rw [ep] at hok ⊢
  have hi : (v.bump.add (((st + 1) % 2 : Nat) : Int) (slotB (st + 1) s p)).bump.synced.img = ovr v.img ((st + 1) % 2 * 512) (slotB (st + 1) s p) := by
    show syncL (v.q ++ [((((st + 1) % 2 : Nat) : Int), slotB (st + 1) s p)]) v.img = _
    rw [h.q]
    rfl
  have hm := h.next (p := p) hst hp hok h.d rfl hi
  refine ⟨rfl, ?_, hm, ?_⟩
  · show (if (if v.step = 0 then (0 : Int) else v.step - 1) = 0 then (0 : Int) else _) = 0
    rw [h0]
    rfl
  · unfold Dv.sect
    rw [hi, sect_ovr (img := v.img) (b := slotB (st + 1) s p) (i := (st + 1) % 2) (j := (st + 1 + 1) % 2) (by rw [hlen, hn]) (by omega) (by rw [slotB_len]; omega), if_neg (by omega), show (st + 1 + 1) % 2 = st % 2 by omega]
    exact h.a
/-- A point on a disk that gives up within it, or behind it: what is there when the disk is up again. -/
theorem Mas.crashed {v : Dv} {n st : Nat} {s : Sh} {pt p : Int} {keep : List Nat} {torn off : Int} (h : Mas v n st s pt) (hB : Before (v.sect ((st + 1) % 2)) st) (hst : st < 1000) (hp : 0 ≤ p ∧ p ≤ 2147483647)
    (hs : 1 ≤ v.step ∧ v.step ≤ 3) (hkp : ∀ x ∈ keep, x < 18446744073709551616) :
    ((pointR v p).1 = 0 ∨ (pointR v p).1 = 40) ∧ (((pointR v p).2.crash keep torn off).2.up).step = 0 ∧
    ((pointR v p).1 = 40 ∧ Mas (((pointR v p).2.crash keep torn off).2.up) n st s pt ∨ Mas (((pointR v p).2.crash keep torn off).2.up) n (st + 1) s p) := by
  have hb := h.big
  have hn := h.vn
  have hlen := h.ok.len
  have hok := put_Ok h.ok (((st + 1) % 2 : Nat) : Int) (slotB (st + 1) s p)
  have hq := h.q
  rw [h.point hp]
  generalize hX : (((st + 1) % 2 : Nat) : Int) = X at *
  generalize hY : slotB (st + 1) s p = Y at *
  have hYl : Y.length = 512 := by rw [← hY, slotB_len]
  have ht : v.there X := ⟨by omega, by omega⟩
  have w1 : v.write X Y = if v.step = 1 then (40, (v.bump.add X Y).fall v.keep v.torn v.off) else (0, v.bump.add X Y) := by
    unfold Dv.write
    rw [h.d, if_neg (by simp), if_neg (fun hh => hh ht), if_neg (fun hh => hh hYl)]
  have hd : (v.bump.add X Y).down = false := h.d
  -- what a fall leaves
  have fallen : ∀ (u : Dv), u.Ok → u.down = true → u.img = fallL v.keep v.torn v.off 0 [(X, Y)] v.img → u.q = [] → ((u.crash keep torn off).2.up).step = 0 ∧ (Mas ((u.crash keep torn off).2.up) n st s pt ∨ Mas ((u.crash keep torn off).2.up) n (st + 1) s p) := fun u uok ud ui uq => by
    have e : u.crash keep torn off = (40, u) := by unfold Dv.crash; rw [if_pos ud]
    rw [e]
    refine ⟨rfl, ?_⟩
    have oku : u.up.Ok := uok.up
    have ei : u.up.img = fallL v.keep v.torn v.off 0 [(X, Y)] v.img := ui
    rw [fallL, fallL] at ei
    have eX : X.toNat = (st + 1) % 2 := by omega
    rw [eX] at ei
    split at ei
    · exact .inr (h.next hst hp oku rfl uq (by rw [ei, hY]))
    · split at ei
      · by_cases hk : clampN v.off < 512
        · exact .inl (h.torn (p := p) hB hk oku rfl uq (by rw [ei, hY]))
        · refine .inr (h.next hst hp oku rfl uq ?_)
          rw [ei, hY, List.take_of_length_le (by show Y.length ≤ _; omega)]
      · exact .inl (h.same oku rfl uq ei)
  by_cases s1 : v.step = 1
  · rw [if_pos s1] at w1
    have ep : v.put X Y = (40, (v.bump.add X Y).fall v.keep v.torn v.off) := by
      unfold Dv.put
      rw [w1, if_pos (by simp)]
    rw [ep] at hok ⊢
    obtain ⟨a, b⟩ := fallen _ hok rfl (by show fallL _ _ _ 0 (v.q ++ [(X, Y)]) v.img = _; rw [hq]; rfl) rfl
    exact ⟨.inr rfl, a, b.imp (fun x => ⟨rfl, x⟩) id⟩
  rw [if_neg s1] at w1
  have st1 : (v.bump.add X Y).step = v.step - 1 := by
    show (if v.step = 0 then (0 : Int) else v.step - 1) = _
    rw [if_neg (by omega)]
  by_cases s2 : v.step = 2
  · have ep : v.put X Y = (40, (v.bump.add X Y).bump.fall v.keep v.torn v.off) := by
      unfold Dv.put
      rw [w1, if_neg (by simp)]
      unfold Dv.sync
      rw [hd, if_neg (by simp), st1, if_pos (by omega)]
      rfl
    rw [ep] at hok ⊢
    obtain ⟨a, b⟩ := fallen _ hok rfl (by show fallL _ _ _ 0 (v.q ++ [(X, Y)]) v.img = _; rw [hq]; rfl) rfl
    exact ⟨.inr rfl, a, b.imp (fun x => ⟨rfl, x⟩) id⟩
  · have ep : v.put X Y = (0, (v.bump.add X Y).bump.synced) := by
      unfold Dv.put
      rw [w1, if_neg (by simp)]
      unfold Dv.sync
      rw [hd, if_neg (by simp), st1, if_neg (by omega)]
    rw [ep] at hok ⊢
    generalize hu : (v.bump.add X Y).bump.synced = u at *
    have ud : u.down = false := by rw [← hu]; exact h.d
    have uq : u.q = [] := by rw [← hu]; rfl
    have ui : u.img = ovr v.img ((st + 1) % 2 * 512) Y := by
      rw [← hu]
      show syncL (v.q ++ [(X, Y)]) v.img = _
      rw [hq]
      show ovr v.img (X.toNat * 512) Y = _
      rw [show X.toNat = (st + 1) % 2 by omega]
    have e : u.crash keep torn off = (0, u.fall keep torn off) := by unfold Dv.crash; rw [ud, if_neg (by simp)]
    rw [e]
    refine ⟨.inl rfl, rfl, .inr ?_⟩
    refine h.next hst hp (hok.fall keep torn off).up rfl rfl ?_
    show fallL keep torn off 0 u.q u.img = _
    rw [uq, ui, hY]
    rfl
/-- A crash behind a point. -/
theorem Mas.crash {v : Dv} {n st : Nat} {s : Sh} {pt : Int} (h : Mas v n st s pt) (keep : List Nat) (torn off : Int) : Mas ((v.crash keep torn off).2.up) n st s pt ∧ ((v.crash keep torn off).2.up).step = 0 := by
  have e : v.crash keep torn off = (0, v.fall keep torn off) := by unfold Dv.crash; rw [h.d, if_neg (by simp)]
  rw [e]
  refine ⟨h.same (h.ok.fall keep torn off).up rfl rfl ?_, rfl⟩
  show fallL keep torn off 0 v.q v.img = _
  rw [h.q]
  rfl
theorem sect_new (n j : Nat) (h : j < n) : (Dv.new n).sect j = List.replicate 512 0 := by
  have : (j + 1) * 512 ≤ n * 512 := Nat.mul_le_mul_right _ h
  unfold Dv.sect Dv.new
  rw [List.drop_replicate, List.take_replicate]
  congr 1
  omega
/-- A disk that is formatted. -/
theorem Mas.new {n : Nat} {s : Sh} (hs : s.may) (hn : s.need = (n : Int)) : (formatR (Dv.new n) s).1 = 0 ∧ (formatR (Dv.new n) s).2.step = 0 ∧ Mas (formatR (Dv.new n) s).2 n 1 s 0 ∧ (formatR (Dv.new n) s).2.sect 0 = List.replicate 512 0 := by
  have hs' := hs
  unfold Sh.may at hs'
  have hn' := hn
  unfold Sh.need at hn'
  have hN := new_n n
  have l0 : (Dv.new n).img.length = n * 512 := List.length_replicate ..
  have ok0 : (Dv.new n).Ok := ⟨by rw [hN]; omega, by rw [hN]; omega, by rw [hN]; exact l0, fun p hp => absurd hp (by simp [Dv.new]), ⟨Int.le_refl _, by simp [Dv.new]⟩, fun x hx => absurd hx (by simp [Dv.new])⟩
  obtain ⟨a1, b1, c1⟩ := (new_calm n).put (i := 0) (b := List.replicate 512 0) (by omega) ⟨by omega, by omega⟩ (List.length_replicate ..)
  have ok1 := put_Ok ok0 0 (List.replicate 512 0)
  have hz : (List.replicate 512 (0 : UInt8)).length = 512 := List.length_replicate ..
  have l1 : ((Dv.new n).put 0 (List.replicate 512 0)).2.img.length = n * 512 := by
    rw [c1, ovr_len (by rw [hz, l0]; omega), l0]
  have n1 : ((Dv.new n).put 0 (List.replicate 512 0)).2.n = n := Dv.n_of l1
  have e : formatR (Dv.new n) s = ((Dv.new n).put 0 (List.replicate 512 0)).2.put 1 (slotB 1 s 0) := by
    unfold formatR
    rw [if_neg (fun hh => hh ⟨hs, by rw [hN]; exact hn⟩), if_neg (by show ¬ false = true; simp), if_neg (by omega)]
  rw [e]
  generalize hv : ((Dv.new n).put 0 (List.replicate 512 0)).2 = v1 at *
  obtain ⟨a2, b2, c2⟩ := b1.put (i := 1) (b := slotB 1 s 0) (by omega) ⟨by omega, by omega⟩ (slotB_len _ _ _)
  have ok2 := put_Ok ok1 1 (slotB 1 s 0)
  generalize v1.put 1 (slotB 1 s 0) = v2 at *
  have x1 : v1.sect 0 = List.replicate 512 0 := by
    unfold Dv.sect
    rw [c1]
    have := sect_all (img := (Dv.new n).img) (b := List.replicate 512 0) (n := n) (i := 0) (j := 0) l0 (by omega) hz
    rw [if_pos rfl] at this
    exact this
  have x2 : ∀ j, v2.2.sect j = if j = 1 then slotB 1 s 0 else v1.sect j := fun j => by
    unfold Dv.sect
    rw [c2]
    exact sect_all (img := v1.img) (b := slotB 1 s 0) (n := n) (i := 1) (j := j) l1 (by omega) (slotB_len _ _ _)
  have x0 : v2.2.sect 0 = List.replicate 512 0 := by rw [x2, if_neg (by omega), x1]
  refine ⟨a2, b2.s, ⟨ok2, b2.d, b2.q, ?_, hs, hn, by omega, by omega, by rw [x2, if_pos rfl], ?_⟩, x0⟩
  · refine Dv.n_of ?_
    rw [c2, ovr_len (by rw [slotB_len, l1]; omega), l1]
  · show (rdSlot (v2.2.sect 0) _ _).2 = true → _
    rw [x0]
    intro hh
    have hr := rdSlot_ok hh
    have h1 := hr.2.2.1
    exfalso
    revert hh h1
    unfold rdSlot
    split
    · intro _ h1
      have h1 : 1 ≤ (slotOf (List.replicate 512 0)).st := h1
      have : (slotOf (List.replicate 512 0)).st = 0 := zeros_gt 1 8 512
      omega
    · intro hh
      cases hh
end Go.Proofs.Ytaehmogilimmfaa
