/- Several texts as one. Conditions: none. -/
import Derived.Test.YtalkkhocljehfaaNe
import Derived.Test.YtalkkhocljehfaaTn2
import Derived.Test.YtalkkhocljehfaaUa2
import Derived.Test.YtalkkhocljehfaaUj
/- Plain: what a Write and a Finish leave, cut off or not. Conditions: none. -/
set_option linter.unusedVariables false
set_option linter.unusedSimpArgs false
namespace Go.Proofs.Ytalkkhocljehfaa
open Go Go.RowKit

/-- A disk that is up, that is down; nothing cached. -/
structure Up (v : Dv) (n : Nat) : Prop where
  ok : v.Ok
  d : v.down = false
  q : v.q = []
  vn : v.n = n
structure Dn (v : Dv) (n : Nat) : Prop where
  ok : v.Ok
  d : v.down = true
  q : v.q = []
  vn : v.n = n
theorem Dn.up {v : Dv} {n : Nat} (h : Dn v n) : Up v.up n := ⟨h.ok.up, rfl, h.q, h.vn⟩
theorem Up.up {v : Dv} {n : Nat} (h : Up v n) : Up v.up n := ⟨h.ok.up, rfl, h.q, h.vn⟩
theorem sect_up (v : Dv) (j : Nat) : v.up.sect j = v.sect j := rfl
theorem Up.read {v : Dv} {n i : Nat} (h : Up v n) (hi : i < n) : (v.read (i : Int)).1 = v.sect i := by
  have := h.vn
  unfold Dv.read
  rw [h.d, if_neg (by simp), if_neg (by unfold Dv.there; omega), h.q, Int.toNat_natCast]
  rfl
theorem put_ok {v : Dv} {n i : Nat} {l : List (List UInt8)} (h : Up v n) (hi : i + l.length ≤ n) (hb : ∀ b ∈ l, b.length = 512) (hs : v.step = 0 ∨ (l.length : Int) + 1 < v.step) :
    (putL v i l).1 = 0 ∧ Up (putL v i l).2 n ∧ (putL v i l).2.step = (if v.step = 0 then 0 else v.step - (l.length + 1)) ∧ (∀ j, j < n → (putL v i l).2.sect j = readL (j : Int) (zipI i l) (v.sect j)) ∧
    (0 ≤ v.calls → v.calls + l.length + 1 < 1000000000000 → (putL v i l).2.calls = v.calls + (l.length + 1)) := by
  have hn := h.vn
  obtain ⟨a, b, c, d, e, f⟩ := putL_up l (v := v) (i := (i : Int)) h.ok h.d (by omega) (by omega) hb hs
  refine ⟨a, ⟨putL_Ok l _ h.ok, b, c, by rw [putL_n l _ h.ok, hn]⟩, e, fun j hj => ?_, f⟩
  unfold Dv.sect
  rw [d, h.q, List.nil_append]
  refine sect_sync hj _ _ (by rw [h.ok.len, hn]) fun p hp => ?_
  obtain ⟨x, y, z⟩ := zipI_mem l (i : Int) hb p hp
  exact ⟨by omega, by omega, z⟩
theorem put_no {v : Dv} {n i : Nat} {l : List (List UInt8)} (h : Up v n) (hi : i + l.length ≤ n) (hb : ∀ b ∈ l, b.length = 512) (hs : 1 ≤ v.step ∧ v.step ≤ (l.length : Int) + 1) :
    (putL v i l).1 = 40 ∧ Dn (putL v i l).2 n ∧ (∀ j, j < n → (j < i ∨ i + l.length ≤ j) → (putL v i l).2.sect j = v.sect j) ∧ (∀ b, l = [b] → Mix b (v.sect i) ((putL v i l).2.sect i)) := by
  have hn := h.vn
  obtain ⟨a, b, c, d, m, hm, e⟩ := putL_fall l (v := v) (i := (i : Int)) h.ok h.d (by omega) (by omega) hb hs
  refine ⟨a, ⟨putL_Ok l _ h.ok, b, c, by rw [d, hn]⟩, fun j hj hji => ?_, fun b1 hl => ?_⟩
  · unfold Dv.sect
    rw [e, h.q, List.nil_append]
    have hmem : ∀ p ∈ zipI (i : Int) (l.take m), (i : Int) ≤ p.1 ∧ p.1 < (i : Int) + l.length ∧ p.2.length = 512 := fun p hp => by
      obtain ⟨x, y, z⟩ := zipI_mem (l.take m) (i : Int) (fun b hb' => hb b (List.mem_of_mem_take hb')) p hp
      rw [List.length_take] at y
      exact ⟨x, by omega, z⟩
    refine sect_fall hj _ _ _ _ _ _ (by rw [h.ok.len, hn]) (fun p hp => ?_) fun p hp => ?_
    · obtain ⟨x, y, z⟩ := hmem p hp
      exact ⟨by omega, by omega, z⟩
    · obtain ⟨x, y, z⟩ := hmem p hp
      omega
  · subst hl
    have := hm (by simp)
    unfold Dv.sect
    have tk : [b1].take m = [b1] := List.take_of_length_le (by simp; omega)
    simp only [List.length_cons, List.length_nil] at hi
    rw [e, h.q, List.nil_append, tk]
    exact sect_fall1 (n := n) (j := i) (by omega) (by rw [h.ok.len, hn]) (hb b1 (List.mem_singleton.2 rfl))

/-- All sectors but the twin's and the home's. -/
def Oth (v v' : Dv) (n at_ h : Nat) : Prop := ∀ j, j < n → (j < at_ ∨ at_ + 3 ≤ j) → (j < h ∨ h + 2 ≤ j) → v'.sect j = v.sect j
theorem Oth.trans {v v' v'' : Dv} {n at_ h : Nat} (a : Oth v v' n at_ h) (b : Oth v' v'' n at_ h) : Oth v v'' n at_ h := fun j hj h1 h2 => by rw [b j hj h1 h2, a j hj h1 h2]
/-- A page at home. -/
def Pg (v : Dv) (h : Nat) (bs : List UInt8) : Prop := v.sect h = bs.take 512 ∧ v.sect (h + 1) = (bs.drop 512).take 512
/-- No marker stands; one stands, with its page beside it. -/
def Zm (v : Dv) (at_ : Nat) : Prop := ((v.sect at_).getD 511 0).toNat = 0
def Sm (v : Dv) (at_ h : Nat) (bs : List UInt8) : Prop := v.sect at_ = markB h 165 ∧ Pg v (at_ + 1) bs
theorem Oth.pg {v v' : Dv} {n at_ h k : Nat} {bs : List UInt8} (a : Oth v v' n at_ h) (p : Pg v k bs) (hk : k + 2 ≤ n) (h1 : k + 2 ≤ at_ ∨ at_ + 3 ≤ k) (h2 : k + 2 ≤ h ∨ h + 2 ≤ k) : Pg v' k bs :=
  ⟨by rw [a k (by omega) (by omega) (by omega)]; exact p.1, by rw [a (k + 1) (by omega) (by omega) (by omega)]; exact p.2⟩
def markP (h : Nat) : List UInt8 := leB8 4 h ++ List.replicate 507 0
theorem markP_len (h : Nat) : (markP h).length = 511 := by unfold markP; rw [List.length_append, leB8_len, List.length_replicate]
theorem markB_eq (h : Nat) (x : UInt8) : markB h x = markP h ++ [x] := (List.append_assoc _ _ _).symm
theorem markB_511 (h : Nat) (x : UInt8) : (markB h x).getD 511 0 = x := by
  rw [markB_eq, List.getD_eq_getElem?_getD, List.getElem?_append_right (by rw [markP_len]; exact Nat.le_refl _), markP_len]
  rfl
theorem markB_torn {h : Nat} {x y : UInt8} {o : List UInt8} (m : Mix (markB h x) (markB h y) o) : o = markB h x ∨ o = markB h y := by
  obtain ⟨c, hc, rfl⟩ := m
  by_cases e : c = 512
  · left
    rw [e, List.take_of_length_le (by rw [markB_len]; omega), List.drop_eq_nil_of_le (by rw [markB_len]; omega), List.append_nil]
  · right
    have : (markB h x).take c = (markB h y).take c := by
      rw [markB_eq, markB_eq, List.take_append_of_le_length (by rw [markP_len]; omega), List.take_append_of_le_length (by rw [markP_len]; omega)]
    rw [this, List.take_append_drop]
theorem mix_zero {h : Nat} {x : UInt8} {s o : List UInt8} (m : Mix (markB h x) s o) (hs : s.length = 512) : o = markB h x ∨ o.getD 511 0 = s.getD 511 0 := by
  obtain ⟨c, hc, rfl⟩ := m
  by_cases e : c = 512
  · left
    rw [e, List.take_of_length_le (by rw [markB_len]; omega), List.drop_eq_nil_of_le (by omega), List.append_nil]
  · right
    rw [List.getD_eq_getElem?_getD, List.getD_eq_getElem?_getD, List.getElem?_append_right (by rw [List.length_take, markB_len]; omega), List.getElem?_drop, List.length_take, markB_len]
    congr 2
    omega

set_option maxHeartbeats 4000000 in
/-- What a Write leaves. -/
theorem write_out {v : Dv} {n at_ h : Nat} {bs : List UInt8} (hu : Up v n) (hp : at_ + 3 ≤ n) (hm : h + 2 ≤ n ∧ (h + 1 < at_ ∨ at_ + 2 < h)) (hl : bs.length = 1024) (hz : Zm v at_) :
    ((v.step = 0 ∨ 10 < v.step) ∧ (writeR v at_ h bs).1 = 0 ∧ Up (writeR v at_ h bs).2 n ∧ Oth v (writeR v at_ h bs).2 n at_ h ∧ Zm (writeR v at_ h bs).2 at_ ∧ Pg (writeR v at_ h bs).2 h bs ∧ (v.step = 0 → (writeR v at_ h bs).2.step = 0) ∧
      (0 ≤ v.calls → v.calls < 1000000000 → (writeR v at_ h bs).2.calls = v.calls + 10)) ∨
    ((1 ≤ v.step ∧ v.step ≤ 10) ∧ (writeR v at_ h bs).1 = 40 ∧ Dn (writeR v at_ h bs).2 n ∧ Oth v (writeR v at_ h bs).2 n at_ h ∧
      ((v.step ≤ 5 ∧ Zm (writeR v at_ h bs).2 at_ ∧ (writeR v at_ h bs).2.sect h = v.sect h ∧ (writeR v at_ h bs).2.sect (h + 1) = v.sect (h + 1)) ∨ (4 ≤ v.step ∧ Sm (writeR v at_ h bs).2 at_ h bs) ∨ (9 ≤ v.step ∧ Zm (writeR v at_ h bs).2 at_ ∧ Pg (writeR v at_ h bs).2 h bs))) := by
  have hn := hu.vn
  have st := hu.ok.step
  unfold writeR
  rw [hu.d, if_neg (by simp), if_neg (fun hh => hh ⟨⟨by omega, by omega⟩, by unfold mayP; omega⟩), if_neg (fun hh => hh hl)]
  have hb2 : ∀ b ∈ chunkL 2 bs, b.length = 512 := fun b hb => by
    simp only [chunkL, List.mem_cons, List.not_mem_nil, or_false] at hb
    rcases hb with rfl | rfl
    · rw [List.length_take]; omega
    · rw [List.length_take, List.length_drop]; omega
  have hb1 : ∀ x : UInt8, ∀ b ∈ [markB (h : Int).toNat x], b.length = 512 := fun x b hb => by
    rw [List.mem_singleton] at hb
    rw [hb, markB_len]
  have e1 : ((at_ : Int) + 1) = ((at_ + 1 : Nat) : Int) := by omega
  have ln2 := chunkL_len 2 bs
  rw [e1]
  rw [Int.toNat_natCast] at hb1 ⊢
  -- beside
  by_cases s1 : 1 ≤ v.step ∧ v.step ≤ 3
  · obtain ⟨a, b, c, _⟩ := put_no (i := at_ + 1) hu (by omega) hb2 (by rw [ln2]; omega)
    rw [if_pos (by rw [a]; decide)]
    rw [ln2] at c
    refine .inr ⟨by omega, a, b, fun j hj h1 h2 => c j hj (by omega), .inl ⟨by omega, ?_, c _ (by omega) (by omega), c _ (by omega) (by omega)⟩⟩
    unfold Zm
    rw [c _ (by omega) (by omega)]
    exact hz
  obtain ⟨a1, u1, t1, c1, k1⟩ := put_ok (i := at_ + 1) hu (by omega) hb2 (by rw [ln2]; omega)
  rw [if_neg (by rw [a1]; simp)]
  generalize putL v ((at_ + 1 : Nat) : Int) (chunkL 2 bs) = A at *
  rw [ln2] at t1 k1
  have o1 : ∀ j, j < n → (j < at_ + 1 ∨ at_ + 3 ≤ j) → A.2.sect j = v.sect j := fun j hj hh => by
    rw [c1 j hj]
    simp only [chunkL, zipI, readL]
    rw [if_neg (by omega), if_neg (by omega)]
  have p1 : Pg A.2 (at_ + 1) bs := by
    constructor
    · rw [c1 _ (by omega)]
      simp only [chunkL, zipI, readL]
      rw [if_pos trivial, if_neg (by omega)]
    · rw [c1 _ (by omega)]
      simp only [chunkL, zipI, readL]
      rw [if_pos (by omega)]
  -- the marker
  by_cases s2 : 4 ≤ v.step ∧ v.step ≤ 5
  · obtain ⟨a, b, c, m⟩ := put_no (i := at_) u1 (by simp; omega) (hb1 165) (by simp; rw [t1, if_neg (by omega)]; omega)
    rw [if_pos (by rw [a]; decide)]
    simp only [List.length_cons, List.length_nil] at c
    have oth : Oth v (putL A.2 (at_ : Int) [markB h 165]).2 n at_ h := fun j hj h1 h2 => by rw [c j hj (by omega), o1 j hj (by omega)]
    refine .inr ⟨by omega, a, b, oth, ?_⟩
    rcases mix_zero (m _ rfl) (sect_len u1.ok (by have := u1.vn; omega)) with e | e
    · refine .inr (.inl ⟨by omega, e, ?_, ?_⟩)
      · rw [c _ (by omega) (by omega)]; exact p1.1
      · rw [c _ (by omega) (by omega)]; exact p1.2
    · refine .inl ⟨by omega, ?_, by rw [c _ (by omega) (by omega), o1 _ (by omega) (by omega)], by rw [c _ (by omega) (by omega), o1 _ (by omega) (by omega)]⟩
      unfold Zm
      rw [e, o1 _ (by omega) (by omega)]
      exact hz
  obtain ⟨a2, u2, t2, c2, k2⟩ := put_ok (i := at_) u1 (by simp; omega) (hb1 165) (by
    simp only [List.length_cons, List.length_nil]
    rcases Decidable.em (v.step = 0) with z | z
    · rw [t1, if_pos z]; omega
    · rw [t1, if_neg z]; omega)
  rw [if_neg (by rw [a2]; simp)]
  generalize putL A.2 (at_ : Int) [markB h 165] = B at *
  have o2 : ∀ j, j < n → j ≠ at_ → B.2.sect j = A.2.sect j := fun j hj hh => by
    rw [c2 j hj]
    simp only [zipI, readL]
    rw [if_neg (by omega)]
  have m2 : B.2.sect at_ = markB h 165 := by
    rw [c2 _ (by omega)]
    simp only [zipI, readL]
    rw [if_pos trivial]
  have p2 : Sm B.2 at_ h bs := ⟨m2, by rw [o2 _ (by omega) (by omega)]; exact p1.1, by rw [o2 _ (by omega) (by omega)]; exact p1.2⟩
  simp only [List.length_cons, List.length_nil] at t2 k2
  -- home
  by_cases s3 : 6 ≤ v.step ∧ v.step ≤ 8
  · obtain ⟨a, b, c, _⟩ := put_no (i := h) u2 (by omega) hb2 (by rw [ln2, t2, t1, if_neg (by omega), if_neg (by omega)]; omega)
    rw [if_pos (by rw [a]; decide)]
    rw [ln2] at c
    refine .inr ⟨by omega, a, b, fun j hj h1 h2 => by rw [c j hj (by omega), o2 j hj (by omega), o1 j hj (by omega)], .inr (.inl ⟨by omega, by rw [c _ (by omega) (by omega)]; exact m2, ?_, ?_⟩)⟩
    · rw [c _ (by omega) (by omega)]; exact p2.2.1
    · rw [c _ (by omega) (by omega)]; exact p2.2.2
  obtain ⟨a3, u3, t3, c3, k3⟩ := put_ok (i := h) u2 (by omega) hb2 (by
    rw [ln2]
    rcases Decidable.em (v.step = 0) with z | z
    · rw [t2, t1, if_pos z, if_pos rfl]; omega
    · rw [t2, t1, if_neg z, if_neg (by omega)]; omega)
  rw [if_neg (by rw [a3]; simp)]
  generalize putL B.2 (h : Int) (chunkL 2 bs) = C at *
  rw [ln2] at t3 k3
  have o3 : ∀ j, j < n → (j < h ∨ h + 2 ≤ j) → C.2.sect j = B.2.sect j := fun j hj hh => by
    rw [c3 j hj]
    simp only [chunkL, zipI, readL]
    rw [if_neg (by omega), if_neg (by omega)]
  have p3 : Pg C.2 h bs := by
    constructor
    · rw [c3 _ (by omega)]
      simp only [chunkL, zipI, readL]
      rw [if_pos trivial, if_neg (by omega)]
    · rw [c3 _ (by omega)]
      simp only [chunkL, zipI, readL]
      rw [if_pos (by omega)]
  have m3 : C.2.sect at_ = markB h 165 := by rw [o3 _ (by omega) (by omega)]; exact m2
  -- the marker's last byte
  by_cases s4 : 9 ≤ v.step ∧ v.step ≤ 10
  · obtain ⟨a, b, c, m⟩ := put_no (i := at_) u3 (by simp; omega) (hb1 0) (by simp; rw [t3, t2, t1, if_neg (by omega), if_neg (by omega), if_neg (by omega)]; omega)
    simp only [List.length_cons, List.length_nil] at c
    refine .inr ⟨by omega, a, b, fun j hj h1 h2 => by rw [c j hj (by omega), o3 j hj (by omega), o2 j hj (by omega), o1 j hj (by omega)], ?_⟩
    have hmx := m _ rfl
    rw [m3] at hmx
    rcases markB_torn hmx with e | e
    · refine .inr (.inr ⟨by omega, ?_, ?_, ?_⟩)
      · unfold Zm
        rw [e, markB_511]
        rfl
      · rw [c _ (by omega) (by omega)]; exact p3.1
      · rw [c _ (by omega) (by omega)]; exact p3.2
    · refine .inr (.inl ⟨by omega, e, ?_, ?_⟩)
      · rw [c _ (by omega) (by omega), o3 _ (by omega) (by omega)]; exact p2.2.1
      · rw [c _ (by omega) (by omega), o3 _ (by omega) (by omega)]; exact p2.2.2
  obtain ⟨a4, u4, t4, c4, k4⟩ := put_ok (i := at_) u3 (by simp; omega) (hb1 0) (by
    simp only [List.length_cons, List.length_nil]
    rcases Decidable.em (v.step = 0) with z | z
    · rw [t3, t2, t1, if_pos z, if_pos rfl, if_pos rfl]; omega
    · rw [t3, t2, t1, if_neg z, if_neg (by omega), if_neg (by omega)]; omega)
  have o4 : ∀ j, j < n → j ≠ at_ → (putL C.2 (at_ : Int) [markB h 0]).2.sect j = C.2.sect j := fun j hj hh => by
    rw [c4 j hj]
    simp only [zipI, readL]
    rw [if_neg (by omega)]
  simp only [List.length_cons, List.length_nil] at t4 k4
  refine .inl ⟨by omega, a4, u4, fun j hj h1 h2 => by rw [o4 j hj (by omega), o3 j hj (by omega), o2 j hj (by omega), o1 j hj (by omega)], ?_, ?_, fun h0 => ?_, fun hc0 hc1 => ?_⟩
  · unfold Zm
    rw [c4 _ (by omega)]
    simp only [zipI, readL]
    rw [if_pos trivial, markB_511]
    rfl
  · exact ⟨by rw [o4 _ (by omega) (by omega)]; exact p3.1, by rw [o4 _ (by omega) (by omega)]; exact p3.2⟩
  · rw [t4, t3, t2, t1, if_pos h0, if_pos rfl, if_pos rfl, if_pos rfl]
  · have q1 := k1 hc0 (by omega)
    have q2 := k2 (by omega) (by omega)
    have q3 := k3 (by omega) (by omega)
    rw [k4 (by omega) (by omega), q3, q2, q1]
    omega
end Go.Proofs.Ytalkkhocljehfaa

/- Plain: what a Finish leaves, cut off or not. Conditions: none. -/
set_option linter.unusedVariables false
set_option linter.unusedSimpArgs false
namespace Go.Proofs.Ytalkkhocljehfaa
open Go Go.RowKit

theorem fin_zero {v : Dv} {n at_ : Nat} (hu : Up v n) (hp : at_ + 3 ≤ n) (hz : Zm v at_) : finR v at_ = ((false, 0), v) := by
  have hn := hu.vn
  unfold finR
  rw [hu.d, if_neg (by simp), if_neg (fun hh => hh ⟨by omega, by omega⟩)]
  unfold finS
  rw [hu.read (by omega), if_pos (show ((v.sect at_).getD 511 0).toNat = 0 from hz)]
theorem replicate_any (k : Nat) : (List.replicate k (0 : UInt8)).any (fun x => decide (x.toNat ≠ 0)) = false := by
  rw [List.any_eq_false]
  intro x hx
  rw [(List.mem_replicate.1 hx).2]
  decide
theorem finOdd_mark (h : Nat) (x : UInt8) : finOdd (markB h x) = false := by
  unfold finOdd markB
  rw [List.drop_append_of_le_length (by rw [leB8_len]; exact Nat.le_refl _), List.drop_eq_nil_of_le (by rw [leB8_len]; exact Nat.le_refl _), List.nil_append, List.take_append_of_le_length (by rw [List.length_replicate]; exact Nat.le_refl _), List.take_of_length_le (by rw [List.length_replicate]; exact Nat.le_refl _)]
  exact replicate_any 507
theorem finH_mark {h : Nat} (hh : h < 4294967296) (x : UInt8) : finH (markB h x) = h := by
  unfold finH markB
  rw [List.take_append_of_le_length (by rw [leB8_len]; exact Nat.le_refl _), List.take_of_length_le (by rw [leB8_len]; exact Nat.le_refl _), leN_leB8]
  exact Nat.mod_eq_of_lt hh
set_option maxHeartbeats 1000000 in
theorem fin_out {v : Dv} {n at_ h : Nat} {bs : List UInt8} (hu : Up v n) (hp : at_ + 3 ≤ n) (hm : h + 2 ≤ n ∧ (h + 1 < at_ ∨ at_ + 2 < h)) (hl : bs.length = 1024) (hs : Sm v at_ h bs) :
    ((v.step = 0 ∨ 5 < v.step) ∧ (finR v at_).1 = (true, 0) ∧ Up (finR v at_).2 n ∧ Oth v (finR v at_).2 n at_ h ∧ Zm (finR v at_).2 at_ ∧ Pg (finR v at_).2 h bs ∧ (v.step = 0 → (finR v at_).2.step = 0)) ∨
    ((1 ≤ v.step ∧ v.step ≤ 5) ∧ (finR v at_).1 = (false, 40) ∧ Dn (finR v at_).2 n ∧ Oth v (finR v at_).2 n at_ h ∧ (Sm (finR v at_).2 at_ h bs ∨ Zm (finR v at_).2 at_ ∧ Pg (finR v at_).2 h bs)) := by
  have hn := hu.vn
  have n2 := hu.ok.n2
  have st := hu.ok.step
  have eq : finR v at_ = finS v at_ (markB h 165) (bs.take 512) ((bs.drop 512).take 512) := by
    unfold finR
    rw [hu.d, if_neg (by simp), if_neg (fun hh => hh ⟨by omega, by omega⟩), show (at_ : Int) + 1 = ((at_ + 1 : Nat) : Int) by omega, show (at_ : Int) + 2 = ((at_ + 1 + 1 : Nat) : Int) by omega, hu.read (by omega), hu.read (by omega), hu.read (by omega), hs.1, hs.2.1, hs.2.2]
  rw [eq]
  unfold finS
  rw [if_neg (by rw [markB_511]; decide), if_neg (fun hh => hh ⟨by rw [markB_511]; rfl, finOdd_mark _ _, by rw [finH_mark (by omega)]; unfold mayP; omega⟩), finH_mark (by omega), markB_set]
  have hb2 : ∀ b ∈ [bs.take 512, (bs.drop 512).take 512], b.length = 512 := fun b hb => by
    simp only [List.mem_cons, List.not_mem_nil, or_false] at hb
    rcases hb with rfl | rfl
    · rw [List.length_take]; omega
    · rw [List.length_take, List.length_drop]; omega
  have hb1 : ∀ b ∈ [markB h 0], b.length = 512 := fun b hb => by
    rw [List.mem_singleton] at hb
    rw [hb, markB_len]
  have l2 : [bs.take 512, (bs.drop 512).take 512].length = 2 := rfl
  have l1 : [markB h 0].length = 1 := rfl
  by_cases s1 : 1 ≤ v.step ∧ v.step ≤ 3
  · obtain ⟨a, b, c, _⟩ := put_no (i := h) hu (by omega) hb2 (by rw [l2]; omega)
    rw [if_pos (by rw [a]; decide)]
    rw [l2] at c
    refine .inr ⟨by omega, by rw [a], b, fun j hj h1 h2 => c j hj (by omega), .inl ⟨?_, ?_, ?_⟩⟩
    · dsimp only
      rw [c _ (by omega) (by omega)]
      exact hs.1
    · dsimp only
      rw [c _ (by omega) (by omega)]
      exact hs.2.1
    · dsimp only
      rw [c _ (by omega) (by omega)]
      exact hs.2.2
  obtain ⟨a3, u3, t3, c3, k3⟩ := put_ok (i := h) hu (by omega) hb2 (by rw [l2]; omega)
  rw [if_neg (by rw [a3]; simp)]
  generalize putL v (h : Int) [bs.take 512, (bs.drop 512).take 512] = C at *
  rw [l2] at t3 k3
  have o3 : ∀ j, j < n → (j < h ∨ h + 2 ≤ j) → C.2.sect j = v.sect j := fun j hj hh => by
    rw [c3 j hj]
    simp only [zipI, readL]
    rw [if_neg (by omega), if_neg (by omega)]
  have p3 : Pg C.2 h bs := by
    constructor
    · rw [c3 _ (by omega)]
      simp only [zipI, readL]
      rw [if_pos trivial, if_neg (by omega)]
    · rw [c3 _ (by omega)]
      simp only [zipI, readL]
      rw [if_pos (by omega)]
  have m3 : C.2.sect at_ = markB h 165 := by rw [o3 _ (by omega) (by omega)]; exact hs.1
  by_cases s4 : 4 ≤ v.step ∧ v.step ≤ 5
  · obtain ⟨a, b, c, m⟩ := put_no (i := at_) u3 (by rw [l1]; omega) hb1 (by rw [l1, t3, if_neg (by omega)]; omega)
    rw [if_pos (by rw [a]; decide)]
    rw [l1] at c
    refine .inr ⟨by omega, by rw [a], b, fun j hj h1 h2 => by dsimp only; rw [c j hj (by omega), o3 j hj (by omega)], ?_⟩
    dsimp only
    have hmx := m _ rfl
    rw [m3] at hmx
    rcases markB_torn hmx with e | e
    · refine .inr ⟨?_, ?_, ?_⟩
      · unfold Zm
        rw [e, markB_511]
        rfl
      · rw [c _ (by omega) (by omega)]; exact p3.1
      · rw [c _ (by omega) (by omega)]; exact p3.2
    · refine .inl ⟨e, ?_, ?_⟩
      · rw [c _ (by omega) (by omega), o3 _ (by omega) (by omega)]; exact hs.2.1
      · rw [c _ (by omega) (by omega), o3 _ (by omega) (by omega)]; exact hs.2.2
  obtain ⟨a4, u4, t4, c4, k4⟩ := put_ok (i := at_) u3 (by rw [l1]; omega) hb1 (by
    rw [l1]
    rcases Decidable.em (v.step = 0) with z | z
    · rw [t3, if_pos z]; omega
    · rw [t3, if_neg z]; omega)
  rw [if_neg (by rw [a4]; simp)]
  have o4 : ∀ j, j < n → j ≠ at_ → (putL C.2 (at_ : Int) [markB h 0]).2.sect j = C.2.sect j := fun j hj hh => by
    rw [c4 j hj]
    simp only [zipI, readL]
    rw [if_neg (by omega)]
  refine .inl ⟨by omega, rfl, u4, fun j hj h1 h2 => by dsimp only; rw [o4 j hj (by omega), o3 j hj (by omega)], ?_, ?_, fun z => ?_⟩
  · unfold Zm
    dsimp only
    rw [c4 _ (by omega)]
    simp only [zipI, readL]
    rw [if_pos trivial, markB_511]
    rfl
  · dsimp only
    exact ⟨by rw [o4 _ (by omega) (by omega)]; exact p3.1, by rw [o4 _ (by omega) (by omega)]; exact p3.2⟩
  · dsimp only
    rw [t4, t3, if_pos z, if_pos rfl]
/-- What Read answers of a page at home. -/
theorem read_out {v : Dv} {n h : Nat} (hu : Up v n) (hh : h + 2 ≤ n) : readR v h = (0, v.sect h ++ v.sect (h + 1)) := by
  have hn := hu.vn
  unfold readR
  rw [hu.d, if_neg (by simp), if_neg (fun hh => hh ⟨by omega, by omega⟩), show (h : Int) + 1 = ((h + 1 : Nat) : Int) by omega, hu.read (by omega), hu.read (by omega)]
theorem halves {bs : List UInt8} (hl : bs.length = 1024) : bs.take 512 ++ (bs.drop 512).take 512 = bs := by
  have : (bs.drop 512).take 512 = bs.drop 512 := List.take_of_length_le (by rw [List.length_drop]; omega)
  rw [this, List.take_append_drop]
theorem read_pg {v : Dv} {n h : Nat} {bs : List UInt8} (hu : Up v n) (hh : h + 2 ≤ n) (hp : Pg v h bs) (hl : bs.length = 1024) : readR v h = (0, bs) := by
  rw [read_out hu hh, hp.1, hp.2, halves hl]
end Go.Proofs.Ytalkkhocljehfaa

/- Layer 8's statements: pages, homes, the disk that they begin with. Conditions: none. -/
set_option linter.unusedVariables false
set_option linter.unusedSimpArgs false
namespace Go.Proofs.Ytalkkhocljehfaa
open Go Go.RowKit

/-- A page of the statements. -/
def pgB (f i : Nat) : UInt8 := UInt8.ofNat ((f + i / 512 * 7 + i / 100) % 256)
def pageB (f : Nat) : List UInt8 := (List.range 1024).map (pgB f)
theorem pageB_len (f : Nat) : (pageB f).length = 1024 := by unfold pageB; rw [List.length_map, List.length_range]
theorem pageB_get {f k : Nat} (h : k < (pageB f).length) : (pageB f)[k] = pgB f k := by simp only [pageB, List.getElem_map, List.getElem_range]
theorem pgB_val {f k : Nat} (hf : f < 256) (hk : k < 1024) : Value.int .u8 (IntKind.wrap .u8 ((IntKind.wrap .u8 (((f : Nat) : Int) + (IntKind.wrap .u8 ((IntKind.wrap .u8 (IntKind.wrap .i64 (Int.tdiv ((k : Nat) : Int) (512 : Int)))) * (7 : Int))))) + (IntKind.wrap .u8 (IntKind.wrap .i64 (Int.tdiv ((k : Nat) : Int) (100 : Int)))))) = bv (pgB f k) := by
  have e1 : Int.tdiv ((k : Nat) : Int) 512 = ((k / 512 : Nat) : Int) := rfl
  have e2 : Int.tdiv ((k : Nat) : Int) 100 = ((k / 100 : Nat) : Int) := rfl
  have hb : IntKind.wrap .u8 ((k / 512 : Nat) : Int) = ((k / 512 : Nat) : Int) := by rw [u8_mod, Nat.mod_eq_of_lt (by omega)]
  have hc : IntKind.wrap .u8 ((k / 100 : Nat) : Int) = ((k / 100 : Nat) : Int) := by rw [u8_mod, Nat.mod_eq_of_lt (by omega)]
  have hd : IntKind.wrap .u8 (((k / 512 : Nat) : Int) * 7) = ((k / 512 * 7 : Nat) : Int) := by
    rw [show ((k / 512 : Nat) : Int) * 7 = ((k / 512 * 7 : Nat) : Int) by rw [Int.natCast_mul]; rfl, u8_mod, Nat.mod_eq_of_lt (by omega)]
  rw [e1, e2, wrap_i64 (x := ((k / 512 : Nat) : Int)) (by omega) (by omega), wrap_i64 (x := ((k / 100 : Nat) : Int)) (by omega) (by omega), hb, hc, hd, ← Int.natCast_add, u8_mod, ← Int.natCast_add, u8_mod, Nat.mod_add_mod]
  exact bv_of (Nat.mod_lt _ (by omega))
theorem Bb.sl {w : World} {ow : Nat → Nat} {u b n : Nat} {bs : List UInt8} (h : Bb w ow u b bs) (hn : bs.length = n) : Sl w T_uint8 1 (some ⟨b, 0, none⟩) n n (bvs bs) := by
  obtain ⟨⟨cur, hb, hc⟩, _⟩ := h
  have hsz : cur.size = n := by rw [← Array.length_toList, hc, bvs_len, hn]
  exact ⟨by rw [bvs_len]; omega, Nat.le_refl _, .inr ⟨b, cur, rfl, hb, by omega, by rw [hc, List.take_of_length_le (by rw [bvs_len]; omega)]⟩⟩
set_option maxRecDepth 100000 in
theorem page_c {w : World} {f : Nat} {R : Ending → World → Prop} (hf : f < 256) (hK : ∀ b w', Sl w' T_uint8 1 (some ⟨b, 0, none⟩) 1024 1024 (bvs (pageB f)) → Kp no w w' → w.heap.size ≤ b → R (.returned (.slice (some ⟨b, 0, none⟩) 1024 1024)) w') :
    GoC Try.prog F_law08_page #[.int .u8 (f : Int)] w R := by
  refine S_law08_page ?_
  unfold W_law08_page
  refine make_u8 (n := 1024) (by omega) fun b w1 cur hb hcur k1 hbe => ⟨_, _, _, rfl, ?_⟩
  have B0 : Bb w1 (fun _ => 0) 0 b (List.replicate 1024 0) := ⟨⟨cur, hb, hcur⟩, rfl⟩
  refine loopN (fun st w' => ∃ k : Nat, k ≤ 1024 ∧ st.1 = (k : Int) ∧ Kp no w w' ∧ Bb w' (fun _ => 0) 0 b ((pageB f).take k ++ (List.replicate 1024 0).drop k)) (fun st _ => 1024 - st.1.toNat)
    ⟨0, by omega, rfl, k1, by rw [List.take_zero, List.drop_zero, List.nil_append]; exact B0⟩ ?_
  rintro ⟨k0, u⟩ w2 ⟨k, hk, hk0, k2, B2⟩ _
  dsimp only at hk0 ⊢
  subst hk0
  have hlen : (pageB f).length = (List.replicate 1024 (0 : UInt8)).length := by rw [pageB_len, List.length_replicate]
  refine cond_d (fun hlt => ?_) (fun hge => ?_)
  · have hk4 : k < 1024 := by omega
    rw [pgB_val hf hk4]
    refine ⟨by omega, by omega, by omega, by omega, _, rfl, ?_⟩
    refine B2.st (i := k) (by rw [List.length_append, List.length_take, List.length_drop, pageB_len, List.length_replicate]; omega) (by rw [Int.toNat_natCast, add_at, Nat.zero_add]) fun w3 B3 k3 => ?_
    rw [half_set (by rw [pageB_len]; exact hk4) hlen (pageB_get (by rw [pageB_len]; exact hk4))] at B3
    exact ⟨⟨k + 1, by omega, wk8 (n := 1024) hk4 (by omega), kp_blk k2 (by omega) k3, B3⟩, by rw [wk8 (n := 1024) hk4 (by omega)]; simp only [Int.toNat_natCast]; omega⟩
  · have hke : k = 1024 := by omega
    subst hke
    rw [List.take_of_length_le (by rw [pageB_len]; exact Nat.le_refl _), List.drop_eq_nil_of_le (by rw [List.length_replicate]; exact Nat.le_refl _), List.append_nil] at B2
    exact hK b w2 (B2.sl (pageB_len f)) k2 (by omega)

theorem tmod_rest {n m : Int} (hm : 0 < m) : Int.tmod (Int.tmod n m + m) m = n % m := by
  have h1 := Int.lt_tmod_of_pos n hm
  rw [Int.tmod_eq_emod_of_nonneg (by omega), Int.add_emod_right]
  have h2 := Int.tmod_add_mul_tdiv n m
  conv => rhs; rw [← h2]
  rw [Int.add_mul_emod_self_left]
/-- A home. -/
def homeN (n : Int) : Nat := 5 + 2 * (n % 4).toNat
theorem homeN_is (n : Int) : homeN n = 5 ∨ homeN n = 7 ∨ homeN n = 9 ∨ homeN n = 11 := by
  unfold homeN
  omega
theorem homeOf_c {w : World} {n : Int} {R : Ending → World → Prop} (h : R (.returned (.int .i64 (homeN n : Int))) w) : GoC Try.prog F_law08_homeOf #[.int .i64 n] w R := by
  refine S_law08_homeOf ?_
  unfold W_law08_homeOf
  have h1 := Int.lt_tmod_of_pos n (show (0 : Int) < 4 by omega)
  have h2 := Int.tmod_lt_of_pos n (show (0 : Int) < 4 by omega)
  have e2 : IntKind.wrap .i64 (Int.tmod n 4 + 4) = Int.tmod n 4 + 4 := wrap_i64 (by omega) (by omega)
  rw [e2, tmod_rest (by omega)]
  clear e2
  have e3 : IntKind.wrap .i64 (2 * (n % 4)) = 2 * (n % 4) := wrap_i64 (by omega) (by omega)
  rw [e3]
  clear e3
  have e4 : IntKind.wrap .i64 (5 + 2 * (n % 4)) = 5 + 2 * (n % 4) := wrap_i64 (by omega) (by omega)
  rw [e4]
  clear e4
  have e5 : ((homeN n : Nat) : Int) = 5 + 2 * (n % 4) := by unfold homeN; omega
  rw [e5] at h
  exact ⟨by omega, by omega, h⟩
theorem fstep_c {w : World} {n n2 n3 : Int} {a : Option Addr} {l c : Nat} {R : Ending → World → Prop} (h : ∀ w', Kp no w w' → R (.returned (.int .i64 (n % 12))) w') :
    GoC Try.prog F_law08_Fall_step #[.agg #[.int .i64 n, .slice a l c, .int .i64 n2, .int .i64 n3]] w R := by
  refine S_law08_Fall_step ?_
  unfold W_law08_Fall_step
  refine AlF.intro fun b1 w1 hb1e hb1 k1 _ => ⟨n, hb1.at rfl rfl, ?_⟩
  have h1 := Int.lt_tmod_of_pos n (show (0 : Int) < 12 by omega)
  have h2 := Int.tmod_lt_of_pos n (show (0 : Int) < 12 by omega)
  have e2 : IntKind.wrap .i64 (Int.tmod n 12 + 12) = Int.tmod n 12 + 12 := wrap_i64 (by omega) (by omega)
  rw [e2, tmod_rest (by omega)]
  clear e2
  exact ⟨by omega, by omega, h w1 k1⟩

theorem writeR_sm {v : Dv} {at_ h : Int} {bs : List UInt8} {m : Nat} (hs : v.Sm m) : (writeR v at_ h bs).2.Sm (m + 6) := by
  have s1 := putL_sm (chunkL 2 bs) (i := at_ + 1) hs
  have s2 := putL_sm [markB h.toNat 165] (i := at_) s1
  have s3 := putL_sm (chunkL 2 bs) (i := h) s2
  have s4 := putL_sm [markB h.toNat 0] (i := at_) s3
  rw [chunkL_len] at s1 s2 s3 s4
  simp only [List.length_cons, List.length_nil] at s2 s3 s4
  unfold writeR
  repeat' split
  · exact hs.mono (by omega)
  · exact hs.mono (by omega)
  · exact hs.mono (by omega)
  · exact s1.mono (by omega)
  · exact s2.mono (by omega)
  · exact s3.mono (by omega)
  · exact s4.mono (by omega)
theorem finR_sm {v : Dv} {at_ : Int} {m : Nat} (hs : v.Sm m) : (finR v at_).2.Sm (m + 3) := by
  unfold finR finS
  repeat' split
  · exact hs.mono (by omega)
  · exact hs.mono (by omega)
  · exact hs.mono (by omega)
  · exact hs.mono (by omega)
  · exact (putL_sm _ hs).mono (by simp)
  · exact (putL_sm _ (putL_sm _ hs)).mono (by simp)
  · exact (putL_sm _ (putL_sm _ hs)).mono (by simp)
theorem Up.sm {v : Dv} {n m m' : Nat} (h : Up v n) (hs : v.Sm m) : v.Sm m' := ⟨by rw [h.q]; simp, hs.k⟩

/-- The disk of the statements; its pages. -/
structure Sto (v : Dv) (P : Nat → List UInt8) : Prop where
  up : Up v 13
  z : Zm v 2
  a0 : v.sect 0 = List.replicate 512 0
  a1 : v.sect 1 = List.replicate 512 0
  pg : ∀ h, (h = 5 ∨ h = 7 ∨ h = 9 ∨ h = 11) → Pg v h (P h)
theorem sect_zero (n j : Nat) (h : j < n) : (Dv.new n).sect j = List.replicate 512 0 := by
  unfold Dv.sect Dv.new
  have : (j + 1) * 512 ≤ n * 512 := Nat.mul_le_mul_right _ h
  dsimp only
  rw [List.drop_replicate, List.take_replicate]
  congr 1
  omega
theorem up_new {n : Nat} (h1 : 1 ≤ n) (h2 : n ≤ 8192) : Up (Dv.new n) n := by
  have hl : (Dv.new n).img.length = n * 512 := List.length_replicate ..
  refine ⟨?_, rfl, rfl, Dv.n_of hl⟩
  rw [Dv.new_load]
  exact Dv.Ok.load (List.length_replicate ..) h1 h2
theorem zm_new {n : Nat} (h : 2 < n) : Zm (Dv.new n) 2 := by
  unfold Zm
  rw [sect_zero n 2 h, List.getD_eq_getElem?_getD, List.getElem?_replicate]
  rfl
theorem sm_new (n : Nat) : (Dv.new n).Sm 0 := ⟨Nat.le_refl _, by simp [Dv.new]⟩
theorem slT_bs {w w' : World} {ow : Nat → Nat} {b t u n : Nat} {bs : List UInt8} (s : Sl w' T_uint8 1 (some ⟨b, 0, none⟩) n n (bvs bs)) (hb : w.heap.size ≤ b) (hu : Td t u) (hn : n ≤ 140737488355328) : Bs w' (ext ow w.heap.size u) t (some ⟨b, 0, none⟩) bs := by
  have e := s.ln
  refine ⟨fun i v hv => ?_, by omega, fun h => by cases h⟩
  obtain ⟨b', o, ha, hc⟩ := s.rd i v hv
  cases ha
  exact ⟨b, 0, rfl, hc, by rw [ext_new hb]; exact hu⟩

set_option maxHeartbeats 1000000 in
theorem store_c {w : World} {ow : Nat → Nat} {t : Nat} {R : Ending → World → Prop}
    (hK : ∀ b w' ow' v, DX w' ow' t b v → v.Sm 0 → Sto v pageB → v.step = 0 → Fro (Td t) w ow w' ow' → w.heap.size ≤ b → R (.returned (.tuple #[.pointer (some ⟨b, 0, none⟩), .bool true])) w') : GoC Try.prog F_law08_store #[] w R := by
  refine S_law08_store ?_
  unfold W_law08_store
  refine new_c (ow := ow) (n := 13) (by omega) (by omega) t fun b w1 ow1 h1 k1 ag1 hb1 => ⟨_, _, rfl, cond_f rfl (cond_f rfl ?_)⟩
  have F1 : Fro (Td t) w ow w1 ow1 := Fro.new k1 ag1
  refine loopN (fun st w' => ∃ j : Nat, j ≤ 4 ∧ st.1 = ((5 + 2 * j : Nat) : Int) ∧ ∃ ow' v, DX w' ow' t b v ∧ v.Sm 0 ∧ v.step = 0 ∧ Fro (Td t) w ow w' ow' ∧ Up v 13 ∧ Zm v 2 ∧ v.sect 0 = List.replicate 512 0 ∧ v.sect 1 = List.replicate 512 0 ∧ ∀ i, i < j → Pg v (5 + 2 * i) (pageB (5 + 2 * i))) (fun st _ => 13 - st.1.toNat)
    ⟨0, by omega, rfl, ow1, Dv.new 13, h1, sm_new 13, rfl, F1, up_new (by omega) (by omega), zm_new (by omega), sect_zero 13 0 (by omega), sect_zero 13 1 (by omega), fun i hi => by omega⟩ ?_
  rintro ⟨j0, u⟩ w2 ⟨j, hj, hj0, ow2, v, h2, sm2, st2, F2, u2, z2, a0, a1, pg⟩ _
  dsimp only at hj0 ⊢
  subst hj0
  refine cond_d (fun hlt => ?_) (fun hge => ?_)
  · have e8 : IntKind.wrap .u8 ((5 + 2 * j : Nat) : Int) = ((5 + 2 * j : Nat) : Int) := by rw [u8_mod, Nat.mod_eq_of_lt (by omega)]
    have e9 : IntKind.wrap .i64 (((5 + 2 * j : Nat) : Int) + 2) = ((5 + 2 * (j + 1) : Nat) : Int) := by rw [wrap_i64 (by omega) (by omega)]; omega
    rw [e8, e9]
    refine page_c (by omega) fun b3 w3 s3 k3 hb3 => ⟨_, _, _, rfl, ?_⟩
    have f3 : Fro (fun _ => True) w2 ow2 w3 (ext ow2 w2.heap.size (t + 5)) := Fro.of_kp0 (t + 5) k3
    have B3 := slT_bs (ow := ow2) (t := t) (u := t + 5) s3 hb3 ⟨by omega, by omega, by omega⟩ (by omega)
    have h3 := h2.fr f3 trivial trivial trivial trivial
    have F3 := F2.trans (f3.mono fun u (_ : Td t u) => trivial)
    generalize ext ow2 w2.heap.size (t + 5) = ow3 at *
    refine twrite_c h3 (u2.sm sm2) B3 (pageB_len _) (Nat.le_refl _) fun e w4 ow4 h4 f4 he _ => ⟨_, rfl, ?_⟩
    rcases write_out (at_ := 2) (h := 5 + 2 * j) (bs := pageB (5 + 2 * j)) u2 (by omega) (by omega) (pageB_len _) z2 with ⟨_, w0, wu, wo, wz, wp, ws, _⟩ | ⟨hh, _⟩
    · rw [show ((2 : Nat) : Int) = 2 from rfl] at w0 wu wo wz wp ws
      rw [w0] at he
      rcases he with ⟨_, rfl⟩ | ⟨hne, _⟩
      · have sm4 := writeR_sm (at_ := 2) (h := ((5 + 2 * j : Nat) : Int)) (bs := pageB (5 + 2 * j)) sm2
        refine .inl ⟨rfl, cond_f rfl ⟨⟨j + 1, by omega, rfl, ow4, _, h4, wu.sm sm4, ws st2, F3.trans f4, wu, wz, by rw [wo 0 (by omega) (by omega) (by omega)]; exact a0, by rw [wo 1 (by omega) (by omega) (by omega)]; exact a1, fun i hi => ?_⟩, by simp only [Int.toNat_natCast]; omega⟩⟩
        by_cases hij : i = j
        · subst hij
          exact wp
        · exact wo.pg (pg i (by omega)) (by omega) (by omega) (by omega)
      · exact absurd rfl hne
    · omega
  · have hj4 : j = 4 := by omega
    subst hj4
    refine hK b w2 ow2 v h2 sm2 ⟨u2, z2, a0, a1, fun h hh => ?_⟩ st2 F2 hb1
    rcases hh with rfl | rfl | rfl | rfl
    · exact pg 0 (by omega)
    · exact pg 1 (by omega)
    · exact pg 2 (by omega)
    · exact pg 3 (by omega)
end Go.Proofs.Ytalkkhocljehfaa

/- Layer 8's statements: the first line; the other pages. Conditions: none. -/
set_option linter.unusedVariables false
set_option linter.unusedSimpArgs false
namespace Go.Proofs.Ytalkkhocljehfaa
open Go Go.RowKit

theorem conv_c {w : World} {a : Option Addr} {l c : Nat} {bs : List UInt8} {K : Value → World → Prop} (s : Sl w T_uint8 1 a l c (bvs bs)) (hK : ∀ z : ByteArray, z.toList = bs → K (.string z) w) : RunF Try.prog (convert T_s_uint8 T_string (.slice a l c)) w K :=
  convert_bytes (e := T_uint8) (by kernel_rfl) (by kernel_rfl) (by kernel_rfl) s.rd s.ln (sl_some' s) hK
theorem toKp {w w' : World} {ow' : Nat → Nat} (f : Fro (Td 0) w (fun _ => 10) w' ow') : Kp no w w' := f.kp.mono fun j _ hj => (hj ⟨by omega, by omega, by omega⟩).elim
set_option maxRecDepth 100000 in
set_option maxHeartbeats 2000000 in
theorem first_c {w : World} {R : Ending → World → Prop} (hK : ∀ w', Kp no w w' → R (.returned (.bool true)) w') : GoC Try.prog F_law08_first #[] w R := by
  refine S_law08_first ?_
  unfold W_law08_first
  refine new_c (ow := fun _ => 10) (n := 9) (by omega) (by omega) 0 fun b w1 ow1 h1 k1 ag1 hb1 => ⟨_, _, rfl, cond_f rfl (cond_f rfl ?_)⟩
  have F1 : Fro (Td 0) w (fun _ => 10) w1 ow1 := Fro.new k1 ag1
  refine page_c (f := 97) (by omega) fun b2 w2 s2 k2 _ => ⟨_, _, _, rfl, ?_⟩
  refine twrite_nil fun e3 w3 k3 he3 _ => ⟨_, rfl, ltold_c (z := zW) he3 ⟨_, rfl, cond_f (by decide) ?_⟩⟩
  have k13 := k2.trans0 k3
  refine page_c (f := 97) (by omega) fun b4 w4 s4 k4 hb4 => ⟨_, _, _, rfl, ?_⟩
  have k14 := k13.trans0 k4
  have f4 : Fro (fun _ => True) w1 ow1 w4 (ext ow1 w1.heap.size 5) := Fro.of_kp0 5 k14
  have B4 := slT_bs (w := w1) (ow := ow1) (t := 0) (u := 5) s4 (by have := k13.size; omega) ⟨by omega, by omega, by omega⟩ (by omega)
  have h4 := h1.fr f4 trivial trivial trivial trivial
  have F4 := F1.trans (f4.mono fun u (_ : Td 0 u) => trivial)
  generalize ext ow1 w1.heap.size 5 = ow4 at *
  have u0 := up_new (n := 9) (by omega) (by omega)
  have e4 : writeR (Dv.new 9) 2 4 (pageB 97) = (4, Dv.new 9) := by
    unfold writeR
    rw [u0.d, if_neg (by simp), if_pos (by unfold mayP; omega)]
  refine twrite_c h4 ((sm_new 9).mono (by omega)) B4 (pageB_len _) (Nat.le_refl _) fun e5 w5 ow5 h5 f5 he5 _ => ⟨_, rfl, ?_⟩
  rw [e4] at h5 he5
  refine ltold_c (z := zW) he5 ⟨_, rfl, cond_f (by decide) ?_⟩
  refine calls_c h5 ⟨_, rfl, cond_f rfl ?_⟩
  have F5 := F4.trans f5
  refine page_c (f := 97) (by omega) fun b6 w6 s6 k6 hb6 => ⟨_, _, _, rfl, ?_⟩
  have f6 : Fro (fun _ => True) w5 ow5 w6 (ext ow5 w5.heap.size 5) := Fro.of_kp0 5 k6
  have B6 := slT_bs (w := w5) (ow := ow5) (t := 0) (u := 5) s6 hb6 ⟨by omega, by omega, by omega⟩ (by omega)
  have h6 := h5.fr f6 trivial trivial trivial trivial
  have F6 := F5.trans (f6.mono fun u (_ : Td 0 u) => trivial)
  generalize ext ow5 w5.heap.size 5 = ow6 at *
  rcases write_out (at_ := 2) (h := 5) (bs := pageB 97) u0 (by omega) (by omega) (pageB_len _) (zm_new (by omega)) with ⟨_, w0, wu, wo, wz, wp, ws, wc⟩ | ⟨hh, _⟩
  rotate_left
  · have : (Dv.new 9).step = 0 := rfl
    omega
  have hc := wc (Int.le_refl _) (by show (0 : Int) < _; omega)
  have sm7 := wu.sm (m' := 0) (writeR_sm (at_ := ((2 : Nat) : Int)) (h := ((5 : Nat) : Int)) (bs := pageB 97) (sm_new 9))
  refine twrite_c h6 ((sm_new 9).mono (by omega)) B6 (pageB_len _) (Nat.le_refl _) fun e7 w7 ow7 h7 f7 he7 _ => ⟨_, rfl, ?_⟩
  rw [show ((2 : Nat) : Int) = 2 from rfl, show ((5 : Nat) : Int) = 5 from rfl] at *
  rw [w0] at he7
  have e7 := err0 he7
  subst e7
  have rp := read_pg (h := 5) wu (by omega) wp (pageB_len _)
  have fz := fin_zero wu (at_ := 2) (by omega) wz
  rw [show ((2 : Nat) : Int) = 2 from rfl] at fz
  rw [show ((5 : Nat) : Int) = 5 from rfl] at rp
  generalize (writeR (Dv.new 9) 2 5 (pageB 97)).2 = v at *
  refine tread_c h7 (sm7.mono (by omega)) fun a8 l8 c8 e8 w8 k8 s8 f8 he8 _ => ⟨_, _, _, _, rfl, ?_⟩
  rw [rp] at s8 he8
  have e8' := err0 he8
  subst e8'
  have fr8 : Fro (fun _ => True) w7 ow7 w8 (ext ow7 w7.heap.size 5) := Fro.of_kp0 5 k8
  have S8 : SlT w8 (ext ow7 w7.heap.size 5) T_uint8 1 a8 l8 c8 (bvs (pageB 97)) 5 := ⟨s8, fun j hj => ext_new (f8 j hj)⟩
  have h8 := h7.fr fr8 trivial trivial trivial trivial
  have F8 := (F6.trans f7).trans (fr8.mono fun u (_ : Td 0 u) => trivial)
  generalize ext ow7 w7.heap.size 5 = ow8 at *
  refine tfinish_c h8 (sm7.mono (by omega)) fun e9 w9 ow9 h9 f9 he9 _ => ⟨_, _, rfl, ?_⟩
  rw [fz] at h9 he9 ⊢
  have e9' := err0 he9
  subst e9'
  have F9 := F8.trans f9
  have k9 := toKp F9
  have S9 := (S8.fr f9 ⟨by omega, by omega, by omega⟩).sl
  have kd : Kp no w9 w9.drew := Kp.drew w9 1
  refine ⟨fun w' => Kp no w9 w', kd, .inl ⟨rfl, cond_t rfl (.inl ⟨rfl, cond_t rfl (.inl ⟨rfl, cond_t rfl (cond_t rfl ⟨?_, ?_⟩)⟩)⟩)⟩⟩
  · refine conv_c (S9.kp0 kd) fun z1 hz1 => ⟨_, rfl, kd, ?_⟩
    refine page_c (f := 97) (by omega) fun b10 w10 s10 k10 hb10 => ⟨_, _, _, rfl, kd.trans0 k10, ?_⟩
    refine conv_c s10 fun z2 hz2 => ⟨_, rfl, kd.trans0 k10, cond_t (by rw [hz1, hz2]; exact beq_self_eq_true _) ?_⟩
    refine calls_c (h9.kp0 (kd.trans0 k10)) ⟨_, rfl, kd.trans0 k10, ?_⟩
    rw [hc]
    exact hK _ ((k9.trans0 kd).trans0 k10)
  · refine page_c (f := 97) (by omega) fun b10 w10 s10 k10 hb10 => ⟨_, _, _, rfl, kd.trans0 k10, ?_, ?_⟩
    · refine conv_c (S9.kp0 (kd.trans0 k10)) fun z1 hz1 => ⟨_, rfl, kd.trans0 k10, ?_⟩
      refine conv_c s10 fun z2 hz2 => ⟨_, rfl, kd.trans0 k10, cond_t (by rw [hz1, hz2]; exact beq_self_eq_true _) ?_⟩
      refine calls_c (h9.kp0 (kd.trans0 k10)) ⟨_, rfl, kd.trans0 k10, ?_⟩
      rw [hc]
      exact hK _ ((k9.trans0 kd).trans0 k10)
    · refine conv_c s10 fun z2 hz2 => ⟨_, rfl, kd.trans0 k10, ?_⟩
      refine conv_c (S9.kp0 (kd.trans0 k10)) fun z1 hz1 => ⟨_, rfl, kd.trans0 k10, cond_t (by rw [hz1, hz2]; exact beq_self_eq_true _) ?_⟩
      refine calls_c (h9.kp0 (kd.trans0 k10)) ⟨_, rfl, kd.trans0 k10, ?_⟩
      rw [hc]
      exact hK _ ((k9.trans0 kd).trans0 k10)

/-- All but one home are what they were laid as. -/
structure Rest (v : Dv) (home : Nat) : Prop where
  up : Up v 13
  a0 : v.sect 0 = List.replicate 512 0
  a1 : v.sect 1 = List.replicate 512 0
  pg : ∀ h, (h = 5 ∨ h = 7 ∨ h = 9 ∨ h = 11) → h ≠ home → Pg v h (pageB h)
set_option maxRecDepth 100000 in
set_option maxHeartbeats 2000000 in
theorem others_c {w : World} {ow : Nat → Nat} {t b home : Nat} {v : Dv} {R : Ending → World → Prop} (h : DX w ow t b v) (hs : v.Sm 1000000) (hr : Rest v home) (hK : ∀ w', Kp no w w' → R (.returned (.bool true)) w') :
    GoC Try.prog F_law08_others #[.pointer (some ⟨b, 0, none⟩), .int .i64 (home : Int)] w R := by
  refine S_law08_others ?_
  unfold W_law08_others
  refine loopN (fun st w' => ∃ j : Nat, j ≤ 4 ∧ st.1 = ((5 + 2 * j : Nat) : Int) ∧ Kp no w w') (fun st _ => 13 - st.1.toNat) ⟨0, by omega, rfl, Kp.refl _ _⟩ ?_
  rintro ⟨j0, u⟩ w1 ⟨j, hj, hj0, k1⟩ _
  dsimp only at hj0 ⊢
  subst hj0
  refine cond_d (fun hlt => ?_) (fun hge => ?_)
  · have e8 : IntKind.wrap .u8 ((5 + 2 * j : Nat) : Int) = ((5 + 2 * j : Nat) : Int) := by rw [u8_mod, Nat.mod_eq_of_lt (by omega)]
    have e9 : IntKind.wrap .i64 (((5 + 2 * j : Nat) : Int) + 2) = ((5 + 2 * (j + 1) : Nat) : Int) := by rw [wrap_i64 (by omega) (by omega)]; omega
    rw [e8, e9]
    have ro := read_out (h := 5 + 2 * j) hr.up (by omega)
    refine tread_c (h.kp0 k1) hs fun a2 l2 c2 e2 w2 k2 s2 f2 he2 _ => ⟨_, _, _, _, rfl, ?_⟩
    have e2' : e2 = .nilIface := by rw [ro] at he2; exact err0 he2
    subst e2'
    have kd : Kp no w2 w2.drew := Kp.drew w2 1
    have nx : ∀ w', Kp no w2 w' → (∃ j', j' ≤ 4 ∧ ((5 + 2 * (j + 1) : Nat) : Int) = ((5 + 2 * j' : Nat) : Int) ∧ Kp no w w') ∧ 13 - Int.toNat ((5 + 2 * (j + 1) : Nat) : Int) < 13 - Int.toNat ((5 + 2 * j : Nat) : Int) := fun w' k => ⟨⟨j + 1, by omega, rfl, (k1.trans0 k2).trans0 k⟩, by simp only [Int.toNat_natCast]; omega⟩
    refine ⟨fun w' => Kp no w2 w', kd, .inl ⟨rfl, cond_f rfl (cond_ne (fun hne => ?_) (fun he => ⟨nx _ kd, nx _ kd, nx _ kd⟩))⟩⟩
    have pg := hr.pg (5 + 2 * j) (by omega) (by omega)
    rw [ro, pg.1, pg.2, halves (pageB_len _)] at s2
    refine ⟨?_, ?_⟩
    · refine conv_c (s2.kp0 kd) fun z1 hz1 => ⟨_, rfl, kd, ?_⟩
      refine page_c (by omega) fun b10 w10 s10 k10 hb10 => ⟨_, _, _, rfl, kd.trans0 k10, ?_⟩
      exact conv_c s10 fun z2 hz2 => ⟨_, rfl, kd.trans0 k10, cond_f (by rw [hz1, hz2, beq_self_eq_true]; rfl) (nx _ (kd.trans0 k10))⟩
    · refine page_c (by omega) fun b10 w10 s10 k10 hb10 => ⟨_, _, _, rfl, kd.trans0 k10, ?_, ?_⟩
      · refine conv_c (s2.kp0 (kd.trans0 k10)) fun z1 hz1 => ⟨_, rfl, kd.trans0 k10, ?_⟩
        exact conv_c s10 fun z2 hz2 => ⟨_, rfl, kd.trans0 k10, cond_f (by rw [hz1, hz2, beq_self_eq_true]; rfl) (nx _ (kd.trans0 k10))⟩
      · refine conv_c s10 fun z2 hz2 => ⟨_, rfl, kd.trans0 k10, ?_⟩
        exact conv_c (s2.kp0 (kd.trans0 k10)) fun z1 hz1 => ⟨_, rfl, kd.trans0 k10, cond_f (by rw [hz1, hz2, beq_self_eq_true]; rfl) (nx _ (kd.trans0 k10))⟩
  · have ro := read_out (h := 0) hr.up (by omega)
    rw [show ((0 : Nat) : Int) = 0 from rfl, hr.a0, hr.a1, List.replicate_append_replicate] at ro
    refine tread_c (h.kp0 k1) hs fun a2 l2 c2 e2 w2 k2 s2 f2 he2 _ => ⟨_, _, _, _, rfl, ?_⟩
    rw [ro] at he2 s2
    have e2' := err0 he2
    subst e2'
    have kd : Kp no w2 w2.drew := Kp.drew w2 1
    have nx : ∀ w' (z1 z2 : ByteArray), Kp no w2 w' → z1.toList = List.replicate (512 + 512) 0 → z2.toList = List.replicate 1024 0 → R (.returned (.bool (ByteArray.toList z1 == ByteArray.toList z2))) w' := fun w' z1 z2 k h1 h2 => by
      rw [h1, h2, beq_self_eq_true]
      exact hK _ ((k1.trans0 k2).trans0 k)
    have nx' : ∀ w' (z1 z2 : ByteArray), Kp no w2 w' → z1.toList = List.replicate (512 + 512) 0 → z2.toList = List.replicate 1024 0 → R (.returned (.bool (ByteArray.toList z1 == ByteArray.toList z2))) w' := nx
    have mk : ∀ {w' : World} {b' : Nat} {cur : Array Value}, Blk w' b' cur T_uint8 → cur.toList = bvs (List.replicate 1024 0) → Sl w' T_uint8 1 (some ⟨b', 0, none⟩) 1024 1024 (bvs (List.replicate 1024 0)) := fun hb hc =>
      Bb.sl (ow := fun _ => 0) (u := 0) ⟨⟨_, hb, hc⟩, rfl⟩ (List.length_replicate ..)
    refine ⟨fun w' => Kp no w2 w', kd, .inl ⟨rfl, cond_t rfl ⟨?_, ?_⟩⟩⟩
    · refine conv_c (s2.kp0 kd) fun z1 hz1 => ⟨_, rfl, kd, ?_⟩
      refine make_u8 (n := 1024) (by omega) fun b3 w3 cur hb3 hcur k3 hb3e => ⟨_, _, _, rfl, kd.trans0 k3, ?_⟩
      exact conv_c (mk hb3 hcur) fun z2 hz2 => ⟨_, rfl, kd.trans0 k3, nx _ _ _ (kd.trans0 k3) hz1 hz2⟩
    · refine make_u8 (n := 1024) (by omega) fun b3 w3 cur hb3 hcur k3 hb3e => ⟨_, _, _, rfl, kd.trans0 k3, ?_, ?_⟩
      · refine conv_c (s2.kp0 (kd.trans0 k3)) fun z1 hz1 => ⟨_, rfl, kd.trans0 k3, ?_⟩
        exact conv_c (mk hb3 hcur) fun z2 hz2 => ⟨_, rfl, kd.trans0 k3, nx _ _ _ (kd.trans0 k3) hz1 hz2⟩
      · refine conv_c (mk hb3 hcur) fun z2 hz2 => ⟨_, rfl, kd.trans0 k3, ?_⟩
        exact conv_c (s2.kp0 (kd.trans0 k3)) fun z1 hz1 => ⟨_, rfl, kd.trans0 k3, nx _ _ _ (kd.trans0 k3) hz1 hz2⟩
end Go.Proofs.Ytalkkhocljehfaa

/- Layer 8's falls, as they are handed in. Conditions: none. -/
set_option linter.unusedVariables false
set_option linter.unusedSimpArgs false
namespace Go.Proofs.Ytalkkhocljehfaa
open Go Go.RowKit Go.ChangeShapes Go.WideShapes

/-- A fall. -/
structure FallA where
  n : Int
  la : Option Addr
  lc : Nat
  keep : List Nat
  torn : Int
  off : Int
def FallA.cs (o : FallA) : List Value := [.int .i64 o.n, .slice o.la o.keep.length o.lc, .int .i64 o.torn, .int .i64 o.off]
theorem FallA.cs_len (o : FallA) : o.cs.length = 4 := rfl
def fFA : List FallA → List Value := flatV FallA.cs
instance : Inhabited FallA := ⟨⟨0, none, 0, [], 0, 0⟩⟩
def FallA.Ok (W : World) (o : FallA) : Prop := LossOk W o.la o.keep.length o.keep o.torn o.off
/-- Its step. -/
def FallA.st (o : FallA) : Int := o.n % 12
theorem fall_open' {W : World} {cs : List Value} (h : ClW Try.prog W T_quotalaw08_Fall cs) : ∃ x : FallA, cs = x.cs ∧ x.Ok W := by
  have hl := h.cl.slen (s := 4) (by kernel_rfl)
  have f0 := h.cl.field 0 (e := T_int) (o := 0) (s := 1) (by kernel_rfl)
  have f1 := h.field 1 (e := T_api_Loss) (o := 1) (s := 3) (by kernel_rfl)
  match cs, hl with
  | [x0, x1, x2, x3], _ =>
    simp only [List.drop_zero, List.drop_succ_cons, List.take_succ_cons, List.take_zero] at f0 f1
    obtain ⟨k, h0, w0⟩ := f0.int (k := .i64) (by kernel_rfl)
    obtain ⟨a, l, c, keep, torn, off, h5, hL⟩ := loss_open' f1
    cases h0; cases h5
    have hn := hL.n
    subst hn
    exact ⟨⟨k, a, c, keep, torn, off⟩, rfl, hL⟩
theorem fall_open {W : World} {v : Value} (h : ArgW Try.prog W T_quotalaw08_Fall v) : ∃ x : FallA, v = .agg #[.int .i64 x.n, .slice x.la x.keep.length x.lc, .int .i64 x.torn, .int .i64 x.off] ∧ x.Ok W := by
  obtain ⟨cells, rfl, _⟩ := h.arg.struct (s := 4) (by kernel_rfl)
  have hw := h.clw
  obtain ⟨x, he, hp⟩ := fall_open' (cs := cells.toList) hw
  refine ⟨x, ?_, hp⟩
  congr 1
  cases cells
  exact congrArg List.toArray he
structure FallsOk (W : World) (a : Option Addr) (l c : Nat) (L : List FallA) : Prop where
  n : L.length = l
  rd : Rd W a (fFA L)
  ok : ∀ x ∈ L, x.Ok W
theorem rd_flatF {W : World} {a : Option Addr} {L : List FallA} (h : ∀ (i : Nat) (hi : i < L.length) (q : Nat) (v : Value), (L[i]).cs[q]? = some v → ∃ b o, a = some ⟨b, o, none⟩ ∧ W.cell? ⟨b, o + i * 4 + q, none⟩ = some v) : Rd W a (fFA L) := by
  intro j v hv
  have hj : j < L.length * 4 := by have := (List.getElem?_eq_some_iff.1 hv).1; rwa [fFA, flatV_len FallA.cs_len] at this
  have hq : j % 4 < 4 := Nat.mod_lt _ (by omega)
  have hi : j / 4 < L.length := by omega
  have e : j / 4 * 4 + j % 4 = j := by omega
  have hg := flatV_get FallA.cs_len L (j / 4) hi (j % 4) hq
  rw [e] at hg
  unfold fFA at hv
  rw [hv] at hg
  obtain ⟨b, o, ha, hc⟩ := h (j / 4) hi (j % 4) v hg.symm
  refine ⟨b, o, ha, ?_⟩
  rwa [Nat.add_assoc, e] at hc
theorem falls_open {W : World} {v : Value} (h : ArgW Try.prog W T_s_quotalaw08_Fall v) : ∃ a l c L, v = .slice a l c ∧ FallsOk W a l c L := by
  obtain ⟨a, l, c, rfl, hc⟩ := h.arg.slice (e := T_quotalaw08_Fall) (by kernel_rfl)
  have hw : ClW Try.prog W T_s_quotalaw08_Fall [.slice a l c] := h.clw
  obtain ⟨css, h1, h2⟩ := hw.cells (e := T_quotalaw08_Fall) (s := 4) (by kernel_rfl) (by kernel_rfl) (by omega)
  have each : ∀ i, i < l → ∃ x : FallA, css i = x.cs ∧ x.Ok W := fun i hi => fall_open' (h1 i hi)
  obtain ⟨f, hf⟩ := Deep.choose_lt (α := FallA) (p := fun i x => css i = x.cs ∧ x.Ok W) each
  refine ⟨a, l, c, (List.range l).map f, rfl, by simp, rd_flatF fun i hi q v hv => ?_, fun x hx => ?_⟩
  · have hil : i < l := by simpa using hi
    have e : ((List.range l).map f)[i] = f i := by simp
    rw [e] at hv
    exact h2 i hil q v (by rw [(hf i hil).1]; exact hv)
  · simp only [List.mem_map, List.mem_range] at hx
    obtain ⟨i, hi, rfl⟩ := hx
    exact (hf i hi).2
/-- A fall's cells, in a list of falls. -/
theorem fallI {w : World} {a : Option Addr} {L : List FallA} (h : Rd w a (fFA L)) {i : Nat} (hi : i < L.length) : ∃ b o, a = some ⟨b, o, none⟩ ∧ ∀ q, q < 4 → ∀ v, (L[i]).cs[q]? = some v → w.cell? ⟨b, o + i * 4 + q, none⟩ = some v := by
  have hg := fun q hq => flatV_get FallA.cs_len L i hi q hq
  obtain ⟨b, o, ha, hc⟩ := h (i * 4) (.int .i64 (L[i]).n) (by unfold fFA; exact hg 0 (by omega))
  refine ⟨b, o, ha, fun q hq v hv => ?_⟩
  obtain ⟨b', o', ha', hc'⟩ := h (i * 4 + q) v (by unfold fFA; rw [hg q hq]; exact hv)
  rw [ha] at ha'
  cases ha'
  rw [Nat.add_assoc]
  exact hc'
theorem fallCells {w : World} {b o i : Nat} {y : FallA} (fc : ∀ q, q < 4 → ∀ v, y.cs[q]? = some v → w.cell? ⟨b, o + i * 4 + q, none⟩ = some v) :
    w.cell? (Addr.add ⟨b, o, none⟩ (Int.toNat (i : Int) * 4)) = some (.int .i64 y.n) ∧ w.cell? (Addr.add (Addr.add ⟨b, o, none⟩ (Int.toNat (i : Int) * 4)) 1) = some (.slice y.la y.keep.length y.lc) ∧
    w.cell? (Addr.add (Addr.add ⟨b, o, none⟩ (Int.toNat (i : Int) * 4)) 2) = some (.int .i64 y.torn) ∧ w.cell? (Addr.add (Addr.add ⟨b, o, none⟩ (Int.toNat (i : Int) * 4)) 3) = some (.int .i64 y.off) ∧ True := by
  rw [Int.toNat_natCast, add_at]
  exact ⟨fc 0 (by omega) _ rfl, fc 1 (by omega) _ rfl, fc 2 (by omega) _ rfl, fc 3 (by omega) _ rfl, trivial⟩
theorem fallCellsL {w : World} {b o i : Nat} {y : FallA} (fc : ∀ q, q < 4 → ∀ v, y.cs[q]? = some v → w.cell? ⟨b, o + i * 4 + q, none⟩ = some v) :
    w.cell? (Addr.add (Addr.add ⟨b, o, none⟩ (Int.toNat (i : Int) * 4)) 1) = some (.slice y.la y.keep.length y.lc) ∧
    w.cell? (Addr.add (Addr.add (Addr.add ⟨b, o, none⟩ (Int.toNat (i : Int) * 4)) 1) 1) = some (.int .i64 y.torn) ∧ w.cell? (Addr.add (Addr.add (Addr.add ⟨b, o, none⟩ (Int.toNat (i : Int) * 4)) 1) 2) = some (.int .i64 y.off) ∧ True := by
  rw [Int.toNat_natCast, add_at]
  exact ⟨fc 1 (by omega) _ rfl, fc 2 (by omega) _ rfl, fc 3 (by omega) _ rfl, trivial⟩
/-- A loss that was handed in. -/
theorem FallA.Ok.ls {W w : World} {ow : Nat → Nat} {x : FallA} (h : x.Ok W) (o : Old W w ow) : Ls w ow 100 x.la x.keep :=
  ⟨(o.rdT h.rd).mono fun u hu => ⟨by omega, by omega, by omega⟩, h.lt, by have := h.ln; omega, h.nn⟩
theorem FallA.Ok.k {W : World} {x : FallA} (h : x.Ok W) : x.keep.length * 8 ≤ 140737488355328 := by have := h.ln; omega
theorem FallA.st_bd (x : FallA) : 0 ≤ x.st ∧ x.st ≤ 11 := by unfold FallA.st; omega
/-- Armed. -/
def Dv.armed (v : Dv) (x : FallA) : Dv := { v with step := x.st, keep := x.keep, torn := x.torn, off := x.off }
theorem Up.arm {v : Dv} {n : Nat} (h : Up v n) (x : FallA) : v.arm x.st x.keep x.torn x.off = (0, v.armed x) := by
  have := x.st_bd
  unfold Dv.arm
  rw [if_neg (by rw [h.d]; simp), if_neg (by omega)]
  rfl
theorem Up.armed {W : World} {v : Dv} {n : Nat} {x : FallA} (h : Up v n) (hx : x.Ok W) : Up (v.armed x) n := by
  have := x.st_bd
  have ho := h.ok.arm (step := x.st) (keep := x.keep) x.torn x.off (by omega) hx.lt
  rw [h.arm x] at ho
  exact ⟨ho, h.d, h.q, h.vn⟩
theorem Up.armed_sm {W : World} {v : Dv} {n m : Nat} {x : FallA} (h : Up v n) (hx : x.Ok W) : (v.armed x).Sm m := ⟨by show v.q.length ≤ m; rw [h.q]; simp, hx.k⟩
end Go.Proofs.Ytalkkhocljehfaa

/- TwinOwn: what is held beside the disk; a round. Conditions: none. -/
set_option linter.unusedVariables false
set_option linter.unusedSimpArgs false
namespace Go.Proofs.Ytalkkhocljehfaa
open Go Go.RowKit Go.ChangeShapes Go.WideShapes

/-- Bytes, handed in. -/
structure BytesOk (W : World) (a : Option Addr) (l : Nat) (bs : List UInt8) : Prop where
  n : bs.length = l
  rd : Rd W a (bvs bs)
  ln : l ≤ 140737488351232
  nn : a = none → l = 0
theorem bytes_open' {W : World} {cs : List Value} (h : ClW Try.prog W T_s_uint8 cs) : ∃ a l c bs, cs = [.slice a l c] ∧ BytesOk W a l bs := by
  obtain ⟨a, l, c, h0⟩ := h.cl.slc (e := T_uint8) (by kernel_rfl)
  cases h0
  have hln := h.len (e := T_uint8) (by kernel_rfl)
  have b1 : Try.prog.bytesOf T_uint8 = 1 := by kernel_rfl
  have hreach : reachBytes = 140737488351232 := by decide
  rw [b1, hreach] at hln
  obtain ⟨hl, hm, hz, css, g1, g2⟩ := h.cl.cells (e := T_uint8) (s := 1) (by kernel_rfl) (by kernel_rfl) (by omega)
  have each : ∀ i, i < l → ∃ x : UInt8, css i = [bv x] := fun i hi => by
    obtain ⟨n, hn, wn⟩ := (g1 i hi).2.int (k := .u8) (by kernel_rfl)
    obtain ⟨m, rfl⟩ := u8_wf wn
    exact ⟨m, hn⟩
  obtain ⟨f, hf⟩ := Deep.choose_lt (α := UInt8) (p := fun i x => css i = [bv x]) each
  refine ⟨a, l, c, (List.range l).map f, rfl, by simp, fun i v hv => ?_, by omega, fun h0 => ?_⟩
  · unfold bvs at hv
    have hil : i < l := by have := (List.getElem?_eq_some_iff.1 hv).1; simpa using this
    have hv' : v = bv (f i) := by
      rw [List.getElem?_map, List.getElem?_map, List.getElem?_range hil] at hv
      simpa using hv.symm
    subst hv'
    obtain ⟨b, o, ha, hc⟩ := g2 i hil 0 (bv (f i)) (by rw [hf i hil]; rfl)
    exact ⟨b, o, ha, by simpa using hc⟩
  · by_cases hl0 : l = 0
    · exact hl0
    · obtain ⟨b, o, ha, _⟩ := g2 0 (by omega) 0 (bv (f 0)) (by rw [hf 0 (by omega)]; rfl)
      rw [h0] at ha
      cases ha

theorem er_ss : ElemRow Try.prog T_s_s_uint8 T_s_uint8 (.slice none 0 0) 1 24 := elemRow (by kernel_rfl) (by kernel_rfl) rfl
theorem er_str : ElemRow Try.prog T_s_string T_string (.string .empty) 1 16 := elemRow (by kernel_rfl) (by kernel_rfl) rfl
/-- The disk; the page that is handed in; what was read, and what it was. -/
structure OwS (W w : World) (ow : Nat → Nat) (b : Nat) (v : Dv) (P : Nat → List UInt8) (pb : Nat) (X : List UInt8) (ga : Option Addr) (gc : Nat) (G : List SI) (C : Nat → List UInt8) (wa : Option Addr) (wc : Nat) (ws : List ByteArray) (m1 m2 : Nat) : Prop where
  d : DX w ow 50 b v
  sm : v.Sm 0
  st : v.step = 0
  so : Sto v P
  o : Old W w ow
  pl : SlT w ow T_uint8 1 (some ⟨pb, 0, none⟩) 1024 1024 (bvs X) 5
  xl : X.length = 1024
  g : SlT w ow T_s_uint8 1 ga G.length gc (G.map siV) 3
  ge : Fam w ow T_uint8 1 100 G (fun j => bvs (C j))
  s : SlT w ow T_string 1 wa ws.length wc (ws.map Value.string) 4
  gl : G.length = m1
  wl : ws.length = m2
  n : ∀ j (h : j < G.length), (G[j]).l = 1024
  cs : ∀ j (h : j < ws.length), (ws[j]).toList = C j
section
variable {T : Nat → Prop} {W w w' : World} {ow ow' : Nat → Nat} {b pb gc wc m1 m2 : Nat} {v : Dv} {P : Nat → List UInt8} {X : List UInt8} {ga wa : Option Addr} {G : List SI} {C : Nat → List UInt8} {ws : List ByteArray}
theorem OwS.fr (h : OwS W w ow b v P pb X ga gc G C wa wc ws m1 m2) (f : Fro T w ow w' ow') (hT : ∀ u, u ≠ 7 → u ≠ 1 → T u) : OwS W w' ow' b v P pb X ga gc G C wa wc ws m1 m2 :=
  ⟨h.d.fr f (hT _ (by omega) (by omega)) (hT _ (by omega) (by omega)) (hT _ (by omega) (by omega)) (hT _ (by omega) (by omega)), h.sm, h.st, h.so, h.o.fr f (hT _ (by omega) (by omega)), h.pl.fr f (hT _ (by omega) (by omega)), h.xl,
    h.g.fr f (hT _ (by omega) (by omega)), h.ge.fr f (fun j _ => hT _ (by omega) (by omega)), h.s.fr f (hT _ (by omega) (by omega)), h.gl, h.wl, h.n, h.cs⟩
theorem OwS.kp (h : OwS W w ow b v P pb X ga gc G C wa wc ws m1 m2) (k : Kp no w w') : OwS W w' ow b v P pb X ga gc G C wa wc ws m1 m2 := h.fr (Fro.kp0 k) fun _ _ _ => trivial
/-- A byte of the page that is handed in. -/
theorem OwS.put (h : OwS W w ow b v P pb X ga gc G C wa wc ws m1 m2) {k : Nat} (hk : k < 1024) {x : UInt8} {K : World → Prop} (hK : ∀ w', OwS W w' ow b v P pb (X.set k x) ga gc G C wa wc ws m1 m2 → Fro (fun u => u ≠ 5) w ow w' ow → K w') :
    StF w (Addr.add ⟨pb, 0, none⟩ (Int.toNat (k : Int))) (bv x) K := by
  refine slt_put h.pl rfl hk (by rw [Int.toNat_natCast, add_at]) fun w' h' f => hK w' ⟨h.d.fr f (by omega) (by omega) (by omega) (by omega), h.sm, h.st, h.so, h.o.fr f (by omega), by rw [← bvs_set]; exact h', by rw [List.length_set]; exact h.xl, h.g.fr f (by omega), h.ge.fr f (fun j _ => by omega), h.s.fr f (by omega), h.gl, h.wl, h.n, h.cs⟩ f
/-- Two slices more on the list of what was read. -/
theorem OwS.two (h : OwS W w ow b v P pb X ga gc G C wa wc ws m1 m2) (h12 : m2 ≤ m1) (hm : m1 ≤ 1000) {a4 a5 : Option Addr} {c4 c5 : Nat} {bs : List UInt8} (x4 : SlT w ow T_uint8 1 a4 1024 c4 (bvs bs) (100 + m1)) (x5 : SlT w ow T_uint8 1 a5 1024 c5 (bvs bs) (100 + (m1 + 1))) {K : Value → World → Prop}
    (hK : ∀ ga' gc' w' ow', OwS W w' ow' b v P pb X ga' gc' ((G ++ [⟨a4, 1024, c4⟩]) ++ [⟨a5, 1024, c5⟩]) (fun j => if m1 ≤ j then bs else C j) wa wc ws (m1 + 2) m2 → Fro (fun u => u ≠ 3) w ow w' ow' → K (.slice ga' (m1 + 2) gc') w') :
    AlF w (.cells #[.slice a4 1024 c4, .slice a5 1024 c5] T_s_uint8) fun b1 w1 => RunF Try.prog (Builtin.append_ #[T_s_s_uint8, T_s_s_uint8] T_s_s_uint8 #[.slice ga m1 gc, .slice (some ⟨b1, 0, none⟩) 2 2]) w1 K := by
  have hgl := h.gl
  have hwl := h.wl
  subst hgl hwl
  refine AlF.intro fun b1 w1 hb1e hb1 k1 _ => ?_
  have f1 : Fro (fun _ => True) w ow w1 (ext ow w.heap.size 1) := Fro.of_kp0 1 k1
  have h1 := h.fr f1 fun _ _ _ => trivial
  have y4 := x4.fr f1 trivial
  have y5 := x5.fr f1 trivial
  generalize ext ow w.heap.size 1 = ow1 at *
  refine app_c er_ss h1.g (rd_cells (xs := [.slice a4 1024 c4, .slice a5 1024 c5]) hb1 rfl) rfl (fun h => by cases h) (fun u hu => by
    simp only [List.mem_cons, List.not_mem_nil, or_false] at hu
    rcases hu with rfl | rfl <;> rfl) (by omega) (by omega) fun a' c' w2 g2 k2 f2 => ?_
  refine hK a' c' w2 _ ⟨h1.d.fr f2 (by omega) (by omega) (by omega) (by omega), h1.sm, h1.st, h1.so, h1.o.fr f2 (by omega), h1.pl.fr f2 (by omega), h1.xl, ?_, ?_, h1.s.fr f2 (by omega), by simp, rfl, fun j hj => ?_, fun j hj => ?_⟩ ((f1.mono fun _ _ => trivial).trans f2)
  · have e : ((G ++ [(⟨a4, 1024, c4⟩ : SI)]) ++ [(⟨a5, 1024, c5⟩ : SI)]).map siV = G.map siV ++ [.slice a4 1024 c4, .slice a5 1024 c5] := by simp [siV]
    have e2 : ((G ++ [(⟨a4, 1024, c4⟩ : SI)]) ++ [(⟨a5, 1024, c5⟩ : SI)]).length = G.length + 2 := by simp
    rw [e, e2]
    exact g2
  · have g1 := (h1.ge.fr f2 (fun j _ => by omega)).snoc (x := ⟨a4, 1024, c4⟩) (xs := bvs bs) ((y4.fr f2 (by omega)).q)
    have g3 := g1.snoc (x := ⟨a5, 1024, c5⟩) (xs := bvs bs) (by rw [List.length_append]; exact (y5.fr f2 (by omega)).q)
    refine g3.congr fun j hj => ?_
    simp only [List.length_append, List.length_cons, List.length_nil] at hj ⊢
    by_cases e1 : j = G.length + (0 + 1)
    · rw [if_pos e1, if_pos (by omega)]
    · rw [if_neg e1]
      by_cases e2 : j = G.length
      · rw [if_pos e2, if_pos (by omega)]
      · rw [if_neg e2, if_neg (by omega)]
  · simp only [List.length_append, List.length_cons, List.length_nil] at hj
    by_cases e1 : j < G.length
    · rw [List.getElem_append_left (by simp; omega), List.getElem_append_left e1]
      exact h.n j e1
    · by_cases e2 : j = G.length
      · subst e2
        rw [List.getElem_append_left (by simp), List.getElem_append_right (Nat.le_refl _)]
        simp
      · have e3 : j = G.length + 1 := by omega
        subst e3
        rw [List.getElem_append_right (by simp)]
        simp
  · rw [if_neg (by omega)]
    exact h.cs j hj
/-- Two strings more. -/
theorem OwS.strs (h : OwS W w ow b v P pb X ga gc G C wa wc ws m1 m2) (hm : m2 ≤ 1000) {z1 z2 : ByteArray} (h1 : z1.toList = C m2) (h2 : z2.toList = C (m2 + 1)) {K : Value → World → Prop}
    (hK : ∀ wa' wc' w' ow', OwS W w' ow' b v P pb X ga gc G C wa' wc' ((ws ++ [z1]) ++ [z2]) m1 (m2 + 2) → Fro (fun u => u ≠ 4) w ow w' ow' → K (.slice wa' (m2 + 2) wc') w') :
    AlF w (.cells #[.string z1, .string z2] T_string) fun b1 w1 => RunF Try.prog (Builtin.append_ #[T_s_string, T_s_string] T_s_string #[.slice wa m2 wc, .slice (some ⟨b1, 0, none⟩) 2 2]) w1 K := by
  have hwl := h.wl
  subst hwl
  refine AlF.intro fun b1 w1 hb1e hb1 k1 _ => ?_
  have f1 : Fro (fun _ => True) w ow w1 (ext ow w.heap.size 1) := Fro.of_kp0 1 k1
  have g1 := h.fr f1 fun _ _ _ => trivial
  generalize ext ow w.heap.size 1 = ow1 at *
  refine app_c er_str g1.s (rd_cells (xs := [.string z1, .string z2]) hb1 rfl) rfl (fun h => by cases h) (fun u hu => by
    simp only [List.mem_cons, List.not_mem_nil, or_false] at hu
    rcases hu with rfl | rfl <;> rfl) (by omega) (by omega) fun a' c' w2 g2 k2 f2 => ?_
  refine hK a' c' w2 _ ⟨g1.d.fr f2 (by omega) (by omega) (by omega) (by omega), h.sm, h.st, h.so, g1.o.fr f2 (by omega), g1.pl.fr f2 (by omega), h.xl, g1.g.fr f2 (by omega), g1.ge.fr f2 (fun j _ => by omega), ?_, h.gl, by simp, h.n, fun j hj => ?_⟩ ((f1.mono fun _ _ => trivial).trans f2)
  · have e : ((ws ++ [z1]) ++ [z2]).map Value.string = ws.map Value.string ++ [.string z1, .string z2] := by simp
    have e2 : ((ws ++ [z1]) ++ [z2]).length = ws.length + 2 := by simp
    rw [e, e2]
    exact g2
  · simp only [List.length_append, List.length_cons, List.length_nil] at hj
    by_cases e1 : j < ws.length
    · rw [List.getElem_append_left (by simp; omega), List.getElem_append_left e1]
      exact h.cs j e1
    · by_cases e2 : j = ws.length
      · subst e2
        rw [List.getElem_append_left (by simp), List.getElem_append_right (Nat.le_refl _)]
        simpa using h1
      · have e3 : j = ws.length + 1 := by omega
        subst e3
        rw [List.getElem_append_right (by simp)]
        simpa using h2
end
theorem homeN_ne {k i : Nat} (h1 : k < i) (h2 : i + 1 ≤ k + 4) : homeN (k : Int) ≠ homeN (i : Int) := by
  unfold homeN
  omega
theorem homeN_lt (n : Int) : homeN n ≤ 11 := by unfold homeN; omega
end Go.Proofs.Ytalkkhocljehfaa

/- TwinOwn: pages that are read are new memory; a page that was handed in is not kept. Conditions: none. -/
set_option linter.unusedVariables false
set_option linter.unusedSimpArgs false
namespace Go.Proofs.Ytalkkhocljehfaa
open Go Go.RowKit Go.ChangeShapes Go.WideShapes

/-- The pages that were written last are those that were read. -/
def Lp (P : Nat → List UInt8) (C : Nat → List UInt8) (i : Nat) : Prop := ∀ k : Nat, k < i → i ≤ k + 4 → P (homeN k) = C (2 * k)
theorem convQ {w : World} {ow : Nat → Nat} {a : Option Addr} {l c t : Nat} {bs : List UInt8} {K : Value → World → Prop} (s : SlQ w ow T_uint8 1 a l c (bvs bs) t) {w' : World} (k : Kp no w w') (hK : ∀ z : ByteArray, z.toList = bs → K (.string z) w') : RunF Try.prog (convert T_s_uint8 T_string (.slice a l c)) w' K :=
  convert_bytes (e := T_uint8) (by kernel_rfl) (by kernel_rfl) (by kernel_rfl) (s.rd.kp0 k) (by have := s.len1; rw [bvs_len] at this; omega) s.some hK
/-- A string of a list. -/
theorem zIS {S : World → Prop} {w0 : World} (h0 : S w0) {ga : Option Addr} {ws : List ByteArray} (h : ∀ w, S w → Rd w ga (ws.map Value.string)) {k : Nat} (hk : k < ws.length) {n : Int} (hn : n = (k : Int)) {l : Nat} (hl : ws.length = l) {K : ByteArray → Prop} (hK : K ws[k]) :
    IdxF ga n l fun d => ∃ z : ByteArray, (∀ w, S w → w.cell? (d.add (Int.toNat n)) = some (.string z)) ∧ K z := by
  subst hn
  have hv : (ws.map Value.string)[k]? = some (.string ws[k]) := by simp [hk]
  obtain ⟨b, o, ha, hc⟩ := h w0 h0 k _ hv
  refine ⟨by omega, by omega, _, ha, _, fun w hw => ?_, hK⟩
  obtain ⟨b', o', ha', hc'⟩ := h w hw k _ hv
  rw [ha] at ha'
  cases ha'
  rw [Int.toNat_natCast, add_at]
  exact hc'
def mV (k : Nat) : Value := .int .u8 (IntKind.wrap .u8 (k : Int))

set_option maxRecDepth 100000 in
set_option maxHeartbeats 16000000 in
theorem own_c {W : World} {fa : Option Addr} {fl fc : Nat} {B : List UInt8} (hr : Rd W fa (bvs B)) (hl : B.length = fl) {R : Ending → World → Prop} (hK : ∀ w', Kp no W w' → R (.returned (.bool true)) w') :
    GoC Try.prog F_law08_TwinOwn #[.slice fa fl fc] W R := by
  refine S_law08_TwinOwn ?_
  unfold W_law08_TwinOwn
  have o0 : Old W W fun _ => 0 := ⟨Kp.refl _ _, fun _ _ => rfl⟩
  refine first_c fun w1 k1 => ⟨_, rfl, cond_f rfl ?_⟩
  have O1 := o0.fr (Fro.kp0 (ow := fun _ => 0) k1) trivial
  refine store_c (ow := fun _ => 0) (t := 50) fun b w2 ow2 v h2 sm2 so2 st2 F2 _ => ⟨_, _, rfl, cond_f rfl ?_⟩
  have O2 := O1.fr F2 ⟨by omega, by omega, by omega⟩
  refine make_u8 (n := 1024) (by omega) fun pb w3 cur hb3 hcur k3 hb3e => ⟨_, _, _, rfl, ?_⟩
  have f3 : Fro (fun _ => True) w2 ow2 w3 (ext ow2 w2.heap.size 5) := Fro.of_kp0 5 k3
  have P3 : SlT w3 (ext ow2 w2.heap.size 5) T_uint8 1 (some ⟨pb, 0, none⟩) 1024 1024 (bvs (List.replicate 1024 0)) 5 :=
    ⟨Bb.sl (ow := fun _ => 0) (u := 0) ⟨⟨_, hb3, hcur⟩, rfl⟩ (List.length_replicate ..), fun j hj => by obtain ⟨ad, ha, hb⟩ := hj; cases ha; subst hb; exact ext_new (Nat.le_of_eq hb3e.symm)⟩
  have S3 : OwS W w3 (ext ow2 w2.heap.size 5) b v pageB pb (List.replicate 1024 0) none 0 [] (fun _ => []) none 0 [] 0 0 :=
    ⟨h2.fr f3 trivial trivial trivial trivial, sm2, st2, so2, O2.fr f3 trivial, P3, List.length_replicate .., slt_nil _ _ _ _ _, Fam.nil, slt_nil _ _ _ _ _, rfl, rfl, fun j hj => absurd hj (by simp), fun j hj => absurd hj (by simp)⟩
  generalize ext ow2 w2.heap.size 5 = ow3 at *
  generalize List.replicate 1024 (0 : UInt8) = X0 at *
  have kw : ∀ k : Nat, k ≤ 100000 → IntKind.wrap .i64 ((k : Int) + 1) = ((k + 1 : Nat) : Int) := fun k hk => by rw [wrap_i64 (by omega) (by omega)]; omega
  refine ⟨fun s w' => ∃ (i : Nat) (ow' : Nat → Nat) (v' : Dv) (P : Nat → List UInt8) (X : List UInt8) (ga : Option Addr) (gc : Nat) (G : List SI) (C : Nat → List UInt8) (wa : Option Addr) (wc : Nat) (ws : List ByteArray), i ≤ 20 ∧ s = ((ga, 2 * i, gc), (wa, 2 * i, wc), ()) ∧ OwS W w' ow' b v' P pb X ga gc G C wa wc ws (2 * i) (2 * i) ∧ Lp P C i ∧ ∀ h, (h = 5 ∨ h = 7 ∨ h = 9 ∨ h = 11) → (P h).length = 1024, ?_, ?_⟩
  · refine loopN (fun st w' => ∃ i : Nat, i ≤ 20 ∧ ∃ (ow' : Nat → Nat) (v' : Dv) (P : Nat → List UInt8) (X : List UInt8) (ga : Option Addr) (gc : Nat) (G : List SI) (C : Nat → List UInt8) (wa : Option Addr) (wc : Nat) (ws : List ByteArray), st = ((ga, 2 * i, gc), (wa, 2 * i, wc), (i : Int), ()) ∧ OwS W w' ow' b v' P pb X ga gc G C wa wc ws (2 * i) (2 * i) ∧ Lp P C i ∧ ∀ h, (h = 5 ∨ h = 7 ∨ h = 9 ∨ h = 11) → (P h).length = 1024) (fun st _ => 100 - st.2.2.1.toNat)
      ⟨0, by omega, ow3, v, pageB, X0, none, 0, [], _, none, 0, [], rfl, S3, fun k hk => by omega, fun h _ => pageB_len h⟩ ?_
    clear S3 h2 sm2 so2 st2 F2
    rintro s w4 ⟨i, hi20, ow4, v, P, X, ga, gc, G, C, wa, wc, ws, rfl, S4, L4, pl4⟩ _
    dsimp only
    refine cond_d (fun hlt => ?_) (fun _ => ⟨i, ow4, v, P, X, ga, gc, G, C, wa, wc, ws, hi20, rfl, S4, L4, pl4⟩)
    refine cond_d (fun h20 => ?_) (fun _ => ⟨i, ow4, v, P, X, ga, gc, G, C, wa, wc, ws, hi20, rfl, S4, L4, pl4⟩)
    have hiB : i < B.length := by omega
    rw [kw i (by omega)]
    refine (hr.kp0 S4.o.kp).idx (by omega) hlt (by rw [bvs_len]; omega) fun ba bo hg hc => ?_
    refine ⟨((B[i]).toNat : Int), by rw [Int.toNat_natCast, add_at]; exact hc i _ (bvs_get hiB), ?_⟩
    refine page_c (u8_lt _) fun b3 w5 s5 k5 hb5 => ⟨_, _, _, rfl, ?_⟩
    have nl := pageB_len (B[i]).toNat
    generalize pageB (B[i]).toNat = new at *
    have f5 : Fro (fun _ => True) w4 ow4 w5 (ext ow4 w4.heap.size 7) := Fro.of_kp0 7 k5
    have N5 : SlT w5 (ext ow4 w4.heap.size 7) T_uint8 1 (some ⟨b3, 0, none⟩) 1024 1024 (bvs new) 7 := ⟨s5, fun j hj => by obtain ⟨ad, ha, hb⟩ := hj; cases ha; subst hb; exact ext_new hb5⟩
    have S5 := S4.fr f5 fun _ _ _ => trivial
    generalize ext ow4 w4.heap.size 7 = ow5 at *
    -- it is copied to the place
    refine loopN (fun st w' => ∃ k : Nat, k ≤ 1024 ∧ st.1 = (k : Int) ∧ OwS W w' ow5 b v P pb (new.take k ++ X.drop k) ga gc G C wa wc ws (2 * i) (2 * i) ∧ SlT w' ow5 T_uint8 1 (some ⟨b3, 0, none⟩) 1024 1024 (bvs new) 7) (fun st _ => 1024 - st.1.toNat)
      ⟨0, by omega, rfl, by rw [List.take_zero, List.drop_zero, List.nil_append]; exact S5, N5⟩ ?_
    rintro ⟨k0, u⟩ w6 ⟨k, hk, hk0, S6, N6⟩ _
    dsimp only at hk0 ⊢
    subst hk0
    refine cond_d (fun hlt2 => ?_) (fun hge2 => ?_)
    · rw [kw k (by omega)]
      refine rdI N6.sl.rd (bvs_get (i := k) (by omega)) rfl (by omega) fun b' o' ha hc => ⟨_, hc, by omega, by omega, _, rfl, ?_⟩
      refine S6.put (k := k) (x := new[k]'(by omega)) (by omega) fun w7 S7 f7 => ?_
      rw [half_set (by omega) (by rw [nl, S4.xl]) rfl] at S7
      exact ⟨⟨k + 1, by omega, rfl, S7, N6.fr f7 (by omega)⟩, by simp only [Int.toNat_natCast]; omega⟩
    have hke : k = 1024 := by omega
    subst hke
    rw [List.take_of_length_le (by omega), List.drop_eq_nil_of_le (by rw [S4.xl]; exact Nat.le_refl _), List.append_nil] at S6
    -- written
    refine homeOf_c ⟨_, rfl, ?_⟩
    have hh := homeN_is (i : Int)
    generalize hhe : homeN (i : Int) = h at *
    have td5 : Td 50 5 := ⟨by omega, by omega, by omega⟩
    have B6 : Bs w6 ow5 50 (some ⟨pb, 0, none⟩) new := ⟨(S6.pl.rdT).mono fun u hu => by rw [hu]; exact td5, by omega, fun hh => by cases hh⟩
    refine twrite_c S6.d (S6.sm.mono (by omega)) B6 nl (Nat.le_refl _) fun e1 w9 ow9 h9 f9 he1 _ => ⟨_, rfl, ?_⟩
    have wout := write_out (at_ := 2) (h := h) (bs := new) S6.so.up (by omega) (by omega) nl S6.so.z
    have smr := writeR_sm (at_ := 2) (h := (h : Int)) (bs := new) S6.sm
    rw [show ((2 : Nat) : Int) = 2 from rfl] at wout
    generalize writeR v 2 (h : Int) new = r at *
    rcases wout with ⟨_, w0, wu, wo, wz, wp, ws0, _⟩ | ⟨hs, _⟩
    rotate_left
    · have := S6.st
      omega
    rw [w0] at he1
    have e1' := err0 he1
    subst e1'
    have td : ∀ u, u < 50 ∨ 53 ≤ u → Td 50 u := fun u hu => ⟨by omega, by omega, by omega⟩
    have S9 : OwS W w9 ow9 b r.2 (fun k => if k = h then new else P k) pb new ga gc G C wa wc ws (2 * i) (2 * i) :=
      ⟨h9, wu.sm smr, ws0 S6.st, ⟨wu, wz, by rw [wo 0 (by omega) (by omega) (by omega)]; exact S6.so.a0, by rw [wo 1 (by omega) (by omega) (by omega)]; exact S6.so.a1, fun k hk => by
        by_cases e : k = h
        · subst e
          rw [if_pos rfl]
          exact wp
        · rw [if_neg e]
          exact wo.pg (S6.so.pg k hk) (by omega) (by omega) (by omega)⟩, S6.o.fr f9 (td _ (by omega)), S6.pl.fr f9 (td _ (by omega)), nl, S6.g.fr f9 (td _ (by omega)), S6.ge.fr f9 (fun j _ => td _ (by omega)), S6.s.fr f9 (td _ (by omega)), S6.gl, S6.wl, S6.n, S6.cs⟩
    have N9 := N6.fr f9 (td _ (by omega))
    have pl9 : ∀ k, (k = 5 ∨ k = 7 ∨ k = 9 ∨ k = 11) → (if k = h then new else P k).length = 1024 := fun k hk => by
      split
      · exact nl
      · exact pl4 k hk
    have L9 : ∀ k : Nat, k < i → i + 1 ≤ k + 4 → (if homeN k = h then new else P (homeN k)) = C (2 * k) := fun k hk hk4 => by
      rw [if_neg (by rw [← hhe]; exact homeN_ne hk hk4)]
      exact L4 k hk (by omega)
    have P9 : (if h = h then new else P h) = new := if_pos rfl
    generalize hP' : (fun k => if k = h then new else P k) = P' at *
    have P9' : P' h = new := by rw [← hP']; exact P9
    have pl9' : ∀ k, (k = 5 ∨ k = 7 ∨ k = 9 ∨ k = 11) → (P' k).length = 1024 := fun k hk => by rw [← hP']; exact pl9 k hk
    have L9' : ∀ k : Nat, k < i → i + 1 ≤ k + 4 → P' (homeN k) = C (2 * k) := fun k hk hk4 => by rw [← hP']; exact L9 k hk hk4
    clear hP' P9 pl9 L9 S4 S5 S6 L4 pl4 N5 N6
    -- written over
    refine loopN (fun st w' => ∃ k : Nat, k ≤ 1024 ∧ st.1 = (k : Int) ∧ ∃ X', OwS W w' ow9 b r.2 P' pb X' ga gc G C wa wc ws (2 * i) (2 * i) ∧ SlT w' ow9 T_uint8 1 (some ⟨b3, 0, none⟩) 1024 1024 (bvs new) 7) (fun st _ => 1024 - st.1.toNat)
      ⟨0, by omega, rfl, new, S9, N9⟩ ?_
    rintro ⟨k0, u⟩ w10 ⟨k, hk, hk0, X', S10, N10⟩ _
    dsimp only at hk0 ⊢
    subst hk0
    refine cond_d (fun hlt2 => ?_) (fun hge2 => ?_)
    · rw [kw k (by omega)]
      refine ⟨by omega, by omega, _, rfl, ?_⟩
      refine S10.put (k := k) (x := 85) (by omega) fun w11 S11 f11 => ⟨⟨k + 1, by omega, rfl, _, S11, N10.fr f11 (by omega)⟩, by simp only [Int.toNat_natCast]; omega⟩
    -- read, twice
    have rp := read_pg (h := h) wu (by omega) wp nl
    refine tread_c S10.d (S10.sm.mono (by omega)) fun a4 l4 c4 e4 w12 k12 s12 f12 he4 _ => ⟨_, _, _, _, rfl, ?_⟩
    rw [rp] at he4 s12
    have e4' := err0 he4
    subst e4'
    have hl4 : l4 = 1024 := by rw [← s12.ln]; exact nl
    subst hl4
    have g12 : Fro (fun _ => True) w10 ow9 w12 (ext ow9 w10.heap.size (100 + 2 * i)) := Fro.of_kp0 _ k12
    have A12 : SlT w12 (ext ow9 w10.heap.size (100 + 2 * i)) T_uint8 1 a4 1024 c4 (bvs new) (100 + 2 * i) := ⟨s12, fun j hj => ext_new (f12 j hj)⟩
    have S12 := S10.fr g12 fun _ _ _ => trivial
    have N12 := N10.fr g12 trivial
    generalize ext ow9 w10.heap.size (100 + 2 * i) = ow12 at *
    refine tread_c S12.d (S12.sm.mono (by omega)) fun a5 l5 c5 e5 w13 k13 s13 f13 he5 _ => ⟨_, _, _, _, rfl, ?_⟩
    rw [rp] at he5 s13
    have e5' := err0 he5
    subst e5'
    have hl5 : l5 = 1024 := by rw [← s13.ln]; exact nl
    subst hl5
    have g13 : Fro (fun _ => True) w12 ow12 w13 (ext ow12 w12.heap.size (100 + (2 * i + 1))) := Fro.of_kp0 _ k13
    have A13 : SlT w13 (ext ow12 w12.heap.size (100 + (2 * i + 1))) T_uint8 1 a5 1024 c5 (bvs new) (100 + (2 * i + 1)) := ⟨s13, fun j hj => ext_new (f13 j hj)⟩
    have S13 := S12.fr g13 fun _ _ _ => trivial
    have N13 := N12.fr g13 trivial
    have B13 := A12.fr g13 trivial
    generalize ext ow12 w12.heap.size (100 + (2 * i + 1)) = ow13 at *
    have eqc : ∀ {z1 z2 : ByteArray}, z1.toList = new → z2.toList = new → (!(z1.toList == z2.toList)) = false := fun h1 h2 => by rw [h1, h2, beq_self_eq_true]; rfl
    refine ⟨fun _ w' => w' = w13, ?_, ?_⟩
    · refine .inl ⟨rfl, cond_f rfl (.inl ⟨rfl, cond_f rfl (.inl ⟨rfl, cond_f rfl ?_⟩)⟩)⟩
      exact conv_c B13.sl fun z1 h1 => ⟨_, rfl, conv_c N13.sl fun z2 h2 => ⟨_, rfl, cond_f (eqc h1 h2) (conv_c A13.sl fun z3 h3 => ⟨_, rfl, conv_c N13.sl fun z4 h4 => ⟨_, rfl, cond_f (eqc h3 h4) rfl⟩⟩)⟩⟩
    rintro _ w18 rfl _
    refine S13.two (Nat.le_refl _) (by omega) B13 A13 fun ga' gc' w20 ow20 S20 f20 => ⟨_, _, _, rfl, ?_⟩
    have N20 := N13.fr f20 (by omega)
    refine conv_c N20.sl fun z5 h5 => ⟨_, rfl, conv_c N20.sl fun z6 h6 => ⟨_, rfl, ?_⟩⟩
    refine S20.strs (by omega) (z1 := z5) (z2 := z6) (by rw [h5, if_pos (Nat.le_refl _)]) (by rw [h6, if_pos (by omega)]) fun wa' wc' w24 ow24 S24 f24 => ⟨_, _, _, rfl, ?_⟩
    refine ⟨⟨i + 1, by omega, ow24, _, P', X', ga', gc', _, _, wa', wc', _, rfl, S24, fun k hk hk4 => ?_, pl9'⟩, by simp only [Int.toNat_natCast]; omega⟩
    by_cases e : k = i
    · subst e
      rw [hhe, P9']
      exact (if_pos (Nat.le_refl _)).symm
    · exact (L9' k (by omega) (by omega)).trans (if_neg (by omega)).symm
  clear S3 h2 sm2 so2 st2 F2
  rintro s w25 ⟨i, ow25, v, P, X, ga, gc, G, C, wa, wc, ws, hi20, rfl, S25, L25, pl25⟩ _
  dsimp only
  have hgl := S25.gl
  have hwl := S25.wl
  have lenC : ∀ {w' : World} {ow' : Nat → Nat} {D : Nat → List Value}, Fam w' ow' T_uint8 1 100 G D → ∀ j (hj : j < G.length), (D j).length = (G[j]).l := fun {w' ow' D} hf j hj => by have := (hf j hj).len1; rwa [Nat.mul_one] at this
  have l1024 : ∀ j (hj : j < G.length), (G[j]).l = 1024 := S25.n
  -- untouched
  refine loopN (fun s w' => ∃ k : Nat, s.1 = (k : Int) ∧ k ≤ G.length ∧ Kp no w25 w') (fun s _ => G.length - s.1.toNat) ⟨0, rfl, by omega, Kp.refl _ _⟩ ?_
  rintro ⟨k0, u'⟩ w26 ⟨k, hk0, hk, k26⟩ _
  dsimp only at hk0 ⊢
  subst hk0
  refine cond_d (fun hlt => ?_) (fun hge => ?_)
  · have hkl : k < G.length := by omega
    rw [kw k (by omega)]
    have kd : Kp no w25 w26.drew := k26.trans0 (Kp.drew w26 1)
    refine ⟨fun w' => Kp no w25 w', kd, siIS (S := fun w' => Kp no w25 w') kd (fun w hw => S25.g.sl.rd.kp0 hw) hkl rfl hgl (zIS (S := fun w' => Kp no w25 w') kd (fun w hw => S25.s.sl.rd.kp0 hw) (k := k) (by omega) rfl hwl ?_)⟩
    refine convQ (S25.ge k hkl) kd fun z hz => ⟨_, rfl, kd, cond_f ?_ ⟨⟨k + 1, rfl, by omega, kd⟩, by simp only [Int.toNat_natCast]; omega⟩⟩
    rw [hz, S25.cs k (by omega), beq_self_eq_true]
    rfl
  -- marked
  have S26 := S25.kp k26
  clear S25
  refine loopN (fun s w' => ∃ (k : Nat) (ow' : Nat → Nat) (D : Nat → List Value), s.1 = (k : Int) ∧ k ≤ G.length ∧ Fam w' ow' T_uint8 1 100 G D ∧ Fro (fun u => u < 100 ∨ 100 + G.length ≤ u) w26 ow25 w' ow' ∧ ∀ j (hj : j < G.length), j < k → D j = List.replicate (G[j]).l (mV j)) (fun s _ => G.length - s.1.toNat)
    ⟨0, ow25, _, rfl, by omega, S26.ge, ⟨Kp.refl _ _, fun _ _ _ => rfl⟩, fun j _ hj => by omega⟩ ?_
  rintro ⟨k0, u'⟩ w27 ⟨k, ow4, D, hk0, hk, hF, f4, hD⟩ _
  dsimp only at hk0 ⊢
  subst hk0
  refine cond_d (fun hlt => ?_) (fun hge => ?_)
  · have hkl : k < G.length := by omega
    rw [kw k (by omega)]
    refine loopN (fun s w' => ∃ (i : Nat) (ow' : Nat → Nat) (D : Nat → List Value), s.1 = (i : Int) ∧ i ≤ 1024 ∧ Fam w' ow' T_uint8 1 100 G D ∧ Fro (fun u => u < 100 ∨ 100 + G.length ≤ u) w26 ow25 w' ow' ∧ (∀ j (hj : j < G.length), j < k → D j = List.replicate (G[j]).l (mV j)) ∧ (D k).take i = List.replicate i (mV k)) (fun s _ => 1024 - s.1.toNat)
      ⟨0, ow4, D, rfl, by omega, hF, f4, hD, by simp⟩ ?_
    rintro ⟨i0, u''⟩ w5 ⟨i, ow5, D5, hi0, hi, hF5, f5, hD5, hT5⟩ _
    dsimp only at hi0 ⊢
    subst hi0
    have hr5 := (S26.g.fr f5 (by omega)).sl.rd
    have hsk := l1024 k hkl
    have hl5 := lenC hF5 k hkl
    refine siI hr5 hkl rfl hgl (cond_d (fun hlt2 => ?_) (fun hge2 => ?_))
    · rw [kw i (by omega)]
      obtain ⟨ba, ha⟩ := (hF5 k hkl).addr (by omega)
      refine siI hr5 hkl rfl hgl ⟨by omega, hlt2, _, ha, ?_⟩
      refine hF5.put hkl (i := i) (by omega) ha (by rw [Int.toNat_natCast, add_at]) fun w6 hF6 f6 => ⟨⟨i + 1, ow5, _, rfl, by omega, hF6, f5.trans (f6.mono fun u hu => by omega), fun j hj hjk => ?_, ?_⟩, by simp only [Int.toNat_natCast]; omega⟩
      · rw [if_neg (by omega)]
        exact hD5 j hj hjk
      · rw [if_pos rfl]
        show ((D5 k).set i (mV k)).take (i + 1) = _
        rw [take_snoc_get _ i (by rw [List.length_set]; omega), List.getElem_set_self, List.replicate_succ']
        congr 1
        rw [List.take_set_of_le (Nat.le_refl _)]
        exact hT5
    · have hie : i = 1024 := by omega
      subst hie
      rw [List.take_of_length_le (by omega)] at hT5
      exact ⟨⟨k + 1, ow5, D5, rfl, by omega, hF5, f5, fun j hj hjk => by
        by_cases hjk' : j = k
        · subst hjk'
          rw [hsk]
          exact hT5
        · exact hD5 j hj (by omega)⟩, by simp only [Int.toNat_natCast]; omega⟩
  have hke : k = G.length := by omega
  subst hke
  -- grown
  refine loopN (fun s w' => ∃ (k : Nat) (ow' : Nat → Nat) (M : List SI) (a : Option Addr) (c : Nat) (E : Nat → List Value), s = ((a, k, c), (k : Int), ()) ∧ k ≤ G.length ∧ M.length = k ∧ SlT w' ow' T_s_uint8 1 a k c (M.map siV) 6 ∧ Fam w' ow' T_uint8 1 100 G D ∧ Fam w' ow' T_uint8 1 100 M E ∧ Fro (fun u => u ≠ 6 ∧ (u < 100 ∨ 100 + G.length ≤ u)) w26 ow25 w' ow' ∧ (∀ j (hj : j < M.length) (hg : j < G.length), (M[j]).l = (G[j]).l + 2) ∧ (∀ j (hj : j < G.length), j < k → E j = List.replicate ((G[j]).l + 2) (mV j))) (fun s _ => G.length - s.2.1.toNat)
    ⟨0, ow4, [], none, 0, fun _ => [], rfl, by omega, rfl, slt_nil _ _ _ _ _, hF, Fam.nil, f4.mono fun u hu => hu.2, fun j hj => by simp at hj, fun j _ hj => by omega⟩ ?_
  rintro s w8 ⟨k, ow8, M, a, c, E, rfl, hk, hMl, hL8, hF8, hM8, f8, hl8, hE8⟩ _
  dsimp only
  have hr8 := (S26.g.fr f8 (by omega)).sl.rd
  refine cond_d (fun hlt => ?_) (fun hge => ?_)
  · have hkl : k < G.length := by omega
    rw [kw k (by omega)]
    have hsk := l1024 k hkl
    refine siI hr8 hkl rfl hgl (AlF.intro fun b1 w9 hb1e hb1 k9 s9 => ?_)
    have f9 : Fro (fun _ => True) w8 ow8 w9 (ext ow8 w8.heap.size 1) := Fro.of_kp0 1 k9
    have hF9 := hF8.fr f9 (fun _ _ => trivial)
    have hM9 := hM8.fr f9 (fun _ _ => trivial)
    have hL9 := hL8.fr f9 trivial
    generalize ext ow8 w8.heap.size 1 = ow9 at *
    refine hF9.grow er_u8 hM9 hkl hMl (m := 2) (rd_cells (xs := [mV k, mV k]) hb1 rfl) rfl (by omega) (fun h => by cases h) (fun u hu => by
      simp only [List.mem_cons, List.not_mem_nil, or_false] at hu
      rcases hu with rfl | rfl <;> rfl) (by omega) (by omega) fun a' c' w10 ow10 hF10 hM10 k10 f10 => ⟨_, _, _, rfl, ?_⟩
    have hL10 := hL9.fr f10 (by omega)
    refine pushT er_ss hL10 (v := .slice a' ((G[k]).l + 2) c') rfl (by omega) (by omega) fun a2 c2 w12 hL12 k12 f12 => ⟨⟨k + 1, _, M ++ [⟨a', (G[k]).l + 2, c'⟩], a2, c2, _, rfl, by omega, by simp [hMl], by rw [List.map_append]; exact hL12, hF10.fr f12 (fun j hj => by omega), hM10.fr f12 (fun j hj => by omega), ((f8.trans (f9.mono fun _ _ => trivial)).trans (f10.mono fun u hu => by omega)).trans (f12.mono fun u hu => hu.1), fun j hj hg => ?_, fun j hj hjk => ?_⟩, by simp only [Int.toNat_natCast]; omega⟩
    · by_cases hjk : j = M.length
      · subst hjk
        have e1 : (M ++ [(⟨a', (G[k]).l + 2, c'⟩ : SI)])[M.length]'(by simp) = ⟨a', (G[k]).l + 2, c'⟩ := by simp
        rw [e1]
        simp only [hMl]
      · have hj' : j < M.length := by simp at hj; omega
        rw [List.getElem_append_left hj']
        exact hl8 j hj' hg
    · by_cases hjk' : j = k
      · subst hjk'
        rw [if_pos rfl, hD j hj hj, show [mV j, mV j] = List.replicate 2 (mV j) from rfl, List.replicate_append_replicate]
      · rw [if_neg hjk']
        exact hE8 j hj (by omega)
  have hke : k = G.length := by omega
  subst hke
  -- looked at
  have hr13 := hr8
  have hm13 := hL8.sl.rd
  have cM : ∀ j (hj : j < G.length) i, i < (G[j]).l + 2 → (E j)[i]? = some (mV j) := fun j hj i hi => by rw [hE8 j hj hj, List.getElem?_replicate, if_pos hi]
  have cG : ∀ j (hj : j < G.length) i, i < (G[j]).l → (D j)[i]? = some (mV j) := fun j hj i hi => by rw [hD j hj hj, List.getElem?_replicate, if_pos hi]
  refine loopN (fun s w' => ∃ k : Nat, s.1 = (k : Int) ∧ k ≤ G.length ∧ Kp no w8 w') (fun s _ => G.length - s.1.toNat) ⟨0, rfl, by omega, Kp.refl _ _⟩ ?_
  rintro ⟨k0, u'⟩ w14 ⟨k, hk0, hk, k14⟩ _
  dsimp only at hk0 ⊢
  subst hk0
  refine cond_d (fun hlt => ?_) (fun hge => ?_)
  · have hkl : k < G.length := by omega
    have hkm : k < M.length := by omega
    rw [kw k (by omega)]
    have hsk := l1024 k hkl
    have hlk := hl8 k hkm hkl
    refine loopN (fun s w' => ∃ i : Nat, s.1 = (i : Int) ∧ i ≤ (G[k]).l + 2 ∧ Kp no w8 w') (fun s _ => (G[k]).l + 2 - s.1.toNat) ⟨0, rfl, by omega, k14⟩ ?_
    rintro ⟨i0, u''⟩ w15 ⟨i, hi0, hi, k15⟩ _
    dsimp only at hi0 ⊢
    subst hi0
    have rM := hm13.kp0 k15
    have rG := hr13.kp0 k15
    refine siI rM hkm rfl hMl ?_
    rw [hlk]
    refine cond_d (fun hlt2 => ?_) (fun hge2 => ⟨⟨k + 1, rfl, by omega, k15⟩, by simp only [Int.toNat_natCast]; omega⟩)
    have hil : i < (G[k]).l + 2 := by omega
    rw [kw i (by omega)]
    have nxt : ((∃ i' : Nat, ((i + 1 : Nat) : Int) = (i' : Int) ∧ i' ≤ (G[k]).l + 2 ∧ Kp no w8 w15) ∧ (G[k]).l + 2 - Int.toNat ((i + 1 : Nat) : Int) < (G[k]).l + 2 - Int.toNat (i : Int)) := ⟨⟨i + 1, rfl, by omega, k15⟩, by simp only [Int.toNat_natCast]; omega⟩
    have xM := (hM8 k hkm).rd.kp0 k15
    refine siI rM hkm rfl hMl (rdI xM (cM k hkl i hil) rfl (by rw [hlk]; exact hil) fun b1 o1 h1 c1 => ⟨_, c1, cond_ne (fun hne => absurd rfl hne) (fun _ => ?_)⟩)
    refine siI rG hkl rfl hgl (cond_d (fun hlt3 => ?_) (fun hge3 => nxt))
    have xG := (hF8 k hkl).rd.kp0 k15
    exact siI rG hkl rfl hgl (rdI xG (cG k hkl i (by omega)) rfl (by omega) fun b2 o2 h2 c2 => ⟨_, c2, cond_ne (fun hne => absurd rfl hne) (fun _ => nxt)⟩)
  -- read again
  have f14 := f8.trans ((Fro.kp0 (ow := ow8) k14).mono fun u (_ : u ≠ 6 ∧ (u < 100 ∨ 100 + G.length ≤ u)) => trivial)
  have d14 := S26.d.fr f14 (by omega) (by omega) (by omega) (by omega)
  have o14 := S26.o.fr f14 (by omega)
  have s14 := S26.s.fr f14 (by omega)
  have e1 : Int.tdiv ((2 * i : Nat) : Int) 2 = (i : Int) := by
    rw [show Int.tdiv ((2 * i : Nat) : Int) 2 = ((2 * i / 2 : Nat) : Int) from rfl]
    omega
  have e2 : IntKind.wrap .i64 (i : Int) = (i : Int) := wrap_i64 (by omega) (by omega)
  have e3 : IntKind.wrap .i64 ((i : Int) - 4) = (i : Int) - 4 := wrap_i64 (by omega) (by omega)
  rw [e1, e2, e3]
  clear e1 e2 e3
  have e4 : (if (i : Int) - 4 > 0 then (i : Int) - 4 else 0) = ((i - 4 : Nat) : Int) := by split <;> omega
  rw [e4]
  refine ⟨by omega, ?_⟩
  have up := S26.so.up
  have sm := S26.sm
  have pg := S26.so.pg
  have cs := S26.cs
  refine loopN (fun s w' => ∃ k : Nat, s.1 = (k : Int) ∧ i - 4 ≤ k ∧ k ≤ i ∧ Kp no w14 w') (fun s _ => i - s.1.toNat) ⟨i - 4, rfl, by omega, by omega, Kp.refl _ _⟩ ?_
  rintro ⟨k0, u'⟩ w38 ⟨k, hk0, hk4, hki, k38⟩ _
  dsimp only at hk0 ⊢
  subst hk0
  refine ⟨by omega, cond_d (fun hlt => ?_) (fun _ => hK _ (o14.kp.trans0 k38))⟩
  have e5 : IntKind.wrap .i64 (2 * (k : Int)) = ((2 * k : Nat) : Int) := by rw [wrap_i64 (by omega) (by omega)]; omega
  rw [e5, kw k (by omega)]
  clear e5
  have hh := homeN_is (k : Int)
  have hL := L25 k (by omega) (by omega)
  refine homeOf_c ⟨_, rfl, ?_⟩
  generalize homeN (k : Int) = h at *
  have rp := read_pg (h := h) up (by omega) (pg h hh) (pl25 h hh)
  refine tread_c (d14.kp0 k38) (sm.mono (by omega)) fun a18 l18 c18 e18 w40 k40 s40 f40 he _ => ⟨_, _, _, _, rfl, ?_⟩
  rw [rp] at he s40
  have e18' := err0 he
  subst e18'
  have kd : Kp no w14 w40.drew := (k38.trans0 k40).trans0 (Kp.drew w40 1)
  refine ⟨fun w' => Kp no w14 w', kd, .inl ⟨rfl, cond_f rfl (zIS (S := fun w' => Kp no w14 w') kd (fun w hw => s14.sl.rd.kp0 hw) (k := 2 * k) (by omega) rfl hwl ?_)⟩⟩
  refine conv_c (s40.kp0 (Kp.drew w40 1)) fun z hz => ⟨_, rfl, kd, cond_f ?_ ⟨⟨k + 1, rfl, by omega, by omega, kd⟩, by simp only [Int.toNat_natCast]; omega⟩⟩
  rw [hz, cs (2 * k) (by omega), hL, beq_self_eq_true]
  rfl

theorem twinOwn_walk {W : World} {v0 : Value} (h0 : ArgW Try.prog W T_s_uint8 v0) : GoC Try.prog F_law08_TwinOwn #[v0] W fun e W' => e = .returned (.bool true) ∧ Kp no W W' := by
  obtain ⟨a, l, c, rfl, _⟩ := h0.arg.slice (e := T_uint8) (by kernel_rfl)
  have hw : ClW Try.prog W T_s_uint8 [.slice a l c] := h0.clw
  obtain ⟨a', l', c', bs, he, hB⟩ := bytes_open' hw
  cases he
  exact own_c hB.rd hB.n fun w' k => ⟨rfl, k⟩
end Go.Proofs.Ytalkkhocljehfaa
