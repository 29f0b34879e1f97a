/- Several texts as one. Conditions: none. -/
import Derived.Test.YtalkkhocljehfaaNe
import Derived.Test.YtalkkhocljehfaaTn2
import Derived.Test.YtalkkhocljehfaaUa2
/- Plain: what a Write and a Finish leave, cut off or not. Conditions: none. -/
set_option linter.unusedVariables false
set_option linter.unusedSimpArgs false
namespace Go.Proofs.Ytalkkhocljehfaa
open Go Go.RowKit

/-- A disk that is up, that is down; nothing cached. -/
structure Up (v : Dv) (n : Nat) : Prop where
  ok : v.Ok
  d : v.down = false
  q : v.q = []
  vn : v.n = n
structure Dn (v : Dv) (n : Nat) : Prop where
  ok : v.Ok
  d : v.down = true
  q : v.q = []
  vn : v.n = n
theorem Dn.up {v : Dv} {n : Nat} (h : Dn v n) : Up v.up n := ⟨h.ok.up, rfl, h.q, h.vn⟩
theorem Up.up {v : Dv} {n : Nat} (h : Up v n) : Up v.up n := ⟨h.ok.up, rfl, h.q, h.vn⟩
theorem sect_up (v : Dv) (j : Nat) : v.up.sect j = v.sect j := rfl
theorem Up.read {v : Dv} {n i : Nat} (h : Up v n) (hi : i < n) : (v.read (i : Int)).1 = v.sect i := by
  have := h.vn
  unfold Dv.read
  rw [h.d, if_neg (by simp), if_neg (by unfold Dv.there; omega), h.q, Int.toNat_natCast]
  rfl
theorem put_ok {v : Dv} {n i : Nat} {l : List (List UInt8)} (h : Up v n) (hi : i + l.length ≤ n) (hb : ∀ b ∈ l, b.length = 512) (hs : v.step = 0 ∨ (l.length : Int) + 1 < v.step) :
    (putL v i l).1 = 0 ∧ Up (putL v i l).2 n ∧ (putL v i l).2.step = (if v.step = 0 then 0 else v.step - (l.length + 1)) ∧ (∀ j, j < n → (putL v i l).2.sect j = readL (j : Int) (zipI i l) (v.sect j)) ∧
    (0 ≤ v.calls → v.calls + l.length + 1 < 1000000000000 → (putL v i l).2.calls = v.calls + (l.length + 1)) := by
  have hn := h.vn
  obtain ⟨a, b, c, d, e, f⟩ := putL_up l (v := v) (i := (i : Int)) h.ok h.d (by omega) (by omega) hb hs
  refine ⟨a, ⟨putL_Ok l _ h.ok, b, c, by rw [putL_n l _ h.ok, hn]⟩, e, fun j hj => ?_, f⟩
  unfold Dv.sect
  rw [d, h.q, List.nil_append]
  refine sect_sync hj _ _ (by rw [h.ok.len, hn]) fun p hp => ?_
  obtain ⟨x, y, z⟩ := zipI_mem l (i : Int) hb p hp
  exact ⟨by omega, by omega, z⟩
theorem put_no {v : Dv} {n i : Nat} {l : List (List UInt8)} (h : Up v n) (hi : i + l.length ≤ n) (hb : ∀ b ∈ l, b.length = 512) (hs : 1 ≤ v.step ∧ v.step ≤ (l.length : Int) + 1) :
    (putL v i l).1 = 40 ∧ Dn (putL v i l).2 n ∧ (∀ j, j < n → (j < i ∨ i + l.length ≤ j) → (putL v i l).2.sect j = v.sect j) ∧ (∀ b, l = [b] → Mix b (v.sect i) ((putL v i l).2.sect i)) := by
  have hn := h.vn
  obtain ⟨a, b, c, d, m, hm, e⟩ := putL_fall l (v := v) (i := (i : Int)) h.ok h.d (by omega) (by omega) hb hs
  refine ⟨a, ⟨putL_Ok l _ h.ok, b, c, by rw [d, hn]⟩, fun j hj hji => ?_, fun b1 hl => ?_⟩
  · unfold Dv.sect
    rw [e, h.q, List.nil_append]
    have hmem : ∀ p ∈ zipI (i : Int) (l.take m), (i : Int) ≤ p.1 ∧ p.1 < (i : Int) + l.length ∧ p.2.length = 512 := fun p hp => by
      obtain ⟨x, y, z⟩ := zipI_mem (l.take m) (i : Int) (fun b hb' => hb b (List.mem_of_mem_take hb')) p hp
      rw [List.length_take] at y
      exact ⟨x, by omega, z⟩
    refine sect_fall hj _ _ _ _ _ _ (by rw [h.ok.len, hn]) (fun p hp => ?_) fun p hp => ?_
    · obtain ⟨x, y, z⟩ := hmem p hp
      exact ⟨by omega, by omega, z⟩
    · obtain ⟨x, y, z⟩ := hmem p hp
      omega
  · subst hl
    have := hm (by simp)
    unfold Dv.sect
    have tk : [b1].take m = [b1] := List.take_of_length_le (by simp; omega)
    simp only [List.length_cons, List.length_nil] at hi
    rw [e, h.q, List.nil_append, tk]
    exact sect_fall1 (n := n) (j := i) (by omega) (by rw [h.ok.len, hn]) (hb b1 (List.mem_singleton.2 rfl))

/-- All sectors but the twin's and the home's. -/
def Oth (v v' : Dv) (n at_ h : Nat) : Prop := ∀ j, j < n → (j < at_ ∨ at_ + 3 ≤ j) → (j < h ∨ h + 2 ≤ j) → v'.sect j = v.sect j
theorem Oth.trans {v v' v'' : Dv} {n at_ h : Nat} (a : Oth v v' n at_ h) (b : Oth v' v'' n at_ h) : Oth v v'' n at_ h := fun j hj h1 h2 => by rw [b j hj h1 h2, a j hj h1 h2]
/-- A page at home. -/
def Pg (v : Dv) (h : Nat) (bs : List UInt8) : Prop := v.sect h = bs.take 512 ∧ v.sect (h + 1) = (bs.drop 512).take 512
/-- No marker stands; one stands, with its page beside it. -/
def Zm (v : Dv) (at_ : Nat) : Prop := ((v.sect at_).getD 511 0).toNat = 0
def Sm (v : Dv) (at_ h : Nat) (bs : List UInt8) : Prop := v.sect at_ = markB h 165 ∧ Pg v (at_ + 1) bs
theorem Oth.pg {v v' : Dv} {n at_ h k : Nat} {bs : List UInt8} (a : Oth v v' n at_ h) (p : Pg v k bs) (hk : k + 2 ≤ n) (h1 : k + 2 ≤ at_ ∨ at_ + 3 ≤ k) (h2 : k + 2 ≤ h ∨ h + 2 ≤ k) : Pg v' k bs :=
  ⟨by rw [a k (by omega) (by omega) (by omega)]; exact p.1, by rw [a (k + 1) (by omega) (by omega) (by omega)]; exact p.2⟩
def markP (h : Nat) : List UInt8 := leB8 4 h ++ List.replicate 507 0
theorem markP_len (h : Nat) : (markP h).length = 511 := by unfold markP; rw [List.length_append, leB8_len, List.length_replicate]
theorem markB_eq (h : Nat) (x : UInt8) : markB h x = markP h ++ [x] := (List.append_assoc _ _ _).symm
theorem markB_511 (h : Nat) (x : UInt8) : (markB h x).getD 511 0 = x := by
  rw [markB_eq, List.getD_eq_getElem?_getD, List.getElem?_append_right (by rw [markP_len]; exact Nat.le_refl _), markP_len]
  rfl
theorem markB_torn {h : Nat} {x y : UInt8} {o : List UInt8} (m : Mix (markB h x) (markB h y) o) : o = markB h x ∨ o = markB h y := by
  obtain ⟨c, hc, rfl⟩ := m
  by_cases e : c = 512
  · left
    rw [e, List.take_of_length_le (by rw [markB_len]; omega), List.drop_eq_nil_of_le (by rw [markB_len]; omega), List.append_nil]
  · right
    have : (markB h x).take c = (markB h y).take c := by
      rw [markB_eq, markB_eq, List.take_append_of_le_length (by rw [markP_len]; omega), List.take_append_of_le_length (by rw [markP_len]; omega)]
    rw [this, List.take_append_drop]
theorem mix_zero {h : Nat} {x : UInt8} {s o : List UInt8} (m : Mix (markB h x) s o) (hs : s.length = 512) : o = markB h x ∨ o.getD 511 0 = s.getD 511 0 := by
  obtain ⟨c, hc, rfl⟩ := m
  by_cases e : c = 512
  · left
    rw [e, List.take_of_length_le (by rw [markB_len]; omega), List.drop_eq_nil_of_le (by omega), List.append_nil]
  · right
    rw [List.getD_eq_getElem?_getD, List.getD_eq_getElem?_getD, List.getElem?_append_right (by rw [List.length_take, markB_len]; omega), List.getElem?_drop, List.length_take, markB_len]
    congr 2
    omega

set_option maxHeartbeats 4000000 in
/-- What a Write leaves. -/
theorem write_out {v : Dv} {n at_ h : Nat} {bs : List UInt8} (hu : Up v n) (hp : at_ + 3 ≤ n) (hm : h + 2 ≤ n ∧ (h + 1 < at_ ∨ at_ + 2 < h)) (hl : bs.length = 1024) (hz : Zm v at_) :
    ((v.step = 0 ∨ 10 < v.step) ∧ (writeR v at_ h bs).1 = 0 ∧ Up (writeR v at_ h bs).2 n ∧ Oth v (writeR v at_ h bs).2 n at_ h ∧ Zm (writeR v at_ h bs).2 at_ ∧ Pg (writeR v at_ h bs).2 h bs ∧ (v.step = 0 → (writeR v at_ h bs).2.step = 0) ∧
      (0 ≤ v.calls → v.calls < 1000000000 → (writeR v at_ h bs).2.calls = v.calls + 10)) ∨
    ((1 ≤ v.step ∧ v.step ≤ 10) ∧ (writeR v at_ h bs).1 = 40 ∧ Dn (writeR v at_ h bs).2 n ∧ Oth v (writeR v at_ h bs).2 n at_ h ∧
      ((v.step ≤ 5 ∧ Zm (writeR v at_ h bs).2 at_ ∧ (writeR v at_ h bs).2.sect h = v.sect h ∧ (writeR v at_ h bs).2.sect (h + 1) = v.sect (h + 1)) ∨ (4 ≤ v.step ∧ Sm (writeR v at_ h bs).2 at_ h bs) ∨ (9 ≤ v.step ∧ Zm (writeR v at_ h bs).2 at_ ∧ Pg (writeR v at_ h bs).2 h bs))) := by
  have hn := hu.vn
  have st := hu.ok.step
  unfold writeR
  rw [hu.d, if_neg (by simp), if_neg (fun hh => hh ⟨⟨by omega, by omega⟩, by unfold mayP; omega⟩), if_neg (fun hh => hh hl)]
  have hb2 : ∀ b ∈ chunkL 2 bs, b.length = 512 := fun b hb => by
    simp only [chunkL, List.mem_cons, List.not_mem_nil, or_false] at hb
    rcases hb with rfl | rfl
    · rw [List.length_take]; omega
    · rw [List.length_take, List.length_drop]; omega
  have hb1 : ∀ x : UInt8, ∀ b ∈ [markB (h : Int).toNat x], b.length = 512 := fun x b hb => by
    rw [List.mem_singleton] at hb
    rw [hb, markB_len]
  have e1 : ((at_ : Int) + 1) = ((at_ + 1 : Nat) : Int) := by omega
  have ln2 := chunkL_len 2 bs
  rw [e1]
  rw [Int.toNat_natCast] at hb1 ⊢
  -- beside
  by_cases s1 : 1 ≤ v.step ∧ v.step ≤ 3
  · obtain ⟨a, b, c, _⟩ := put_no (i := at_ + 1) hu (by omega) hb2 (by rw [ln2]; omega)
    rw [if_pos (by rw [a]; decide)]
    rw [ln2] at c
    refine .inr ⟨by omega, a, b, fun j hj h1 h2 => c j hj (by omega), .inl ⟨by omega, ?_, c _ (by omega) (by omega), c _ (by omega) (by omega)⟩⟩
    unfold Zm
    rw [c _ (by omega) (by omega)]
    exact hz
  obtain ⟨a1, u1, t1, c1, k1⟩ := put_ok (i := at_ + 1) hu (by omega) hb2 (by rw [ln2]; omega)
  rw [if_neg (by rw [a1]; simp)]
  generalize putL v ((at_ + 1 : Nat) : Int) (chunkL 2 bs) = A at *
  rw [ln2] at t1 k1
  have o1 : ∀ j, j < n → (j < at_ + 1 ∨ at_ + 3 ≤ j) → A.2.sect j = v.sect j := fun j hj hh => by
    rw [c1 j hj]
    simp only [chunkL, zipI, readL]
    rw [if_neg (by omega), if_neg (by omega)]
  have p1 : Pg A.2 (at_ + 1) bs := by
    constructor
    · rw [c1 _ (by omega)]
      simp only [chunkL, zipI, readL]
      rw [if_pos trivial, if_neg (by omega)]
    · rw [c1 _ (by omega)]
      simp only [chunkL, zipI, readL]
      rw [if_pos (by omega)]
  -- the marker
  by_cases s2 : 4 ≤ v.step ∧ v.step ≤ 5
  · obtain ⟨a, b, c, m⟩ := put_no (i := at_) u1 (by simp; omega) (hb1 165) (by simp; rw [t1, if_neg (by omega)]; omega)
    rw [if_pos (by rw [a]; decide)]
    simp only [List.length_cons, List.length_nil] at c
    have oth : Oth v (putL A.2 (at_ : Int) [markB h 165]).2 n at_ h := fun j hj h1 h2 => by rw [c j hj (by omega), o1 j hj (by omega)]
    refine .inr ⟨by omega, a, b, oth, ?_⟩
    rcases mix_zero (m _ rfl) (sect_len u1.ok (by have := u1.vn; omega)) with e | e
    · refine .inr (.inl ⟨by omega, e, ?_, ?_⟩)
      · rw [c _ (by omega) (by omega)]; exact p1.1
      · rw [c _ (by omega) (by omega)]; exact p1.2
    · refine .inl ⟨by omega, ?_, by rw [c _ (by omega) (by omega), o1 _ (by omega) (by omega)], by rw [c _ (by omega) (by omega), o1 _ (by omega) (by omega)]⟩
      unfold Zm
      rw [e, o1 _ (by omega) (by omega)]
      exact hz
  obtain ⟨a2, u2, t2, c2, k2⟩ := put_ok (i := at_) u1 (by simp; omega) (hb1 165) (by
    simp only [List.length_cons, List.length_nil]
    rcases Decidable.em (v.step = 0) with z | z
    · rw [t1, if_pos z]; omega
    · rw [t1, if_neg z]; omega)
  rw [if_neg (by rw [a2]; simp)]
  generalize putL A.2 (at_ : Int) [markB h 165] = B at *
  have o2 : ∀ j, j < n → j ≠ at_ → B.2.sect j = A.2.sect j := fun j hj hh => by
    rw [c2 j hj]
    simp only [zipI, readL]
    rw [if_neg (by omega)]
  have m2 : B.2.sect at_ = markB h 165 := by
    rw [c2 _ (by omega)]
    simp only [zipI, readL]
    rw [if_pos trivial]
  have p2 : Sm B.2 at_ h bs := ⟨m2, by rw [o2 _ (by omega) (by omega)]; exact p1.1, by rw [o2 _ (by omega) (by omega)]; exact p1.2⟩
  simp only [List.length_cons, List.length_nil] at t2 k2
  -- home
  by_cases s3 : 6 ≤ v.step ∧ v.step ≤ 8
  · obtain ⟨a, b, c, _⟩ := put_no (i := h) u2 (by omega) hb2 (by rw [ln2, t2, t1, if_neg (by omega), if_neg (by omega)]; omega)
    rw [if_pos (by rw [a]; decide)]
    rw [ln2] at c
    refine .inr ⟨by omega, a, b, fun j hj h1 h2 => by rw [c j hj (by omega), o2 j hj (by omega), o1 j hj (by omega)], .inr (.inl ⟨by omega, by rw [c _ (by omega) (by omega)]; exact m2, ?_, ?_⟩)⟩
    · rw [c _ (by omega) (by omega)]; exact p2.2.1
    · rw [c _ (by omega) (by omega)]; exact p2.2.2
  obtain ⟨a3, u3, t3, c3, k3⟩ := put_ok (i := h) u2 (by omega) hb2 (by
    rw [ln2]
    rcases Decidable.em (v.step = 0) with z | z
    · rw [t2, t1, if_pos z, if_pos rfl]; omega
    · rw [t2, t1, if_neg z, if_neg (by omega)]; omega)
  rw [if_neg (by rw [a3]; simp)]
  generalize putL B.2 (h : Int) (chunkL 2 bs) = C at *
  rw [ln2] at t3 k3
  have o3 : ∀ j, j < n → (j < h ∨ h + 2 ≤ j) → C.2.sect j = B.2.sect j := fun j hj hh => by
    rw [c3 j hj]
    simp only [chunkL, zipI, readL]
    rw [if_neg (by omega), if_neg (by omega)]
  have p3 : Pg C.2 h bs := by
    constructor
    · rw [c3 _ (by omega)]
      simp only [chunkL, zipI, readL]
      rw [if_pos trivial, if_neg (by omega)]
    · rw [c3 _ (by omega)]
      simp only [chunkL, zipI, readL]
      rw [if_pos (by omega)]
  have m3 : C.2.sect at_ = markB h 165 := by rw [o3 _ (by omega) (by omega)]; exact m2
  -- the marker's last byte
  by_cases s4 : 9 ≤ v.step ∧ v.step ≤ 10
  · obtain ⟨a, b, c, m⟩ := put_no (i := at_) u3 (by simp; omega) (hb1 0) (by simp; rw [t3, t2, t1, if_neg (by omega), if_neg (by omega), if_neg (by omega)]; omega)
    simp only [List.length_cons, List.length_nil] at c
    refine .inr ⟨by omega, a, b, fun j hj h1 h2 => by rw [c j hj (by omega), o3 j hj (by omega), o2 j hj (by omega), o1 j hj (by omega)], ?_⟩
    have hmx := m _ rfl
    rw [m3] at hmx
    rcases markB_torn hmx with e | e
    · refine .inr (.inr ⟨by omega, ?_, ?_, ?_⟩)
      · unfold Zm
        rw [e, markB_511]
        rfl
      · rw [c _ (by omega) (by omega)]; exact p3.1
      · rw [c _ (by omega) (by omega)]; exact p3.2
    · refine .inr (.inl ⟨by omega, e, ?_, ?_⟩)
      · rw [c _ (by omega) (by omega), o3 _ (by omega) (by omega)]; exact p2.2.1
      · rw [c _ (by omega) (by omega), o3 _ (by omega) (by omega)]; exact p2.2.2
  obtain ⟨a4, u4, t4, c4, k4⟩ := put_ok (i := at_) u3 (by simp; omega) (hb1 0) (by
    simp only [List.length_cons, List.length_nil]
    rcases Decidable.em (v.step = 0) with z | z
    · rw [t3, t2, t1, if_pos z, if_pos rfl, if_pos rfl]; omega
    · rw [t3, t2, t1, if_neg z, if_neg (by omega), if_neg (by omega)]; omega)
  have o4 : ∀ j, j < n → j ≠ at_ → (putL C.2 (at_ : Int) [markB h 0]).2.sect j = C.2.sect j := fun j hj hh => by
    rw [c4 j hj]
    simp only [zipI, readL]
    rw [if_neg (by omega)]
  simp only [List.length_cons, List.length_nil] at t4 k4
  refine .inl ⟨by omega, a4, u4, fun j hj h1 h2 => by rw [o4 j hj (by omega), o3 j hj (by omega), o2 j hj (by omega), o1 j hj (by omega)], ?_, ?_, fun h0 => ?_, fun hc0 hc1 => ?_⟩
  · unfold Zm
    rw [c4 _ (by omega)]
    simp only [zipI, readL]
    rw [if_pos trivial, markB_511]
    rfl
  · exact ⟨by rw [o4 _ (by omega) (by omega)]; exact p3.1, by rw [o4 _ (by omega) (by omega)]; exact p3.2⟩
  · rw [t4, t3, t2, t1, if_pos h0, if_pos rfl, if_pos rfl, if_pos rfl]
  · have q1 := k1 hc0 (by omega)
    have q2 := k2 (by omega) (by omega)
    have q3 := k3 (by omega) (by omega)
    rw [k4 (by omega) (by omega), q3, q2, q1]
    omega
end Go.Proofs.Ytalkkhocljehfaa

/- Plain: what a Finish leaves, cut off or not. Conditions: none. -/
set_option linter.unusedVariables false
set_option linter.unusedSimpArgs false
namespace Go.Proofs.Ytalkkhocljehfaa
open Go Go.RowKit

theorem fin_zero {v : Dv} {n at_ : Nat} (hu : Up v n) (hp : at_ + 3 ≤ n) (hz : Zm v at_) : finR v at_ = ((false, 0), v) := by
  have hn := hu.vn
  unfold finR
  rw [hu.d, if_neg (by simp), if_neg (fun hh => hh ⟨by omega, by omega⟩)]
  unfold finS
  rw [hu.read (by omega), if_pos (show ((v.sect at_).getD 511 0).toNat = 0 from hz)]
theorem replicate_any (k : Nat) : (List.replicate k (0 : UInt8)).any (fun x => decide (x.toNat ≠ 0)) = false := by
  rw [List.any_eq_false]
  intro x hx
  rw [(List.mem_replicate.1 hx).2]
  decide
theorem finOdd_mark (h : Nat) (x : UInt8) : finOdd (markB h x) = false := by
  unfold finOdd markB
  rw [List.drop_append_of_le_length (by rw [leB8_len]; exact Nat.le_refl _), List.drop_eq_nil_of_le (by rw [leB8_len]; exact Nat.le_refl _), List.nil_append, List.take_append_of_le_length (by rw [List.length_replicate]; exact Nat.le_refl _), List.take_of_length_le (by rw [List.length_replicate]; exact Nat.le_refl _)]
  exact replicate_any 507
theorem finH_mark {h : Nat} (hh : h < 4294967296) (x : UInt8) : finH (markB h x) = h := by
  unfold finH markB
  rw [List.take_append_of_le_length (by rw [leB8_len]; exact Nat.le_refl _), List.take_of_length_le (by rw [leB8_len]; exact Nat.le_refl _), leN_leB8]
  exact Nat.mod_eq_of_lt hh
set_option maxHeartbeats 1000000 in
theorem fin_out {v : Dv} {n at_ h : Nat} {bs : List UInt8} (hu : Up v n) (hp : at_ + 3 ≤ n) (hm : h + 2 ≤ n ∧ (h + 1 < at_ ∨ at_ + 2 < h)) (hl : bs.length = 1024) (hs : Sm v at_ h bs) :
    ((v.step = 0 ∨ 5 < v.step) ∧ (finR v at_).1 = (true, 0) ∧ Up (finR v at_).2 n ∧ Oth v (finR v at_).2 n at_ h ∧ Zm (finR v at_).2 at_ ∧ Pg (finR v at_).2 h bs ∧ (v.step = 0 → (finR v at_).2.step = 0)) ∨
    ((1 ≤ v.step ∧ v.step ≤ 5) ∧ (finR v at_).1 = (false, 40) ∧ Dn (finR v at_).2 n ∧ Oth v (finR v at_).2 n at_ h ∧ (Sm (finR v at_).2 at_ h bs ∨ Zm (finR v at_).2 at_ ∧ Pg (finR v at_).2 h bs)) := by
  have hn := hu.vn
  have n2 := hu.ok.n2
  have st := hu.ok.step
  have eq : finR v at_ = finS v at_ (markB h 165) (bs.take 512) ((bs.drop 512).take 512) := by
    unfold finR
    rw [hu.d, if_neg (by simp), if_neg (fun hh => hh ⟨by omega, by omega⟩), show (at_ : Int) + 1 = ((at_ + 1 : Nat) : Int) by omega, show (at_ : Int) + 2 = ((at_ + 1 + 1 : Nat) : Int) by omega, hu.read (by omega), hu.read (by omega), hu.read (by omega), hs.1, hs.2.1, hs.2.2]
  rw [eq]
  unfold finS
  rw [if_neg (by rw [markB_511]; decide), if_neg (fun hh => hh ⟨by rw [markB_511]; rfl, finOdd_mark _ _, by rw [finH_mark (by omega)]; unfold mayP; omega⟩), finH_mark (by omega), markB_set]
  have hb2 : ∀ b ∈ [bs.take 512, (bs.drop 512).take 512], b.length = 512 := fun b hb => by
    simp only [List.mem_cons, List.not_mem_nil, or_false] at hb
    rcases hb with rfl | rfl
    · rw [List.length_take]; omega
    · rw [List.length_take, List.length_drop]; omega
  have hb1 : ∀ b ∈ [markB h 0], b.length = 512 := fun b hb => by
    rw [List.mem_singleton] at hb
    rw [hb, markB_len]
  have l2 : [bs.take 512, (bs.drop 512).take 512].length = 2 := rfl
  have l1 : [markB h 0].length = 1 := rfl
  by_cases s1 : 1 ≤ v.step ∧ v.step ≤ 3
  · obtain ⟨a, b, c, _⟩ := put_no (i := h) hu (by omega) hb2 (by rw [l2]; omega)
    rw [if_pos (by rw [a]; decide)]
    rw [l2] at c
    refine .inr ⟨by omega, by rw [a], b, fun j hj h1 h2 => c j hj (by omega), .inl ⟨?_, ?_, ?_⟩⟩
    · dsimp only
      rw [c _ (by omega) (by omega)]
      exact hs.1
    · dsimp only
      rw [c _ (by omega) (by omega)]
      exact hs.2.1
    · dsimp only
      rw [c _ (by omega) (by omega)]
      exact hs.2.2
  obtain ⟨a3, u3, t3, c3, k3⟩ := put_ok (i := h) hu (by omega) hb2 (by rw [l2]; omega)
  rw [if_neg (by rw [a3]; simp)]
  generalize putL v (h : Int) [bs.take 512, (bs.drop 512).take 512] = C at *
  rw [l2] at t3 k3
  have o3 : ∀ j, j < n → (j < h ∨ h + 2 ≤ j) → C.2.sect j = v.sect j := fun j hj hh => by
    rw [c3 j hj]
    simp only [zipI, readL]
    rw [if_neg (by omega), if_neg (by omega)]
  have p3 : Pg C.2 h bs := by
    constructor
    · rw [c3 _ (by omega)]
      simp only [zipI, readL]
      rw [if_pos trivial, if_neg (by omega)]
    · rw [c3 _ (by omega)]
      simp only [zipI, readL]
      rw [if_pos (by omega)]
  have m3 : C.2.sect at_ = markB h 165 := by rw [o3 _ (by omega) (by omega)]; exact hs.1
  by_cases s4 : 4 ≤ v.step ∧ v.step ≤ 5
  · obtain ⟨a, b, c, m⟩ := put_no (i := at_) u3 (by rw [l1]; omega) hb1 (by rw [l1, t3, if_neg (by omega)]; omega)
    rw [if_pos (by rw [a]; decide)]
    rw [l1] at c
    refine .inr ⟨by omega, by rw [a], b, fun j hj h1 h2 => by dsimp only; rw [c j hj (by omega), o3 j hj (by omega)], ?_⟩
    dsimp only
    have hmx := m _ rfl
    rw [m3] at hmx
    rcases markB_torn hmx with e | e
    · refine .inr ⟨?_, ?_, ?_⟩
      · unfold Zm
        rw [e, markB_511]
        rfl
      · rw [c _ (by omega) (by omega)]; exact p3.1
      · rw [c _ (by omega) (by omega)]; exact p3.2
    · refine .inl ⟨e, ?_, ?_⟩
      · rw [c _ (by omega) (by omega), o3 _ (by omega) (by omega)]; exact hs.2.1
      · rw [c _ (by omega) (by omega), o3 _ (by omega) (by omega)]; exact hs.2.2
  obtain ⟨a4, u4, t4, c4, k4⟩ := put_ok (i := at_) u3 (by rw [l1]; omega) hb1 (by
    rw [l1]
    rcases Decidable.em (v.step = 0) with z | z
    · rw [t3, if_pos z]; omega
    · rw [t3, if_neg z]; omega)
  rw [if_neg (by rw [a4]; simp)]
  have o4 : ∀ j, j < n → j ≠ at_ → (putL C.2 (at_ : Int) [markB h 0]).2.sect j = C.2.sect j := fun j hj hh => by
    rw [c4 j hj]
    simp only [zipI, readL]
    rw [if_neg (by omega)]
  refine .inl ⟨by omega, rfl, u4, fun j hj h1 h2 => by dsimp only; rw [o4 j hj (by omega), o3 j hj (by omega)], ?_, ?_, fun z => ?_⟩
  · unfold Zm
    dsimp only
    rw [c4 _ (by omega)]
    simp only [zipI, readL]
    rw [if_pos trivial, markB_511]
    rfl
  · dsimp only
    exact ⟨by rw [o4 _ (by omega) (by omega)]; exact p3.1, by rw [o4 _ (by omega) (by omega)]; exact p3.2⟩
  · dsimp only
    rw [t4, t3, if_pos z, if_pos rfl]
/-- What Read answers of a page at home. -/
theorem read_out {v : Dv} {n h : Nat} (hu : Up v n) (hh : h + 2 ≤ n) : readR v h = (0, v.sect h ++ v.sect (h + 1)) := by
  have hn := hu.vn
  unfold readR
  rw [hu.d, if_neg (by simp), if_neg (fun hh => hh ⟨by omega, by omega⟩), show (h : Int) + 1 = ((h + 1 : Nat) : Int) by omega, hu.read (by omega), hu.read (by omega)]
theorem halves {bs : List UInt8} (hl : bs.length = 1024) : bs.take 512 ++ (bs.drop 512).take 512 = bs := by
  have : (bs.drop 512).take 512 = bs.drop 512 := List.take_of_length_le (by rw [List.length_drop]; omega)
  rw [this, List.take_append_drop]
theorem read_pg {v : Dv} {n h : Nat} {bs : List UInt8} (hu : Up v n) (hh : h + 2 ≤ n) (hp : Pg v h bs) (hl : bs.length = 1024) : readR v h = (0, bs) := by
  rw [read_out hu hh, hp.1, hp.2, halves hl]
end Go.Proofs.Ytalkkhocljehfaa

/- Layer 8's statements: pages, homes, the disk that they begin with. Conditions: none. -/
set_option linter.unusedVariables false
set_option linter.unusedSimpArgs false
namespace Go.Proofs.Ytalkkhocljehfaa
open Go Go.RowKit

/-- A page of the statements. -/
def pgB (f i : Nat) : UInt8 := UInt8.ofNat ((f + i / 512 * 7 + i / 100) % 256)
def pageB (f : Nat) : List UInt8 := (List.range 1024).map (pgB f)
theorem pageB_len (f : Nat) : (pageB f).length = 1024 := by unfold pageB; rw [List.length_map, List.length_range]
theorem pageB_get {f k : Nat} (h : k < (pageB f).length) : (pageB f)[k] = pgB f k := by simp only [pageB, List.getElem_map, List.getElem_range]
theorem pgB_val {f k : Nat} (hf : f < 256) (hk : k < 1024) : Value.int .u8 (IntKind.wrap .u8 ((IntKind.wrap .u8 (((f : Nat) : Int) + (IntKind.wrap .u8 ((IntKind.wrap .u8 (IntKind.wrap .i64 (Int.tdiv ((k : Nat) : Int) (512 : Int)))) * (7 : Int))))) + (IntKind.wrap .u8 (IntKind.wrap .i64 (Int.tdiv ((k : Nat) : Int) (100 : Int)))))) = bv (pgB f k) := by
  have e1 : Int.tdiv ((k : Nat) : Int) 512 = ((k / 512 : Nat) : Int) := rfl
  have e2 : Int.tdiv ((k : Nat) : Int) 100 = ((k / 100 : Nat) : Int) := rfl
  have hb : IntKind.wrap .u8 ((k / 512 : Nat) : Int) = ((k / 512 : Nat) : Int) := by rw [u8_mod, Nat.mod_eq_of_lt (by omega)]
  have hc : IntKind.wrap .u8 ((k / 100 : Nat) : Int) = ((k / 100 : Nat) : Int) := by rw [u8_mod, Nat.mod_eq_of_lt (by omega)]
  have hd : IntKind.wrap .u8 (((k / 512 : Nat) : Int) * 7) = ((k / 512 * 7 : Nat) : Int) := by
    rw [show ((k / 512 : Nat) : Int) * 7 = ((k / 512 * 7 : Nat) : Int) by rw [Int.natCast_mul]; rfl, u8_mod, Nat.mod_eq_of_lt (by omega)]
  rw [e1, e2, wrap_i64 (x := ((k / 512 : Nat) : Int)) (by omega) (by omega), wrap_i64 (x := ((k / 100 : Nat) : Int)) (by omega) (by omega), hb, hc, hd, ← Int.natCast_add, u8_mod, ← Int.natCast_add, u8_mod, Nat.mod_add_mod]
  exact bv_of (Nat.mod_lt _ (by omega))
theorem Bb.sl {w : World} {ow : Nat → Nat} {u b n : Nat} {bs : List UInt8} (h : Bb w ow u b bs) (hn : bs.length = n) : Sl w T_uint8 1 (some ⟨b, 0, none⟩) n n (bvs bs) := by
  obtain ⟨⟨cur, hb, hc⟩, _⟩ := h
  have hsz : cur.size = n := by rw [← Array.length_toList, hc, bvs_len, hn]
  exact ⟨by rw [bvs_len]; omega, Nat.le_refl _, .inr ⟨b, cur, rfl, hb, by omega, by rw [hc, List.take_of_length_le (by rw [bvs_len]; omega)]⟩⟩
set_option maxRecDepth 100000 in
theorem page_c {w : World} {f : Nat} {R : Ending → World → Prop} (hf : f < 256) (hK : ∀ b w', Sl w' T_uint8 1 (some ⟨b, 0, none⟩) 1024 1024 (bvs (pageB f)) → Kp no w w' → w.heap.size ≤ b → R (.returned (.slice (some ⟨b, 0, none⟩) 1024 1024)) w') :
    GoC Try.prog F_law08_page #[.int .u8 (f : Int)] w R := by
  refine S_law08_page ?_
  unfold W_law08_page
  refine make_u8 (n := 1024) (by omega) fun b w1 cur hb hcur k1 hbe => ⟨_, _, _, rfl, ?_⟩
  have B0 : Bb w1 (fun _ => 0) 0 b (List.replicate 1024 0) := ⟨⟨cur, hb, hcur⟩, rfl⟩
  refine loopN (fun st w' => ∃ k : Nat, k ≤ 1024 ∧ st.1 = (k : Int) ∧ Kp no w w' ∧ Bb w' (fun _ => 0) 0 b ((pageB f).take k ++ (List.replicate 1024 0).drop k)) (fun st _ => 1024 - st.1.toNat)
    ⟨0, by omega, rfl, k1, by rw [List.take_zero, List.drop_zero, List.nil_append]; exact B0⟩ ?_
  rintro ⟨k0, u⟩ w2 ⟨k, hk, hk0, k2, B2⟩ _
  dsimp only at hk0 ⊢
  subst hk0
  have hlen : (pageB f).length = (List.replicate 1024 (0 : UInt8)).length := by rw [pageB_len, List.length_replicate]
  refine cond_d (fun hlt => ?_) (fun hge => ?_)
  · have hk4 : k < 1024 := by omega
    rw [pgB_val hf hk4]
    refine ⟨by omega, by omega, by omega, by omega, _, rfl, ?_⟩
    refine B2.st (i := k) (by rw [List.length_append, List.length_take, List.length_drop, pageB_len, List.length_replicate]; omega) (by rw [Int.toNat_natCast, add_at, Nat.zero_add]) fun w3 B3 k3 => ?_
    rw [half_set (by rw [pageB_len]; exact hk4) hlen (pageB_get (by rw [pageB_len]; exact hk4))] at B3
    exact ⟨⟨k + 1, by omega, wk8 (n := 1024) hk4 (by omega), kp_blk k2 (by omega) k3, B3⟩, by rw [wk8 (n := 1024) hk4 (by omega)]; simp only [Int.toNat_natCast]; omega⟩
  · have hke : k = 1024 := by omega
    subst hke
    rw [List.take_of_length_le (by rw [pageB_len]; exact Nat.le_refl _), List.drop_eq_nil_of_le (by rw [List.length_replicate]; exact Nat.le_refl _), List.append_nil] at B2
    exact hK b w2 (B2.sl (pageB_len f)) k2 (by omega)

theorem tmod_rest {n m : Int} (hm : 0 < m) : Int.tmod (Int.tmod n m + m) m = n % m := by
  have h1 := Int.lt_tmod_of_pos n hm
  rw [Int.tmod_eq_emod_of_nonneg (by omega), Int.add_emod_right]
  have h2 := Int.tmod_add_mul_tdiv n m
  conv => rhs; rw [← h2]
  rw [Int.add_mul_emod_self_left]
/-- A home. -/
def homeN (n : Int) : Nat := 5 + 2 * (n % 4).toNat
theorem homeN_is (n : Int) : homeN n = 5 ∨ homeN n = 7 ∨ homeN n = 9 ∨ homeN n = 11 := by
  unfold homeN
  omega
theorem homeOf_c {w : World} {n : Int} {R : Ending → World → Prop} (h : R (.returned (.int .i64 (homeN n : Int))) w) : GoC Try.prog F_law08_homeOf #[.int .i64 n] w R := by
  refine S_law08_homeOf ?_
  unfold W_law08_homeOf
  have h1 := Int.lt_tmod_of_pos n (show (0 : Int) < 4 by omega)
  have h2 := Int.tmod_lt_of_pos n (show (0 : Int) < 4 by omega)
  have e2 : IntKind.wrap .i64 (Int.tmod n 4 + 4) = Int.tmod n 4 + 4 := wrap_i64 (by omega) (by omega)
  rw [e2, tmod_rest (by omega)]
  clear e2
  have e3 : IntKind.wrap .i64 (2 * (n % 4)) = 2 * (n % 4) := wrap_i64 (by omega) (by omega)
  rw [e3]
  clear e3
  have e4 : IntKind.wrap .i64 (5 + 2 * (n % 4)) = 5 + 2 * (n % 4) := wrap_i64 (by omega) (by omega)
  rw [e4]
  clear e4
  have e5 : ((homeN n : Nat) : Int) = 5 + 2 * (n % 4) := by unfold homeN; omega
  rw [e5] at h
  exact ⟨by omega, by omega, h⟩
theorem fstep_c {w : World} {n n2 n3 : Int} {a : Option Addr} {l c : Nat} {R : Ending → World → Prop} (h : ∀ w', Kp no w w' → R (.returned (.int .i64 (n % 12))) w') :
    GoC Try.prog F_law08_Fall_step #[.agg #[.int .i64 n, .slice a l c, .int .i64 n2, .int .i64 n3]] w R := by
  refine S_law08_Fall_step ?_
  unfold W_law08_Fall_step
  refine AlF.intro fun b1 w1 hb1e hb1 k1 _ => ⟨n, hb1.at rfl rfl, ?_⟩
  have h1 := Int.lt_tmod_of_pos n (show (0 : Int) < 12 by omega)
  have h2 := Int.tmod_lt_of_pos n (show (0 : Int) < 12 by omega)
  have e2 : IntKind.wrap .i64 (Int.tmod n 12 + 12) = Int.tmod n 12 + 12 := wrap_i64 (by omega) (by omega)
  rw [e2, tmod_rest (by omega)]
  clear e2
  exact ⟨by omega, by omega, h w1 k1⟩

theorem writeR_sm {v : Dv} {at_ h : Int} {bs : List UInt8} {m : Nat} (hs : v.Sm m) : (writeR v at_ h bs).2.Sm (m + 6) := by
  have s1 := putL_sm (chunkL 2 bs) (i := at_ + 1) hs
  have s2 := putL_sm [markB h.toNat 165] (i := at_) s1
  have s3 := putL_sm (chunkL 2 bs) (i := h) s2
  have s4 := putL_sm [markB h.toNat 0] (i := at_) s3
  rw [chunkL_len] at s1 s2 s3 s4
  simp only [List.length_cons, List.length_nil] at s2 s3 s4
  unfold writeR
  repeat' split
  · exact hs.mono (by omega)
  · exact hs.mono (by omega)
  · exact hs.mono (by omega)
  · exact s1.mono (by omega)
  · exact s2.mono (by omega)
  · exact s3.mono (by omega)
  · exact s4.mono (by omega)
theorem finR_sm {v : Dv} {at_ : Int} {m : Nat} (hs : v.Sm m) : (finR v at_).2.Sm (m + 3) := by
  unfold finR finS
  repeat' split
  · exact hs.mono (by omega)
  · exact hs.mono (by omega)
  · exact hs.mono (by omega)
  · exact hs.mono (by omega)
  · exact (putL_sm _ hs).mono (by simp)
  · exact (putL_sm _ (putL_sm _ hs)).mono (by simp)
  · exact (putL_sm _ (putL_sm _ hs)).mono (by simp)
theorem Up.sm {v : Dv} {n m m' : Nat} (h : Up v n) (hs : v.Sm m) : v.Sm m' := ⟨by rw [h.q]; simp, hs.k⟩

/-- The disk of the statements; its pages. -/
structure Sto (v : Dv) (P : Nat → List UInt8) : Prop where
  up : Up v 13
  z : Zm v 2
  a0 : v.sect 0 = List.replicate 512 0
  a1 : v.sect 1 = List.replicate 512 0
  pg : ∀ h, (h = 5 ∨ h = 7 ∨ h = 9 ∨ h = 11) → Pg v h (P h)
theorem sect_zero (n j : Nat) (h : j < n) : (Dv.new n).sect j = List.replicate 512 0 := by
  unfold Dv.sect Dv.new
  have : (j + 1) * 512 ≤ n * 512 := Nat.mul_le_mul_right _ h
  dsimp only
  rw [List.drop_replicate, List.take_replicate]
  congr 1
  omega
theorem up_new {n : Nat} (h1 : 1 ≤ n) (h2 : n ≤ 8192) : Up (Dv.new n) n := by
  have hl : (Dv.new n).img.length = n * 512 := List.length_replicate ..
  refine ⟨?_, rfl, rfl, Dv.n_of hl⟩
  rw [Dv.new_load]
  exact Dv.Ok.load (List.length_replicate ..) h1 h2
theorem zm_new {n : Nat} (h : 2 < n) : Zm (Dv.new n) 2 := by
  unfold Zm
  rw [sect_zero n 2 h, List.getD_eq_getElem?_getD, List.getElem?_replicate]
  rfl
theorem sm_new (n : Nat) : (Dv.new n).Sm 0 := ⟨Nat.le_refl _, by simp [Dv.new]⟩
theorem slT_bs {w w' : World} {ow : Nat → Nat} {b t u n : Nat} {bs : List UInt8} (s : Sl w' T_uint8 1 (some ⟨b, 0, none⟩) n n (bvs bs)) (hb : w.heap.size ≤ b) (hu : Td t u) (hn : n ≤ 140737488355328) : Bs w' (ext ow w.heap.size u) t (some ⟨b, 0, none⟩) bs := by
  have e := s.ln
  refine ⟨fun i v hv => ?_, by omega, fun h => by cases h⟩
  obtain ⟨b', o, ha, hc⟩ := s.rd i v hv
  cases ha
  exact ⟨b, 0, rfl, hc, by rw [ext_new hb]; exact hu⟩

set_option maxHeartbeats 1000000 in
theorem store_c {w : World} {ow : Nat → Nat} {t : Nat} {R : Ending → World → Prop}
    (hK : ∀ b w' ow' v, DX w' ow' t b v → v.Sm 0 → Sto v pageB → v.step = 0 → Fro (Td t) w ow w' ow' → w.heap.size ≤ b → R (.returned (.tuple #[.pointer (some ⟨b, 0, none⟩), .bool true])) w') : GoC Try.prog F_law08_store #[] w R := by
  refine S_law08_store ?_
  unfold W_law08_store
  refine new_c (ow := ow) (n := 13) (by omega) (by omega) t fun b w1 ow1 h1 k1 ag1 hb1 => ⟨_, _, rfl, cond_f rfl (cond_f rfl ?_)⟩
  have F1 : Fro (Td t) w ow w1 ow1 := Fro.new k1 ag1
  refine loopN (fun st w' => ∃ j : Nat, j ≤ 4 ∧ st.1 = ((5 + 2 * j : Nat) : Int) ∧ ∃ ow' v, DX w' ow' t b v ∧ v.Sm 0 ∧ v.step = 0 ∧ Fro (Td t) w ow w' ow' ∧ Up v 13 ∧ Zm v 2 ∧ v.sect 0 = List.replicate 512 0 ∧ v.sect 1 = List.replicate 512 0 ∧ ∀ i, i < j → Pg v (5 + 2 * i) (pageB (5 + 2 * i))) (fun st _ => 13 - st.1.toNat)
    ⟨0, by omega, rfl, ow1, Dv.new 13, h1, sm_new 13, rfl, F1, up_new (by omega) (by omega), zm_new (by omega), sect_zero 13 0 (by omega), sect_zero 13 1 (by omega), fun i hi => by omega⟩ ?_
  rintro ⟨j0, u⟩ w2 ⟨j, hj, hj0, ow2, v, h2, sm2, st2, F2, u2, z2, a0, a1, pg⟩ _
  dsimp only at hj0 ⊢
  subst hj0
  refine cond_d (fun hlt => ?_) (fun hge => ?_)
  · have e8 : IntKind.wrap .u8 ((5 + 2 * j : Nat) : Int) = ((5 + 2 * j : Nat) : Int) := by rw [u8_mod, Nat.mod_eq_of_lt (by omega)]
    have e9 : IntKind.wrap .i64 (((5 + 2 * j : Nat) : Int) + 2) = ((5 + 2 * (j + 1) : Nat) : Int) := by rw [wrap_i64 (by omega) (by omega)]; omega
    rw [e8, e9]
    refine page_c (by omega) fun b3 w3 s3 k3 hb3 => ⟨_, _, _, rfl, ?_⟩
    have f3 : Fro (fun _ => True) w2 ow2 w3 (ext ow2 w2.heap.size (t + 5)) := Fro.of_kp0 (t + 5) k3
    have B3 := slT_bs (ow := ow2) (t := t) (u := t + 5) s3 hb3 ⟨by omega, by omega, by omega⟩ (by omega)
    have h3 := h2.fr f3 trivial trivial trivial trivial
    have F3 := F2.trans (f3.mono fun u (_ : Td t u) => trivial)
    generalize ext ow2 w2.heap.size (t + 5) = ow3 at *
    refine twrite_c h3 (u2.sm sm2) B3 (pageB_len _) (Nat.le_refl _) fun e w4 ow4 h4 f4 he _ => ⟨_, rfl, ?_⟩
    rcases write_out (at_ := 2) (h := 5 + 2 * j) (bs := pageB (5 + 2 * j)) u2 (by omega) (by omega) (pageB_len _) z2 with ⟨_, w0, wu, wo, wz, wp, ws, _⟩ | ⟨hh, _⟩
    · rw [show ((2 : Nat) : Int) = 2 from rfl] at w0 wu wo wz wp ws
      rw [w0] at he
      rcases he with ⟨_, rfl⟩ | ⟨hne, _⟩
      · have sm4 := writeR_sm (at_ := 2) (h := ((5 + 2 * j : Nat) : Int)) (bs := pageB (5 + 2 * j)) sm2
        refine .inl ⟨rfl, cond_f rfl ⟨⟨j + 1, by omega, rfl, ow4, _, h4, wu.sm sm4, ws st2, F3.trans f4, wu, wz, by rw [wo 0 (by omega) (by omega) (by omega)]; exact a0, by rw [wo 1 (by omega) (by omega) (by omega)]; exact a1, fun i hi => ?_⟩, by simp only [Int.toNat_natCast]; omega⟩⟩
        by_cases hij : i = j
        · subst hij
          exact wp
        · exact wo.pg (pg i (by omega)) (by omega) (by omega) (by omega)
      · exact absurd rfl hne
    · omega
  · have hj4 : j = 4 := by omega
    subst hj4
    refine hK b w2 ow2 v h2 sm2 ⟨u2, z2, a0, a1, fun h hh => ?_⟩ st2 F2 hb1
    rcases hh with rfl | rfl | rfl | rfl
    · exact pg 0 (by omega)
    · exact pg 1 (by omega)
    · exact pg 2 (by omega)
    · exact pg 3 (by omega)
end Go.Proofs.Ytalkkhocljehfaa

/- Layer 8's statements: the first line; the other pages. Conditions: none. -/
set_option linter.unusedVariables false
set_option linter.unusedSimpArgs false
namespace Go.Proofs.Ytalkkhocljehfaa
open Go Go.RowKit

theorem conv_c {w : World} {a : Option Addr} {l c : Nat} {bs : List UInt8} {K : Value → World → Prop} (s : Sl w T_uint8 1 a l c (bvs bs)) (hK : ∀ z : ByteArray, z.toList = bs → K (.string z) w) : RunF Try.prog (convert T_s_uint8 T_string (.slice a l c)) w K :=
  convert_bytes (e := T_uint8) (by kernel_rfl) (by kernel_rfl) (by kernel_rfl) s.rd s.ln (sl_some' s) hK
theorem toKp {w w' : World} {ow' : Nat → Nat} (f : Fro (Td 0) w (fun _ => 10) w' ow') : Kp no w w' := f.kp.mono fun j _ hj => (hj ⟨by omega, by omega, by omega⟩).elim
set_option maxRecDepth 100000 in
set_option maxHeartbeats 2000000 in
theorem first_c {w : World} {R : Ending → World → Prop} (hK : ∀ w', Kp no w w' → R (.returned (.bool true)) w') : GoC Try.prog F_law08_first #[] w R := by
  refine S_law08_first ?_
  unfold W_law08_first
  refine new_c (ow := fun _ => 10) (n := 9) (by omega) (by omega) 0 fun b w1 ow1 h1 k1 ag1 hb1 => ⟨_, _, rfl, cond_f rfl (cond_f rfl ?_)⟩
  have F1 : Fro (Td 0) w (fun _ => 10) w1 ow1 := Fro.new k1 ag1
  refine page_c (f := 97) (by omega) fun b2 w2 s2 k2 _ => ⟨_, _, _, rfl, ?_⟩
  refine twrite_nil fun e3 w3 k3 he3 _ => ⟨_, rfl, ltold_c (z := zW) he3 ⟨_, rfl, cond_f (by decide) ?_⟩⟩
  have k13 := k2.trans0 k3
  refine page_c (f := 97) (by omega) fun b4 w4 s4 k4 hb4 => ⟨_, _, _, rfl, ?_⟩
  have k14 := k13.trans0 k4
  have f4 : Fro (fun _ => True) w1 ow1 w4 (ext ow1 w1.heap.size 5) := Fro.of_kp0 5 k14
  have B4 := slT_bs (w := w1) (ow := ow1) (t := 0) (u := 5) s4 (by have := k13.size; omega) ⟨by omega, by omega, by omega⟩ (by omega)
  have h4 := h1.fr f4 trivial trivial trivial trivial
  have F4 := F1.trans (f4.mono fun u (_ : Td 0 u) => trivial)
  generalize ext ow1 w1.heap.size 5 = ow4 at *
  have u0 := up_new (n := 9) (by omega) (by omega)
  have e4 : writeR (Dv.new 9) 2 4 (pageB 97) = (4, Dv.new 9) := by
    unfold writeR
    rw [u0.d, if_neg (by simp), if_pos (by unfold mayP; omega)]
  refine twrite_c h4 ((sm_new 9).mono (by omega)) B4 (pageB_len _) (Nat.le_refl _) fun e5 w5 ow5 h5 f5 he5 _ => ⟨_, rfl, ?_⟩
  rw [e4] at h5 he5
  refine ltold_c (z := zW) he5 ⟨_, rfl, cond_f (by decide) ?_⟩
  refine calls_c h5 ⟨_, rfl, cond_f rfl ?_⟩
  have F5 := F4.trans f5
  refine page_c (f := 97) (by omega) fun b6 w6 s6 k6 hb6 => ⟨_, _, _, rfl, ?_⟩
  have f6 : Fro (fun _ => True) w5 ow5 w6 (ext ow5 w5.heap.size 5) := Fro.of_kp0 5 k6
  have B6 := slT_bs (w := w5) (ow := ow5) (t := 0) (u := 5) s6 hb6 ⟨by omega, by omega, by omega⟩ (by omega)
  have h6 := h5.fr f6 trivial trivial trivial trivial
  have F6 := F5.trans (f6.mono fun u (_ : Td 0 u) => trivial)
  generalize ext ow5 w5.heap.size 5 = ow6 at *
  rcases write_out (at_ := 2) (h := 5) (bs := pageB 97) u0 (by omega) (by omega) (pageB_len _) (zm_new (by omega)) with ⟨_, w0, wu, wo, wz, wp, ws, wc⟩ | ⟨hh, _⟩
  rotate_left
  · have : (Dv.new 9).step = 0 := rfl
    omega
  have hc := wc (Int.le_refl _) (by show (0 : Int) < _; omega)
  have sm7 := wu.sm (m' := 0) (writeR_sm (at_ := ((2 : Nat) : Int)) (h := ((5 : Nat) : Int)) (bs := pageB 97) (sm_new 9))
  refine twrite_c h6 ((sm_new 9).mono (by omega)) B6 (pageB_len _) (Nat.le_refl _) fun e7 w7 ow7 h7 f7 he7 _ => ⟨_, rfl, ?_⟩
  rw [show ((2 : Nat) : Int) = 2 from rfl, show ((5 : Nat) : Int) = 5 from rfl] at *
  rw [w0] at he7
  have e7 := err0 he7
  subst e7
  have rp := read_pg (h := 5) wu (by omega) wp (pageB_len _)
  have fz := fin_zero wu (at_ := 2) (by omega) wz
  rw [show ((2 : Nat) : Int) = 2 from rfl] at fz
  rw [show ((5 : Nat) : Int) = 5 from rfl] at rp
  generalize (writeR (Dv.new 9) 2 5 (pageB 97)).2 = v at *
  refine tread_c h7 (sm7.mono (by omega)) fun a8 l8 c8 e8 w8 k8 s8 f8 he8 _ => ⟨_, _, _, _, rfl, ?_⟩
  rw [rp] at s8 he8
  have e8' := err0 he8
  subst e8'
  have fr8 : Fro (fun _ => True) w7 ow7 w8 (ext ow7 w7.heap.size 5) := Fro.of_kp0 5 k8
  have S8 : SlT w8 (ext ow7 w7.heap.size 5) T_uint8 1 a8 l8 c8 (bvs (pageB 97)) 5 := ⟨s8, fun j hj => ext_new (f8 j hj)⟩
  have h8 := h7.fr fr8 trivial trivial trivial trivial
  have F8 := (F6.trans f7).trans (fr8.mono fun u (_ : Td 0 u) => trivial)
  generalize ext ow7 w7.heap.size 5 = ow8 at *
  refine tfinish_c h8 (sm7.mono (by omega)) fun e9 w9 ow9 h9 f9 he9 _ => ⟨_, _, rfl, ?_⟩
  rw [fz] at h9 he9 ⊢
  have e9' := err0 he9
  subst e9'
  have F9 := F8.trans f9
  have k9 := toKp F9
  have S9 := (S8.fr f9 ⟨by omega, by omega, by omega⟩).sl
  have kd : Kp no w9 w9.drew := Kp.drew w9 1
  refine ⟨fun w' => Kp no w9 w', kd, .inl ⟨rfl, cond_t rfl (.inl ⟨rfl, cond_t rfl (.inl ⟨rfl, cond_t rfl (cond_t rfl ⟨?_, ?_⟩)⟩)⟩)⟩⟩
  · refine conv_c (S9.kp0 kd) fun z1 hz1 => ⟨_, rfl, kd, ?_⟩
    refine page_c (f := 97) (by omega) fun b10 w10 s10 k10 hb10 => ⟨_, _, _, rfl, kd.trans0 k10, ?_⟩
    refine conv_c s10 fun z2 hz2 => ⟨_, rfl, kd.trans0 k10, cond_t (by rw [hz1, hz2]; exact beq_self_eq_true _) ?_⟩
    refine calls_c (h9.kp0 (kd.trans0 k10)) ⟨_, rfl, kd.trans0 k10, ?_⟩
    rw [hc]
    exact hK _ ((k9.trans0 kd).trans0 k10)
  · refine page_c (f := 97) (by omega) fun b10 w10 s10 k10 hb10 => ⟨_, _, _, rfl, kd.trans0 k10, ?_, ?_⟩
    · refine conv_c (S9.kp0 (kd.trans0 k10)) fun z1 hz1 => ⟨_, rfl, kd.trans0 k10, ?_⟩
      refine conv_c s10 fun z2 hz2 => ⟨_, rfl, kd.trans0 k10, cond_t (by rw [hz1, hz2]; exact beq_self_eq_true _) ?_⟩
      refine calls_c (h9.kp0 (kd.trans0 k10)) ⟨_, rfl, kd.trans0 k10, ?_⟩
      rw [hc]
      exact hK _ ((k9.trans0 kd).trans0 k10)
    · refine conv_c s10 fun z2 hz2 => ⟨_, rfl, kd.trans0 k10, ?_⟩
      refine conv_c (S9.kp0 (kd.trans0 k10)) fun z1 hz1 => ⟨_, rfl, kd.trans0 k10, cond_t (by rw [hz1, hz2]; exact beq_self_eq_true _) ?_⟩
      refine calls_c (h9.kp0 (kd.trans0 k10)) ⟨_, rfl, kd.trans0 k10, ?_⟩
      rw [hc]
      exact hK _ ((k9.trans0 kd).trans0 k10)

/-- All but one home are what they were laid as. -/
structure Rest (v : Dv) (home : Nat) : Prop where
  up : Up v 13
  a0 : v.sect 0 = List.replicate 512 0
  a1 : v.sect 1 = List.replicate 512 0
  pg : ∀ h, (h = 5 ∨ h = 7 ∨ h = 9 ∨ h = 11) → h ≠ home → Pg v h (pageB h)
set_option maxRecDepth 100000 in
set_option maxHeartbeats 2000000 in
theorem others_c {w : World} {ow : Nat → Nat} {t b home : Nat} {v : Dv} {R : Ending → World → Prop} (h : DX w ow t b v) (hs : v.Sm 1000000) (hr : Rest v home) (hK : ∀ w', Kp no w w' → R (.returned (.bool true)) w') :
    GoC Try.prog F_law08_others #[.pointer (some ⟨b, 0, none⟩), .int .i64 (home : Int)] w R := by
  refine S_law08_others ?_
  unfold W_law08_others
  refine loopN (fun st w' => ∃ j : Nat, j ≤ 4 ∧ st.1 = ((5 + 2 * j : Nat) : Int) ∧ Kp no w w') (fun st _ => 13 - st.1.toNat) ⟨0, by omega, rfl, Kp.refl _ _⟩ ?_
  rintro ⟨j0, u⟩ w1 ⟨j, hj, hj0, k1⟩ _
  dsimp only at hj0 ⊢
  subst hj0
  refine cond_d (fun hlt => ?_) (fun hge => ?_)
  · have e8 : IntKind.wrap .u8 ((5 + 2 * j : Nat) : Int) = ((5 + 2 * j : Nat) : Int) := by rw [u8_mod, Nat.mod_eq_of_lt (by omega)]
    have e9 : IntKind.wrap .i64 (((5 + 2 * j : Nat) : Int) + 2) = ((5 + 2 * (j + 1) : Nat) : Int) := by rw [wrap_i64 (by omega) (by omega)]; omega
    rw [e8, e9]
    have ro := read_out (h := 5 + 2 * j) hr.up (by omega)
    refine tread_c (h.kp0 k1) hs fun a2 l2 c2 e2 w2 k2 s2 f2 he2 _ => ⟨_, _, _, _, rfl, ?_⟩
    have e2' : e2 = .nilIface := by rw [ro] at he2; exact err0 he2
    subst e2'
    have kd : Kp no w2 w2.drew := Kp.drew w2 1
    have nx : ∀ w', Kp no w2 w' → (∃ j', j' ≤ 4 ∧ ((5 + 2 * (j + 1) : Nat) : Int) = ((5 + 2 * j' : Nat) : Int) ∧ Kp no w w') ∧ 13 - Int.toNat ((5 + 2 * (j + 1) : Nat) : Int) < 13 - Int.toNat ((5 + 2 * j : Nat) : Int) := fun w' k => ⟨⟨j + 1, by omega, rfl, (k1.trans0 k2).trans0 k⟩, by simp only [Int.toNat_natCast]; omega⟩
    refine ⟨fun w' => Kp no w2 w', kd, .inl ⟨rfl, cond_f rfl (cond_ne (fun hne => ?_) (fun he => ⟨nx _ kd, nx _ kd, nx _ kd⟩))⟩⟩
    have pg := hr.pg (5 + 2 * j) (by omega) (by omega)
    rw [ro, pg.1, pg.2, halves (pageB_len _)] at s2
    refine ⟨?_, ?_⟩
    · refine conv_c (s2.kp0 kd) fun z1 hz1 => ⟨_, rfl, kd, ?_⟩
      refine page_c (by omega) fun b10 w10 s10 k10 hb10 => ⟨_, _, _, rfl, kd.trans0 k10, ?_⟩
      exact conv_c s10 fun z2 hz2 => ⟨_, rfl, kd.trans0 k10, cond_f (by rw [hz1, hz2, beq_self_eq_true]; rfl) (nx _ (kd.trans0 k10))⟩
    · refine page_c (by omega) fun b10 w10 s10 k10 hb10 => ⟨_, _, _, rfl, kd.trans0 k10, ?_, ?_⟩
      · refine conv_c (s2.kp0 (kd.trans0 k10)) fun z1 hz1 => ⟨_, rfl, kd.trans0 k10, ?_⟩
        exact conv_c s10 fun z2 hz2 => ⟨_, rfl, kd.trans0 k10, cond_f (by rw [hz1, hz2, beq_self_eq_true]; rfl) (nx _ (kd.trans0 k10))⟩
      · refine conv_c s10 fun z2 hz2 => ⟨_, rfl, kd.trans0 k10, ?_⟩
        exact conv_c (s2.kp0 (kd.trans0 k10)) fun z1 hz1 => ⟨_, rfl, kd.trans0 k10, cond_f (by rw [hz1, hz2, beq_self_eq_true]; rfl) (nx _ (kd.trans0 k10))⟩
  · have ro := read_out (h := 0) hr.up (by omega)
    rw [show ((0 : Nat) : Int) = 0 from rfl, hr.a0, hr.a1, List.replicate_append_replicate] at ro
    refine tread_c (h.kp0 k1) hs fun a2 l2 c2 e2 w2 k2 s2 f2 he2 _ => ⟨_, _, _, _, rfl, ?_⟩
    rw [ro] at he2 s2
    have e2' := err0 he2
    subst e2'
    have kd : Kp no w2 w2.drew := Kp.drew w2 1
    have nx : ∀ w' (z1 z2 : ByteArray), Kp no w2 w' → z1.toList = List.replicate (512 + 512) 0 → z2.toList = List.replicate 1024 0 → R (.returned (.bool (ByteArray.toList z1 == ByteArray.toList z2))) w' := fun w' z1 z2 k h1 h2 => by
      rw [h1, h2, beq_self_eq_true]
      exact hK _ ((k1.trans0 k2).trans0 k)
    have nx' : ∀ w' (z1 z2 : ByteArray), Kp no w2 w' → z1.toList = List.replicate (512 + 512) 0 → z2.toList = List.replicate 1024 0 → R (.returned (.bool (ByteArray.toList z1 == ByteArray.toList z2))) w' := nx
    have mk : ∀ {w' : World} {b' : Nat} {cur : Array Value}, Blk w' b' cur T_uint8 → cur.toList = bvs (List.replicate 1024 0) → Sl w' T_uint8 1 (some ⟨b', 0, none⟩) 1024 1024 (bvs (List.replicate 1024 0)) := fun hb hc =>
      Bb.sl (ow := fun _ => 0) (u := 0) ⟨⟨_, hb, hc⟩, rfl⟩ (List.length_replicate ..)
    refine ⟨fun w' => Kp no w2 w', kd, .inl ⟨rfl, cond_t rfl ⟨?_, ?_⟩⟩⟩
    · refine conv_c (s2.kp0 kd) fun z1 hz1 => ⟨_, rfl, kd, ?_⟩
      refine make_u8 (n := 1024) (by omega) fun b3 w3 cur hb3 hcur k3 hb3e => ⟨_, _, _, rfl, kd.trans0 k3, ?_⟩
      exact conv_c (mk hb3 hcur) fun z2 hz2 => ⟨_, rfl, kd.trans0 k3, nx _ _ _ (kd.trans0 k3) hz1 hz2⟩
    · refine make_u8 (n := 1024) (by omega) fun b3 w3 cur hb3 hcur k3 hb3e => ⟨_, _, _, rfl, kd.trans0 k3, ?_, ?_⟩
      · refine conv_c (s2.kp0 (kd.trans0 k3)) fun z1 hz1 => ⟨_, rfl, kd.trans0 k3, ?_⟩
        exact conv_c (mk hb3 hcur) fun z2 hz2 => ⟨_, rfl, kd.trans0 k3, nx _ _ _ (kd.trans0 k3) hz1 hz2⟩
      · refine conv_c (mk hb3 hcur) fun z2 hz2 => ⟨_, rfl, kd.trans0 k3, ?_⟩
        exact conv_c (s2.kp0 (kd.trans0 k3)) fun z1 hz1 => ⟨_, rfl, kd.trans0 k3, nx _ _ _ (kd.trans0 k3) hz1 hz2⟩
end Go.Proofs.Ytalkkhocljehfaa

/- Layer 8's falls, as they are handed in. Conditions: none. -/
set_option linter.unusedVariables false
set_option linter.unusedSimpArgs false
namespace Go.Proofs.Ytalkkhocljehfaa
open Go Go.RowKit Go.ChangeShapes Go.WideShapes

/-- A fall. -/
structure FallA where
  n : Int
  la : Option Addr
  lc : Nat
  keep : List Nat
  torn : Int
  off : Int
def FallA.cs (o : FallA) : List Value := [.int .i64 o.n, .slice o.la o.keep.length o.lc, .int .i64 o.torn, .int .i64 o.off]
theorem FallA.cs_len (o : FallA) : o.cs.length = 4 := rfl
def fFA : List FallA → List Value := flatV FallA.cs
instance : Inhabited FallA := ⟨⟨0, none, 0, [], 0, 0⟩⟩
def FallA.Ok (W : World) (o : FallA) : Prop := LossOk W o.la o.keep.length o.keep o.torn o.off
/-- Its step. -/
def FallA.st (o : FallA) : Int := o.n % 12
theorem fall_open' {W : World} {cs : List Value} (h : ClW Try.prog W T_quotalaw08_Fall cs) : ∃ x : FallA, cs = x.cs ∧ x.Ok W := by
  have hl := h.cl.slen (s := 4) (by kernel_rfl)
  have f0 := h.cl.field 0 (e := T_int) (o := 0) (s := 1) (by kernel_rfl)
  have f1 := h.field 1 (e := T_api_Loss) (o := 1) (s := 3) (by kernel_rfl)
  match cs, hl with
  | [x0, x1, x2, x3], _ =>
    simp only [List.drop_zero, List.drop_succ_cons, List.take_succ_cons, List.take_zero] at f0 f1
    obtain ⟨k, h0, w0⟩ := f0.int (k := .i64) (by kernel_rfl)
    obtain ⟨a, l, c, keep, torn, off, h5, hL⟩ := loss_open' f1
    cases h0; cases h5
    have hn := hL.n
    subst hn
    exact ⟨⟨k, a, c, keep, torn, off⟩, rfl, hL⟩
theorem fall_open {W : World} {v : Value} (h : ArgW Try.prog W T_quotalaw08_Fall v) : ∃ x : FallA, v = .agg #[.int .i64 x.n, .slice x.la x.keep.length x.lc, .int .i64 x.torn, .int .i64 x.off] ∧ x.Ok W := by
  obtain ⟨cells, rfl, _⟩ := h.arg.struct (s := 4) (by kernel_rfl)
  have hw := h.clw
  obtain ⟨x, he, hp⟩ := fall_open' (cs := cells.toList) hw
  refine ⟨x, ?_, hp⟩
  congr 1
  cases cells
  exact congrArg List.toArray he
structure FallsOk (W : World) (a : Option Addr) (l c : Nat) (L : List FallA) : Prop where
  n : L.length = l
  rd : Rd W a (fFA L)
  ok : ∀ x ∈ L, x.Ok W
theorem rd_flatF {W : World} {a : Option Addr} {L : List FallA} (h : ∀ (i : Nat) (hi : i < L.length) (q : Nat) (v : Value), (L[i]).cs[q]? = some v → ∃ b o, a = some ⟨b, o, none⟩ ∧ W.cell? ⟨b, o + i * 4 + q, none⟩ = some v) : Rd W a (fFA L) := by
  intro j v hv
  have hj : j < L.length * 4 := by have := (List.getElem?_eq_some_iff.1 hv).1; rwa [fFA, flatV_len FallA.cs_len] at this
  have hq : j % 4 < 4 := Nat.mod_lt _ (by omega)
  have hi : j / 4 < L.length := by omega
  have e : j / 4 * 4 + j % 4 = j := by omega
  have hg := flatV_get FallA.cs_len L (j / 4) hi (j % 4) hq
  rw [e] at hg
  unfold fFA at hv
  rw [hv] at hg
  obtain ⟨b, o, ha, hc⟩ := h (j / 4) hi (j % 4) v hg.symm
  refine ⟨b, o, ha, ?_⟩
  rwa [Nat.add_assoc, e] at hc
theorem falls_open {W : World} {v : Value} (h : ArgW Try.prog W T_s_quotalaw08_Fall v) : ∃ a l c L, v = .slice a l c ∧ FallsOk W a l c L := by
  obtain ⟨a, l, c, rfl, hc⟩ := h.arg.slice (e := T_quotalaw08_Fall) (by kernel_rfl)
  have hw : ClW Try.prog W T_s_quotalaw08_Fall [.slice a l c] := h.clw
  obtain ⟨css, h1, h2⟩ := hw.cells (e := T_quotalaw08_Fall) (s := 4) (by kernel_rfl) (by kernel_rfl) (by omega)
  have each : ∀ i, i < l → ∃ x : FallA, css i = x.cs ∧ x.Ok W := fun i hi => fall_open' (h1 i hi)
  obtain ⟨f, hf⟩ := Deep.choose_lt (α := FallA) (p := fun i x => css i = x.cs ∧ x.Ok W) each
  refine ⟨a, l, c, (List.range l).map f, rfl, by simp, rd_flatF fun i hi q v hv => ?_, fun x hx => ?_⟩
  · have hil : i < l := by simpa using hi
    have e : ((List.range l).map f)[i] = f i := by simp
    rw [e] at hv
    exact h2 i hil q v (by rw [(hf i hil).1]; exact hv)
  · simp only [List.mem_map, List.mem_range] at hx
    obtain ⟨i, hi, rfl⟩ := hx
    exact (hf i hi).2
/-- A fall's cells, in a list of falls. -/
theorem fallI {w : World} {a : Option Addr} {L : List FallA} (h : Rd w a (fFA L)) {i : Nat} (hi : i < L.length) : ∃ b o, a = some ⟨b, o, none⟩ ∧ ∀ q, q < 4 → ∀ v, (L[i]).cs[q]? = some v → w.cell? ⟨b, o + i * 4 + q, none⟩ = some v := by
  have hg := fun q hq => flatV_get FallA.cs_len L i hi q hq
  obtain ⟨b, o, ha, hc⟩ := h (i * 4) (.int .i64 (L[i]).n) (by unfold fFA; exact hg 0 (by omega))
  refine ⟨b, o, ha, fun q hq v hv => ?_⟩
  obtain ⟨b', o', ha', hc'⟩ := h (i * 4 + q) v (by unfold fFA; rw [hg q hq]; exact hv)
  rw [ha] at ha'
  cases ha'
  rw [Nat.add_assoc]
  exact hc'
theorem fallCells {w : World} {b o i : Nat} {y : FallA} (fc : ∀ q, q < 4 → ∀ v, y.cs[q]? = some v → w.cell? ⟨b, o + i * 4 + q, none⟩ = some v) :
    w.cell? (Addr.add ⟨b, o, none⟩ (Int.toNat (i : Int) * 4)) = some (.int .i64 y.n) ∧ w.cell? (Addr.add (Addr.add ⟨b, o, none⟩ (Int.toNat (i : Int) * 4)) 1) = some (.slice y.la y.keep.length y.lc) ∧
    w.cell? (Addr.add (Addr.add ⟨b, o, none⟩ (Int.toNat (i : Int) * 4)) 2) = some (.int .i64 y.torn) ∧ w.cell? (Addr.add (Addr.add ⟨b, o, none⟩ (Int.toNat (i : Int) * 4)) 3) = some (.int .i64 y.off) ∧ True := by
  rw [Int.toNat_natCast, add_at]
  exact ⟨fc 0 (by omega) _ rfl, fc 1 (by omega) _ rfl, fc 2 (by omega) _ rfl, fc 3 (by omega) _ rfl, trivial⟩
theorem fallCellsL {w : World} {b o i : Nat} {y : FallA} (fc : ∀ q, q < 4 → ∀ v, y.cs[q]? = some v → w.cell? ⟨b, o + i * 4 + q, none⟩ = some v) :
    w.cell? (Addr.add (Addr.add ⟨b, o, none⟩ (Int.toNat (i : Int) * 4)) 1) = some (.slice y.la y.keep.length y.lc) ∧
    w.cell? (Addr.add (Addr.add (Addr.add ⟨b, o, none⟩ (Int.toNat (i : Int) * 4)) 1) 1) = some (.int .i64 y.torn) ∧ w.cell? (Addr.add (Addr.add (Addr.add ⟨b, o, none⟩ (Int.toNat (i : Int) * 4)) 1) 2) = some (.int .i64 y.off) ∧ True := by
  rw [Int.toNat_natCast, add_at]
  exact ⟨fc 1 (by omega) _ rfl, fc 2 (by omega) _ rfl, fc 3 (by omega) _ rfl, trivial⟩
/-- A loss that was handed in. -/
theorem FallA.Ok.ls {W w : World} {ow : Nat → Nat} {x : FallA} (h : x.Ok W) (o : Old W w ow) : Ls w ow 100 x.la x.keep :=
  ⟨(o.rdT h.rd).mono fun u hu => ⟨by omega, by omega, by omega⟩, h.lt, by have := h.ln; omega, h.nn⟩
theorem FallA.Ok.k {W : World} {x : FallA} (h : x.Ok W) : x.keep.length * 8 ≤ 140737488355328 := by have := h.ln; omega
theorem FallA.st_bd (x : FallA) : 0 ≤ x.st ∧ x.st ≤ 11 := by unfold FallA.st; omega
/-- Armed. -/
def Dv.armed (v : Dv) (x : FallA) : Dv := { v with step := x.st, keep := x.keep, torn := x.torn, off := x.off }
theorem Up.arm {v : Dv} {n : Nat} (h : Up v n) (x : FallA) : v.arm x.st x.keep x.torn x.off = (0, v.armed x) := by
  have := x.st_bd
  unfold Dv.arm
  rw [if_neg (by rw [h.d]; simp), if_neg (by omega)]
  rfl
theorem Up.armed {W : World} {v : Dv} {n : Nat} {x : FallA} (h : Up v n) (hx : x.Ok W) : Up (v.armed x) n := by
  have := x.st_bd
  have ho := h.ok.arm (step := x.st) (keep := x.keep) x.torn x.off (by omega) hx.lt
  rw [h.arm x] at ho
  exact ⟨ho, h.d, h.q, h.vn⟩
theorem Up.armed_sm {W : World} {v : Dv} {n m : Nat} {x : FallA} (h : Up v n) (hx : x.Ok W) : (v.armed x).Sm m := ⟨by show v.q.length ≤ m; rw [h.q]; simp, hx.k⟩
end Go.Proofs.Ytalkkhocljehfaa

/- TwinOldOrNew: wherever a Write is cut off, and the Finishes behind it: the old page or the new one. Conditions: none. -/
set_option linter.unusedVariables false
set_option linter.unusedSimpArgs false
namespace Go.Proofs.Ytalkkhocljehfaa
open Go Go.RowKit Go.ChangeShapes Go.WideShapes

def FallA.blk (x : FallA) (w : World) (b : Nat) : Prop := Blk w b #[.int .i64 x.n, .slice x.la x.keep.length x.lc, .int .i64 x.torn, .int .i64 x.off] T_quotalaw08_Fall
/-- What the statement holds beside the disk. -/
structure Sc (W w : World) (ow : Nat → Nat) (b1 : Nat) (x : FallA) (b3 b4 : Nat) (was new : List UInt8) : Prop where
  old : Old W w ow
  x : x.blk w b1
  tx : ow b1 = 5
  was : SlT w ow T_uint8 1 (some ⟨b3, 0, none⟩) 1024 1024 (bvs was) 6
  new : SlT w ow T_uint8 1 (some ⟨b4, 0, none⟩) 1024 1024 (bvs new) 7
section
variable {T : Nat → Prop} {W w w' : World} {ow ow' : Nat → Nat} {b1 b3 b4 : Nat} {x : FallA} {was new : List UInt8}
theorem Sc.fr (h : Sc W w ow b1 x b3 b4 was new) (f : Fro T w ow w' ow') (h0 : T 0) (h5 : T 5) (h6 : T 6) (h7 : T 7) : Sc W w' ow' b1 x b3 b4 was new :=
  ⟨h.old.fr f h0, (blk_fr h.x h.tx f h5).1, (blk_fr h.x h.tx f h5).2, h.was.fr f h6, h.new.fr f h7⟩
theorem Sc.td (h : Sc W w ow b1 x b3 b4 was new) (f : Fro (Td 100) w ow w' ow') : Sc W w' ow' b1 x b3 b4 was new :=
  h.fr f ⟨by omega, by omega, by omega⟩ ⟨by omega, by omega, by omega⟩ ⟨by omega, by omega, by omega⟩ ⟨by omega, by omega, by omega⟩
theorem Sc.kp (h : Sc W w ow b1 x b3 b4 was new) (k : Kp no w w') : Sc W w' ow b1 x b3 b4 was new := h.fr (Fro.kp0 k) trivial trivial trivial trivial
theorem Sc.cells (h : x.blk w b1) : w.cell? ⟨b1, 0, none⟩ = some (.int .i64 x.n) ∧ w.cell? (Addr.add ⟨b1, 0, none⟩ 1) = some (.slice x.la x.keep.length x.lc) ∧ w.cell? (Addr.add ⟨b1, 0, none⟩ 2) = some (.int .i64 x.torn) ∧ w.cell? (Addr.add ⟨b1, 0, none⟩ 3) = some (.int .i64 x.off) ∧ True :=
  ⟨Blk.at h rfl rfl, Blk.at h rfl rfl, Blk.at h rfl rfl, Blk.at h rfl rfl, trivial⟩
theorem Sc.cellsL (h : x.blk w b1) : w.cell? (Addr.add ⟨b1, 0, none⟩ 1) = some (.slice x.la x.keep.length x.lc) ∧ w.cell? (Addr.add (Addr.add ⟨b1, 0, none⟩ 1) 1) = some (.int .i64 x.torn) ∧ w.cell? (Addr.add (Addr.add ⟨b1, 0, none⟩ 1) 2) = some (.int .i64 x.off) ∧ True :=
  ⟨Blk.at h rfl rfl, Blk.at h rfl rfl, Blk.at h rfl rfl, trivial⟩
end
/-- What may be there, of the page at home. -/
def Left (v : Dv) (h : Nat) (fell : Bool) (st : Int) (was new : List UInt8) (done : Bool) : Prop :=
  (fell = true ∧ st ≤ 5 ∧ Zm v 2 ∧ Pg v h was) ∨ (done = false ∧ fell = true ∧ 4 ≤ st ∧ Sm v 2 h new) ∨ ((fell = false ∨ 4 ≤ st) ∧ Zm v 2 ∧ Pg v h new)
theorem Oth.rest {v v' : Dv} {h : Nat} (r : Rest v h) (u : Up v' 13) (o : Oth v v' 13 2 h) (hh : h = 5 ∨ h = 7 ∨ h = 9 ∨ h = 11) : Rest v' h :=
  ⟨u, by rw [o 0 (by omega) (by omega) (by omega)]; exact r.a0, by rw [o 1 (by omega) (by omega) (by omega)]; exact r.a1, fun k hk hne => o.pg (r.pg k hk hne) (by omega) (by omega) (by omega)⟩

set_option maxRecDepth 100000 in
set_option maxHeartbeats 8000000 in
theorem oldOrNew_c {W : World} {n1 : Int} {f : Nat} (hf : f < 256) {x : FallA} (hx : x.Ok W) {a2 : Option Addr} {l2 c2 : Nat} {L : List FallA} (hL : FallsOk W a2 l2 c2 L) {R : Ending → World → Prop}
    (hK : ∀ w', Kp no W w' → R (.returned (.bool true)) w') :
    GoC Try.prog F_law08_TwinOldOrNew #[.int .i64 n1, .int .u8 (f : Int), .agg #[.int .i64 x.n, .slice x.la x.keep.length x.lc, .int .i64 x.torn, .int .i64 x.off], .slice a2 l2 c2] W R := by
  refine S_law08_TwinOldOrNew ?_
  unfold W_law08_TwinOldOrNew
  have o0 : Old W W fun _ => 0 := ⟨Kp.refl _ _, fun _ _ => rfl⟩
  have sb := x.st_bd
  refine AlF.intro fun b1 w1 hb1e hb1 k1 _ => ?_
  have f1 : Fro (fun _ => True) W (fun _ => 0) w1 (ext (fun _ => 0) W.heap.size 5) := Fro.of_kp0 5 k1
  have O1 := o0.fr f1 trivial
  have t1 : ext (fun _ => 0) W.heap.size 5 b1 = 5 := ext_new (by omega)
  generalize ext (fun _ => 0) W.heap.size 5 = ow1 at *
  refine first_c fun w2 k2 => ⟨_, rfl, cond_f rfl ?_⟩
  refine store_c (ow := ow1) (t := 100) fun b w3 ow3 v h3 sm3 st3 z3 F3 _ => ⟨_, _, rfl, cond_f rfl ?_⟩
  refine homeOf_c ⟨_, rfl, ?_⟩
  have hh := homeN_is n1
  generalize homeN n1 = h at *
  rw [u8_mod, Nat.mod_eq_of_lt (by omega)]
  refine page_c (by omega) fun b3 w4 s4 k4 hb3 => ⟨_, _, _, rfl, ?_⟩
  refine page_c hf fun b4 w5 s5 k5 hb4 => ⟨_, _, _, rfl, ?_⟩
  -- owners
  have O3 := (O1.fr (Fro.kp0 (ow := ow1) k2) trivial).fr F3 ⟨by omega, by omega, by omega⟩
  obtain ⟨x3, t3⟩ := blk_fr (k2.blk hb1 id) t1 F3 ⟨by omega, by omega, by omega⟩
  have f4 : Fro (fun _ => True) w3 ow3 w4 (ext ow3 w3.heap.size 6) := Fro.of_kp0 6 k4
  have S4 : SlT w4 (ext ow3 w3.heap.size 6) T_uint8 1 (some ⟨b3, 0, none⟩) 1024 1024 (bvs (pageB h)) 6 := ⟨s4, fun j hj => by obtain ⟨ad, ha, hb⟩ := hj; cases ha; subst hb; exact ext_new hb3⟩
  have O4 := O3.fr f4 trivial
  obtain ⟨x4, t4⟩ := blk_fr x3 t3 f4 trivial
  have h4 := h3.fr f4 trivial trivial trivial trivial
  generalize ext ow3 w3.heap.size 6 = ow4 at *
  have f5 : Fro (fun _ => True) w4 ow4 w5 (ext ow4 w4.heap.size 7) := Fro.of_kp0 7 k5
  have S5 : SlT w5 (ext ow4 w4.heap.size 7) T_uint8 1 (some ⟨b4, 0, none⟩) 1024 1024 (bvs (pageB f)) 7 := ⟨s5, fun j hj => by obtain ⟨ad, ha, hb⟩ := hj; cases ha; subst hb; exact ext_new hb4⟩
  have h5 := h4.fr f5 trivial trivial trivial trivial
  have C5 : Sc W w5 (ext ow4 w4.heap.size 7) b1 x b3 b4 (pageB h) (pageB f) := ⟨O4.fr f5 trivial, (blk_fr x4 t4 f5 trivial).1, (blk_fr x4 t4 f5 trivial).2, S4.fr f5 trivial, S5⟩
  generalize ext ow4 w4.heap.size 7 = ow5 at *
  have wl := pageB_len h
  have nl := pageB_len f
  have pgw := st3.pg h hh
  have rest3 : Rest v h := ⟨st3.up, st3.a0, st3.a1, fun k hk _ => st3.pg k hk⟩
  generalize pageB h = was at *
  generalize pageB f = new at *
  have kd : Kp no w5 w5.drew := Kp.drew w5 1
  have C6 := C5.kp kd
  have h6 := h5.kp0 kd
  refine ⟨fun w' => x.blk w' b1, C6.x, _, _, _, _, _, _, fun w hw => Sc.cells hw, _, _, _, _, _, fun w hw => Sc.cellsL hw, ?_⟩
  refine fstep_c fun w7 k7 => ⟨_, rfl, (C6.kp k7).x, ?_⟩
  have C7 := C6.kp k7
  refine arm_c (h6.kp0 k7) (hx.ls C7.old) (by omega) fun w8 ow8 h8 f8 => ⟨_, rfl, ?_⟩
  have C8 := C7.td f8
  rw [show x.n % 12 = x.st from rfl, st3.up.arm x] at h8
  refine ⟨C8.x, ?_⟩
  have uA := st3.up.armed hx
  have smA : ∀ m, (v.armed x).Sm m := fun m => st3.up.armed_sm hx
  have B8 : Bs w8 ow8 100 (some ⟨b4, 0, none⟩) new := ⟨(C8.new.rdT).mono fun u hu => ⟨by omega, by omega, by omega⟩, by omega, fun hh => by cases hh⟩
  refine twrite_c h8 (smA _) B8 nl (Nat.le_refl _) fun e w9 ow9 h9 f9 he _ => ⟨_, rfl, ?_⟩
  have C9 := C8.td f9
  have wout := write_out (at_ := 2) (h := h) (bs := new) uA (by omega) (by omega) nl st3.z
  have smW := writeR_sm (at_ := ((2 : Nat) : Int)) (h := (h : Int)) (bs := new) (smA 0)
  rw [show ((2 : Nat) : Int) = 2 from rfl] at wout smW
  have eS : (v.armed x).step = x.st := rfl
  rw [eS] at wout
  generalize writeR (v.armed x) 2 (h : Int) new = r at *
  -- did it fall?
  refine ⟨fun s w' => s.1 = decide (1 ≤ x.st ∧ x.st ≤ 10) ∧ Kp no w9 w', ?_, ?_⟩
  · refine ⟨_, _, _, _, _, _, Sc.cells C9.x, fstep_c fun w10 k10 => ⟨_, rfl, cond_d (fun h1 => ?_) (fun h1 => ?_)⟩⟩
    · refine ⟨_, _, _, _, _, _, Sc.cells (C9.kp k10).x, fstep_c fun w11 k11 => ⟨_, rfl, ?_, k10.trans0 k11⟩⟩
      refine decide_eq_decide.2 ?_
      have : x.st = x.n % 12 := rfl
      omega
    · refine ⟨(decide_eq_false ?_).symm, k10⟩
      have : x.st = x.n % 12 := rfl
      omega
  rintro ⟨fell, u⟩ w12 ⟨hfell, k12⟩ _
  dsimp only at hfell ⊢
  have C12 := C9.kp k12
  have h12 := h9.kp0 k12
  -- what the Write left
  have fw : (fell = false ∧ e = .nilIface ∧ Up r.2 13 ∨ fell = true ∧ r.1 = 40 ∧ Dn r.2 13) ∧ Oth (v.armed x) r.2 13 2 h ∧ Left r.2 h fell x.st was new false := by
    rcases wout with ⟨ws, w0, wu, wo, wz, wp, _⟩ | ⟨ws, w0, wd, wo, wc⟩
    · have hfl : fell = false := by rw [hfell]; exact decide_eq_false (by omega)
      refine ⟨.inl ⟨hfl, ?_, wu⟩, wo, .inr (.inr ⟨.inl hfl, wz, wp⟩)⟩
      rw [w0] at he
      exact err0 he
    · have hfl : fell = true := by rw [hfell]; exact decide_eq_true ws
      refine ⟨.inr ⟨hfl, w0, wd⟩, wo, ?_⟩
      rcases wc with ⟨c1, c2, c3, c4⟩ | ⟨c1, c2⟩ | ⟨c1, c2, c3⟩
      · exact .inl ⟨hfl, c1, c2, by rw [c3]; exact pgw.1, by rw [c4]; exact pgw.2⟩
      · exact .inr (.inl ⟨rfl, hfl, c1, c2⟩)
      · exact .inr (.inr ⟨.inr (by omega), c2, c3⟩)
  obtain ⟨fw1, fwo, fwl⟩ := fw
  have up2 : Up r.2.up 13 := by
    rcases fw1 with ⟨_, _, hu⟩ | ⟨_, _, hd⟩
    · exact hu.up
    · exact hd.up
  have rest2 : Rest r.2.up h := Oth.rest (v := v) rest3 up2 fwo hh
  have smU : r.2.up.Sm 0 := up2.sm (m := 6) ⟨smW.q, smW.k⟩
  -- its answer
  refine ⟨fun _ w' => Kp no w12 w', ?_, ?_⟩
  · rcases fw1 with ⟨hfl, rfl, hu⟩ | ⟨hfl, h40, hd⟩
    · subst hfl
      refine .inl ⟨rfl, cond_f rfl (cond_f rfl (down_c h12 ⟨_, rfl, cond_f (by rw [hu.d]; rfl) (Kp.refl _ _)⟩))⟩
    · subst hfl
      rw [h40] at he
      have he' := he.kp0 k12
      obtain ⟨p, hp⟩ : ∃ p, e = .iface T_p_api_Fault p := by
        rcases he with ⟨h0, _⟩ | ⟨_, b', hv, _⟩
        · cases h0
        · exact ⟨_, hv⟩
      refine .inr ⟨_, _, hp, cond_f rfl (cond_t rfl ?_)⟩
      exact ltold_c (z := zW) he' ⟨_, rfl, cond_f (by decide) (down_c h12 ⟨_, rfl, cond_f (by rw [hd.d]; rfl) (Kp.refl _ _)⟩)⟩
  rintro _ w16 k16 _
  refine up_c (h12.kp0 k16) fun w17 ow17 h17 f17 => ⟨_, rfl, ?_⟩
  have C17 := (C12.kp k16).td f17
  have I0 : Left r.2.up h fell x.st was new false := fwl
  have st0 : r.2.up.step = 0 := rfl
  generalize r.2.up = v0 at *
  have wi : ∀ i : Nat, i ≤ 21 → IntKind.wrap .i64 ((i : Int) + 1) = ((i + 1 : Nat) : Int) := fun i hi => wk8 (n := 30) (by omega) (by omega)
  refine loopN (fun st w' => ∃ i : Nat, i ≤ 21 ∧ (st.1 = false → i ≤ 20) ∧ st.2.1 = (i : Int) ∧ ∃ ow' v', DX w' ow' 100 b v' ∧ v'.Sm 0 ∧ v'.step = 0 ∧ Sc W w' ow' b1 x b3 b4 was new ∧ Rest v' h ∧ Left v' h fell x.st was new st.1) (fun st _ => if st.1 then 0 else 100 - st.2.1.toNat)
    ⟨0, by omega, fun _ => by omega, rfl, ow17, v0, h17, smU, st0, C17, rest2, I0⟩ ?_
  rintro ⟨done, i0, u⟩ w18 ⟨i, hi, hi2, hi0, ow18, v1, h18, sm18, st18, C18, r18, L18⟩ _
  dsimp only at hi2 hi0 L18 ⊢
  subst hi0
  cases done with
  | false =>
    refine cond_t rfl ?_
    have hi20 := hi2 rfl
    rw [wi i (by omega)]
    refine ⟨fun s w' => ∃ ow' v', DX w' ow' 100 b v' ∧ (∀ m, v'.Sm m) ∧ Up v' 13 ∧ Sc W w' ow' b1 x b3 b4 was new ∧ Rest v' h ∧ Left v' h fell x.st was new false ∧ s.1 = v'.step ∧ (v'.step ≠ 0 → i < 20), ?_, ?_⟩
    · have noarm : ∃ ow' v', DX w18 ow' 100 b v' ∧ (∀ m, v'.Sm m) ∧ Up v' 13 ∧ Sc W w18 ow' b1 x b3 b4 was new ∧ Rest v' h ∧ Left v' h fell x.st was new false ∧ ((0 : Int), ()).1 = v'.step ∧ (v'.step ≠ 0 → i < 20) :=
        ⟨ow18, v1, h18, fun m => r18.up.sm sm18, r18.up, C18, r18, L18, st18.symm, fun hh => absurd st18 hh⟩
      refine cond_d (fun hl => cond_d (fun h20 => ?_) (fun _ => noarm)) (fun _ => noarm)
      have hiL : i < L.length := by have := hL.n; omega
      have hy := hL.ok _ (List.getElem_mem hiL)
      have yb := (L[i]).st_bd
      obtain ⟨fb, fo, fa, fc⟩ := fallI hL.rd hiL
      subst fa
      have fc18 := fun q hq v hv => C18.old.kp.cell (fc q hq v hv) id
      refine ⟨by omega, by omega, _, rfl, _, _, _, _, _, _, fallCells fc18, ?_⟩
      refine fstep_c fun w19 k19 => ⟨_, rfl, by omega, by omega, _, rfl, _, _, _, _, _, fallCellsL (fun q hq v hv => k19.cell (fc18 q hq v hv) id), ?_⟩
      have C19 := C18.kp k19
      refine arm_c (h18.kp0 k19) (hy.ls C19.old) (by omega) fun w20 ow20 h20' f20 => ⟨_, rfl, ?_⟩
      rw [show (L[i]).n % 12 = (L[i]).st from rfl, r18.up.arm (L[i])] at h20'
      exact ⟨ow20, _, h20', fun m => r18.up.armed_sm hy, r18.up.armed hy, C19.td f20, ⟨r18.up.armed hy, r18.a0, r18.a1, r18.pg⟩, L18, rfl, fun _ => by omega⟩
    rintro ⟨n, u⟩ w21 ⟨ow21, v2, h21, sm21, u21, C21, r21, L21, hn, hn2⟩ _
    dsimp only at hn ⊢
    subst hn
    refine tfinish_c h21 (sm21 _) fun e2 w22 ow22 h22 f22 he2 _ => ⟨_, _, rfl, ?_⟩
    have C22 := C21.td f22
    have sf := finR_sm (at_ := 2) (sm21 0)
    have out : ((finR v2 2).1.2 = 0 ∧ Up (finR v2 2).2 13 ∧ Rest (finR v2 2).2 h ∧ Left (finR v2 2).2 h fell x.st was new true) ∨ ((finR v2 2).1.2 = 40 ∧ v2.step ≠ 0 ∧ Dn (finR v2 2).2 13 ∧ Rest (finR v2 2).2.up h ∧ Left (finR v2 2).2.up h fell x.st was new false) := by
      have fz : Zm v2 2 → finR v2 2 = ((false, 0), v2) := fun hz => fin_zero (at_ := 2) u21 (by omega) hz
      rcases L21 with ⟨l1, l2, l3, l4⟩ | ⟨l1, l2, l3, l4⟩ | ⟨l1, l2, l3⟩
      · rw [fz l3]
        exact .inl ⟨rfl, u21, r21, .inl ⟨l1, l2, l3, l4⟩⟩
      · have fo := fin_out (at_ := 2) (h := h) u21 (by omega) (by omega) nl l4
        rw [show ((2 : Nat) : Int) = 2 from rfl] at fo
        generalize finR v2 2 = q at *
        rcases fo with ⟨_, o1, o2, o3, o4, o5, _⟩ | ⟨o0, o1, o2, o3, o4⟩
        · exact .inl ⟨by rw [o1], o2, o3.rest r21 o2 hh, .inr (.inr ⟨.inr l3, o4, o5⟩)⟩
        · refine .inr ⟨by rw [o1], by omega, o2, Oth.rest (v' := q.2.up) r21 o2.up o3 hh, ?_⟩
          rcases o4 with o4 | ⟨o4, o5⟩
          · exact .inr (.inl ⟨rfl, l2, l3, o4⟩)
          · exact .inr (.inr ⟨.inr l3, o4, o5⟩)
      · rw [fz l2]
        exact .inl ⟨rfl, u21, r21, .inr (.inr ⟨l1, l2, l3⟩)⟩
    generalize finR v2 2 = q at *
    rcases out with ⟨q0, qu, qr, qL⟩ | ⟨q4, qs, qd, qr, qL⟩
    · rw [q0] at he2
      have e2' := err0 he2
      subst e2'
      refine .inl ⟨rfl, fun _ w' => Kp no w22 w', cond_f rfl (Kp.refl _ _), fun _ w25 k25 _ => ?_⟩
      refine up_c (h22.kp0 k25) fun w26 ow26 h26 f26 => ⟨_, rfl, ⟨⟨i + 1, by omega, fun hh => (by cases hh), rfl, ow26, _, h26, ⟨by show q.2.q.length ≤ 0; rw [qu.q]; simp, sf.k⟩, rfl, (C22.kp k25).td f26, ⟨qr.up.up, qr.a0, qr.a1, qr.pg⟩, qL⟩, ?_⟩⟩
      show (0 : Nat) < 100 - Int.toNat (i : Int)
      omega
    · rw [q4] at he2
      obtain ⟨p, hp⟩ : ∃ p, e2 = .iface T_p_api_Fault p := by
        rcases he2 with ⟨h0, _⟩ | ⟨_, b', hv, _⟩
        · cases h0
        · exact ⟨_, hv⟩
      refine .inr ⟨_, _, hp, fun _ w' => Kp no w22 w', cond_t rfl (cond_eq (fun hz => absurd hz qs) (fun _ => ?_)), fun _ w25 k25 _ => ?_⟩
      · exact ltold_c (z := zF) he2 ⟨_, rfl, cond_f (by decide) (down_c h22 ⟨_, rfl, cond_f (by rw [qd.d]; rfl) (Kp.refl _ _)⟩)⟩
      · have i20 := hn2 qs
        refine up_c (h22.kp0 k25) fun w26 ow26 h26 f26 => ⟨_, rfl, ⟨⟨i + 1, by omega, fun _ => by omega, rfl, ow26, _, h26, ⟨by show q.2.q.length ≤ 0; rw [qd.q]; simp, sf.k⟩, rfl, (C22.kp k25).td f26, qr, qL⟩, ?_⟩⟩
        show 100 - Int.toNat ((i + 1 : Nat) : Int) < 100 - Int.toNat (i : Int)
        omega
  | true =>
    refine cond_f rfl ?_
    have ro := read_out (h := h) r18.up (by omega)
    have hz : Zm v1 2 := by
      rcases L18 with ⟨_, _, l3, _⟩ | ⟨l1, _⟩ | ⟨_, l2, _⟩
      · exact l3
      · cases l1
      · exact l2
    have hX : (fell = true ∧ x.st ≤ 5 ∧ v1.sect h ++ v1.sect (h + 1) = was) ∨ ((fell = false ∨ 4 ≤ x.st) ∧ v1.sect h ++ v1.sect (h + 1) = new) := by
      rcases L18 with ⟨l1, l2, _, l4⟩ | ⟨l1, _⟩ | ⟨l1, _, l3⟩
      · exact .inl ⟨l1, l2, by rw [l4.1, l4.2, halves wl]⟩
      · cases l1
      · exact .inr ⟨l1, by rw [l3.1, l3.2, halves nl]⟩
    refine tread_c h18 (sm18.mono (by omega)) fun a7 l7 c7 e7 w27 k27 s27 f27 he7 _ => ⟨_, _, _, _, rfl, ?_⟩
    rw [ro] at he7 s27
    have e7' := err0 he7
    subst e7'
    generalize v1.sect h ++ v1.sect (h + 1) = X at *
    have C27 := C18.kp k27
    have cx : ∀ w' (K : Value → World → Prop), Kp no w27 w' → (∀ z : ByteArray, z.toList = X → K (.string z) w') → RunF Try.prog (convert T_s_uint8 T_string (.slice a7 l7 c7)) w' K := fun w' K k hk => conv_c (s27.kp0 k) hk
    have cw : ∀ w' (K : Value → World → Prop), Kp no w27 w' → (∀ z : ByteArray, z.toList = was → K (.string z) w') → RunF Try.prog (convert T_s_uint8 T_string (.slice (some ⟨b3, 0, none⟩) 1024 1024)) w' K := fun w' K k hk => conv_c (C27.was.sl.kp0 k) hk
    have cn : ∀ w' (K : Value → World → Prop), Kp no w27 w' → (∀ z : ByteArray, z.toList = new → K (.string z) w') → RunF Try.prog (convert T_s_uint8 T_string (.slice (some ⟨b4, 0, none⟩) 1024 1024)) w' K := fun w' K k hk => conv_c (C27.new.sl.kp0 k) hk
    have k0 := Kp.refl no w27
    have eqc : ∀ {z1 z2 : ByteArray} {Y : List UInt8}, z1.toList = X → z2.toList = Y → X = Y → (!(z1.toList == z2.toList)) = false := fun h1 h2 he => by rw [h1, h2, he, beq_self_eq_true]; rfl
    refine ⟨fun _ w' => w' = w27, ?_, ?_⟩
    · refine .inl ⟨rfl, cond_f rfl (cx _ _ k0 fun z1 h1 => ⟨_, rfl, cw _ _ k0 fun z2 h2 => ⟨_, rfl, cond_b (fun hne => ?_) (fun _ => rfl)⟩⟩)⟩
      have hnew : X = new := by
        rcases hX with ⟨_, _, hw⟩ | ⟨_, hn⟩
        · rw [eqc h1 h2 hw] at hne
          cases hne
        · exact hn
      exact cx _ _ k0 fun z3 h3 => ⟨_, rfl, cn _ _ k0 fun z4 h4 => ⟨_, rfl, cond_f (eqc h3 h4 hnew) rfl⟩⟩
    rintro _ w32 rfl _
    refine ⟨fun _ w' => Kp no w32 w', ?_, ?_⟩
    · cases fell with
      | false =>
        have hnew : X = new := by
          rcases hX with ⟨h0, _⟩ | ⟨_, hn⟩
          · cases h0
          · exact hn
        exact cond_t rfl (cx _ _ k0 fun z1 h1 => ⟨_, rfl, cn _ _ k0 fun z2 h2 => ⟨_, rfl, cond_f (eqc h1 h2 hnew) (cond_f rfl k0)⟩⟩)
      | true =>
        refine cond_f rfl ⟨_, _, _, _, _, _, Sc.cells C27.x, fstep_c fun w38 k38 => ⟨_, rfl, ?_⟩⟩
        have ex : x.n % 12 = x.st := rfl
        rw [ex]
        have C38 := C27.kp k38
        refine cond_d (fun h5 => ?_) (fun h5 => ?_)
        · have hnew : X = new := by
            rcases hX with ⟨_, h0, _⟩ | ⟨_, hn⟩
            · omega
            · exact hn
          refine cx _ _ k38 fun z1 h1 => ⟨_, rfl, cn _ _ k38 fun z2 h2 => ⟨_, rfl, cond_f (eqc h1 h2 hnew) (cond_t rfl ⟨_, _, _, _, _, _, Sc.cells C38.x, fstep_c fun w41 k41 => ⟨_, rfl, ?_⟩⟩)⟩⟩
          rw [ex]
          exact cond_d (fun h4 => by omega) (fun _ => k38.trans0 k41)
        · refine cond_t rfl ⟨_, _, _, _, _, _, Sc.cells C38.x, fstep_c fun w44 k44 => ⟨_, rfl, ?_⟩⟩
          rw [ex]
          have k344 := k38.trans0 k44
          refine cond_d (fun h4 => ?_) (fun _ => k344)
          have hw : X = was := by
            rcases hX with ⟨_, _, hw⟩ | ⟨h0, _⟩
            · exact hw
            · rcases h0 with h0 | h0
              · cases h0
              · omega
          exact cx _ _ k344 fun z1 h1 => ⟨_, rfl, cw _ _ k344 fun z2 h2 => ⟨_, rfl, cond_f (eqc h1 h2 hw) k344⟩⟩
    rintro _ w47 k47 _
    have h47 := (h18.kp0 k27).kp0 k47
    have C47 := C27.kp k47
    have fz := fin_zero (at_ := 2) r18.up (by omega) hz
    rw [show ((2 : Nat) : Int) = 2 from rfl] at fz
    refine calls_c h47 ⟨_, rfl, ?_⟩
    refine tfinish_c h47 (sm18.mono (by omega)) fun e8 w49 ow49 h49 f49 he8 _ => ⟨_, _, rfl, ?_⟩
    rw [fz] at h49 he8 ⊢
    have e8' := err0 he8
    subst e8'
    have C49 := C47.td f49
    refine cond_t rfl (.inl ⟨rfl, cond_t rfl (calls_c h49 ⟨_, rfl, cond_eq (fun _ => ?_) (fun hne => absurd rfl hne)⟩)⟩)
    exact others_c h49 (sm18.mono (by omega)) r18 fun w51 k51 => ⟨_, rfl, hK _ (C49.old.kp.trans0 k51)⟩

theorem twinOldOrNew_walk {W : World} {v0 v1 v2 v3 : Value} (h0 : ArgW Try.prog W T_int v0) (h1 : ArgW Try.prog W T_uint8 v1) (h2 : ArgW Try.prog W T_quotalaw08_Fall v2) (h3 : ArgW Try.prog W T_s_quotalaw08_Fall v3) :
    GoC Try.prog F_law08_TwinOldOrNew #[v0, v1, v2, v3] W fun e W' => e = .returned (.bool true) ∧ Kp no W W' := by
  obtain ⟨n, rfl, _⟩ := h0.arg.int (k := .i64) (by kernel_rfl)
  obtain ⟨m, rfl, wm⟩ := h1.arg.int (k := .u8) (by kernel_rfl)
  obtain ⟨f, rfl⟩ := u8_wf wm
  obtain ⟨x, rfl, hx⟩ := fall_open h2
  obtain ⟨a, l, c, L, rfl, hL⟩ := falls_open h3
  exact oldOrNew_c (u8_lt f) hx hL fun w' k => ⟨rfl, k⟩
end Go.Proofs.Ytalkkhocljehfaa

/- TwinOften: many Writes, each perhaps cut off, each followed by a Finish. Conditions: none. -/
set_option linter.unusedVariables false
set_option linter.unusedSimpArgs false
namespace Go.Proofs.Ytalkkhocljehfaa
open Go Go.RowKit Go.ChangeShapes Go.WideShapes

theorem ints_arg {W : World} {v : Value} (h : ArgW Try.prog W T_s_int v) : ∃ a l c L, v = .slice a l c ∧ (L : List Int).length = l ∧ Rd W a (L.map (Value.int .i64)) := by
  obtain ⟨a, l, c, rfl, hc⟩ := h.arg.slice (e := T_int) (by kernel_rfl)
  obtain ⟨hl, hm, h0, css, h1, h2⟩ := hc.cells (e := T_int) (s := 1) (by kernel_rfl) (by kernel_rfl) (by omega)
  have each : ∀ i, i < l → ∃ x : Int, css i = [.int .i64 x] := fun i hi => by
    have hc := (h1 i hi).2
    have hsl := (h1 i hi).1
    generalize css i = cs at *
    match cs, hsl with
    | [x0], _ =>
      obtain ⟨n0, e0, _⟩ := hc.int (k := .i64) (by kernel_rfl)
      cases e0
      exact ⟨n0, rfl⟩
  obtain ⟨f, hf⟩ := Deep.choose_lt (α := Int) (p := fun i x => css i = [.int .i64 x]) each
  refine ⟨a, l, c, (List.range l).map f, rfl, by simp, fun i v hv => ?_⟩
  rw [List.getElem?_map] at hv
  by_cases hi : i < l
  · have e : ((List.range l).map f)[i]? = some (f i) := by simp [hi]
    rw [e] at hv
    simp at hv
    subst hv
    obtain ⟨b, o, ha, hcell⟩ := h2 i hi 0 (.int .i64 (f i)) (by rw [hf i hi]; rfl)
    exact ⟨b, o, ha, by rw [Nat.mul_one, Nat.add_zero] at hcell; exact hcell⟩
  · have e : ((List.range l).map f)[i]? = none := by simp; omega
    rw [e] at hv
    cases hv

/-- The pages that were read last, as strings. -/
def nwC (zs : List ByteArray) : Array Value := (zs.map Value.string).toArray
structure Nw (w : World) (ow : Nat → Nat) (b : Nat) (zs : List ByteArray) : Prop where
  x : Blk w b (nwC zs) T_13_string
  t : ow b = 5
  n : zs.length = 13
theorem Nw.fr {T : Nat → Prop} {w w' : World} {ow ow' : Nat → Nat} {b : Nat} {zs : List ByteArray} (h : Nw w ow b zs) (f : Fro T w ow w' ow') (ht : T 5) : Nw w' ow' b zs :=
  ⟨(blk_fr h.x h.t f ht).1, (blk_fr h.x h.t f ht).2, h.n⟩
theorem Nw.put {w : World} {ow : Nat → Nat} {b k : Nat} {zs : List ByteArray} (h : Nw w ow b zs) (hk : k < 13) {z : ByteArray} {K : World → Prop} (hK : ∀ w', Nw w' ow b (zs.set k z) → Kp (fun j => j = b) w w' → K w') :
    StF w (Addr.add ⟨b, 0, none⟩ (Int.toNat (k : Int))) (.string z) K := by
  have hn := h.n
  refine StF.at (i := k) (by rw [Int.toNat_natCast, add_at, Nat.zero_add]) h.x (by unfold nwC; simp; omega) fun w' hb' k' _ => hK w' ⟨?_, h.t, by rw [List.length_set]; exact hn⟩ k'
  have e : (nwC zs).setIfInBounds k (.string z) = nwC (zs.set k z) := by
    unfold nwC
    apply Array.ext'
    simp [List.map_set]
  rw [e] at hb'
  exact hb'
theorem Nw.at {w : World} {b k : Nat} {zs : List ByteArray} (h : Blk w b (nwC zs) T_13_string) {z : ByteArray} (hz : zs[k]? = some z) : w.cell? (Addr.add ⟨b, 0, none⟩ (Int.toNat (k : Int))) = some (.string z) := by
  rw [Int.toNat_natCast, add_at, Nat.zero_add]
  refine Blk.at h rfl ?_
  unfold nwC
  rw [List.getElem?_toArray, List.getElem?_map, hz]
  rfl
/-- Its strings are those pages. -/
def Zs (zs : List ByteArray) (P : Nat → List UInt8) : Prop := ∀ h, (h = 5 ∨ h = 7 ∨ h = 9 ∨ h = 11) → ∃ z, zs[h]? = some z ∧ z.toList = P h
theorem Rest.sto {v : Dv} {P : Nat → List UInt8} (s : Sto v P) {v' : Dv} {h : Nat} (hh : h = 5 ∨ h = 7 ∨ h = 9 ∨ h = 11) (u : Up v' 13) (hz : Zm v' 2) (o : Oth v v' 13 2 h) {X : List UInt8} (hX : Pg v' h X) : Sto v' (fun k => if k = h then X else P k) :=
  ⟨u, hz, by rw [o 0 (by omega) (by omega) (by omega)]; exact s.a0, by rw [o 1 (by omega) (by omega) (by omega)]; exact s.a1, fun k hk => by
    by_cases e : k = h
    · subst e
      rw [if_pos rfl]
      exact hX
    · rw [if_neg e]
      exact o.pg (s.pg k hk) (by omega) (by omega) (by omega)⟩

/-- A Write, perhaps cut off, then Up and Finish. -/
theorem once {v : Dv} {P : Nat → List UInt8} {h : Nat} {new : List UInt8} (s : Sto v P) (hh : h = 5 ∨ h = 7 ∨ h = 9 ∨ h = 11) (nl : new.length = 1024) (pl : (P h).length = 1024) (sm : v.Sm 0) {r : Nat × Dv} (hr : writeR v 2 (h : Int) new = r) {q : (Bool × Nat) × Dv} (hq : finR r.2.up 2 = q) :
    (r.1 = 0 ∨ r.1 = 40) ∧ q.1.2 = 0 ∧ q.2.step = 0 ∧ q.2.Sm 0 ∧ Up q.2 13 ∧ Zm q.2 2 ∧ Oth v q.2 13 2 h ∧ ((Pg q.2 h new ∧ (r.1 = 0 → q.1.1 = false)) ∨ (Pg q.2 h (P h) ∧ r.1 = 40 ∧ q.1.1 = false)) := by
  have wout := write_out (at_ := 2) (h := h) (bs := new) s.up (by omega) (by omega) nl s.z
  have smr := writeR_sm (at_ := 2) (h := (h : Int)) (bs := new) sm
  rw [show ((2 : Nat) : Int) = 2 from rfl, hr] at wout
  rw [hr] at smr
  have smq := finR_sm (v := r.2.up) (at_ := 2) (m := 6) ⟨smr.q, smr.k⟩
  rw [hq] at smq
  have pgw := s.pg h hh
  clear hr
  have two : ((2 : Nat) : Int) = 2 := rfl
  rcases wout with ⟨_, w0, wu, wo, wz, wp, _⟩ | ⟨_, w0, wd, wo, wc⟩
  · have fz := fin_zero (at_ := 2) wu.up (by omega) (show Zm r.2.up 2 from wz)
    rw [two, hq] at fz
    subst fz
    exact ⟨.inl w0, rfl, rfl, wu.up.sm smq, wu.up, wz, wo, .inl ⟨wp, fun _ => rfl⟩⟩
  · have zero : Zm r.2 2 → q = ((false, 0), r.2.up) := fun hz => by
      have fz := fin_zero (at_ := 2) wd.up (by omega) (show Zm r.2.up 2 from hz)
      rw [two, hq] at fz
      exact fz
    rcases wc with ⟨c1, c2, c3, c4⟩ | ⟨c1, c2⟩ | ⟨c1, c2, c3⟩
    · have := zero c2
      subst this
      exact ⟨.inr w0, rfl, rfl, wd.up.sm smq, wd.up, c2, wo, .inr ⟨⟨by show r.2.sect h = _; rw [c3]; exact pgw.1, by show r.2.sect (h + 1) = _; rw [c4]; exact pgw.2⟩, w0, rfl⟩⟩
    · have fo := fin_out (at_ := 2) (h := h) (bs := new) wd.up (by omega) (by omega) nl c2
      have smk := smq.k
      rw [two, hq] at fo
      rcases fo with ⟨_, o1, o2, o3, o4, o5, o6⟩ | ⟨o0, _⟩
      · have st : q.2.step = 0 := o6 rfl
        exact ⟨.inr w0, by rw [o1], st, o2.sm smq, o2, o4, Oth.trans (v' := r.2.up) wo o3, .inl ⟨o5, fun hh => by omega⟩⟩
      · have : r.2.up.step = 0 := rfl
        omega
    · have := zero c2
      subst this
      exact ⟨.inr w0, rfl, rfl, wd.up.sm smq, wd.up, c2, wo, .inl ⟨c3, fun hh => by omega⟩⟩

/-- What the statement holds beside the disk. -/
structure Sd (W w : World) (ow : Nat → Nat) (b1 : Nat) (zs : List ByteArray) : Prop where
  old : Old W w ow
  nw : Nw w ow b1 zs
section
variable {T : Nat → Prop} {W w w' : World} {ow ow' : Nat → Nat} {b1 : Nat} {zs : List ByteArray}
theorem Sd.fr (h : Sd W w ow b1 zs) (f : Fro T w ow w' ow') (h0 : T 0) (h5 : T 5) : Sd W w' ow' b1 zs := ⟨h.old.fr f h0, h.nw.fr f h5⟩
theorem Sd.td (h : Sd W w ow b1 zs) (f : Fro (Td 100) w ow w' ow') : Sd W w' ow' b1 zs := h.fr f ⟨by omega, by omega, by omega⟩ ⟨by omega, by omega, by omega⟩
theorem Sd.kp (h : Sd W w ow b1 zs) (k : Kp no w w') : Sd W w' ow b1 zs := h.fr (Fro.kp0 k) trivial trivial
end
theorem Zs.set {zs : List ByteArray} {P : Nat → List UInt8} (h : Zs zs P) {k : Nat} (hk : k < zs.length) {z : ByteArray} {X : List UInt8} (hz : z.toList = X) : Zs (zs.set k z) (fun j => if j = k then X else P j) := fun j hj => by
  dsimp only
  by_cases e : j = k
  · subst e
    exact ⟨z, by rw [List.getElem?_set, if_pos rfl, if_pos hk], by rw [if_pos rfl]; exact hz⟩
  · obtain ⟨y, h1, h2⟩ := h j hj
    exact ⟨y, by rw [List.getElem?_set, if_neg (fun hh => e hh.symm)]; exact h1, by rw [if_neg e]; exact h2⟩

set_option maxRecDepth 100000 in
set_option maxHeartbeats 8000000 in
theorem often_c {W : World} {a1 : Option Addr} {l1 c1 : Nat} {H : List Int} (hr : Rd W a1 (H.map (Value.int .i64))) (hl1 : H.length = l1) {a2 : Option Addr} {l2 c2 : Nat} {L : List FallA} (hL : FallsOk W a2 l2 c2 L) {R : Ending → World → Prop}
    (hK : ∀ w', Kp no W w' → R (.returned (.bool true)) w') : GoC Try.prog F_law08_TwinOften #[.slice a1 l1 c1, .slice a2 l2 c2] W R := by
  refine S_law08_TwinOften ?_
  unfold W_law08_TwinOften
  have o0 : Old W W fun _ => 0 := ⟨Kp.refl _ _, fun _ _ => rfl⟩
  refine first_c fun w1 k1 => ⟨_, rfl, cond_f rfl ?_⟩
  have O1 := o0.fr (Fro.kp0 (ow := fun _ => 0) k1) trivial
  refine store_c (ow := fun _ => 0) (t := 100) fun b w2 ow2 v h2 sm2 st2 z2 F2 _ => ⟨_, _, rfl, cond_f rfl ?_⟩
  have O2 := O1.fr F2 ⟨by omega, by omega, by omega⟩
  refine AlF.intro fun b1 w3 hb1e hb1 k3 _ => ?_
  have f3 : Fro (fun _ => True) w2 ow2 w3 (ext ow2 w2.heap.size 5) := Fro.of_kp0 5 k3
  have N3 : Nw w3 (ext ow2 w2.heap.size 5) b1 (List.replicate 13 ByteArray.empty) := ⟨hb1, ext_new (by omega), rfl⟩
  have D3 : Sd W w3 (ext ow2 w2.heap.size 5) b1 (List.replicate 13 ByteArray.empty) := ⟨O2.fr f3 trivial, N3⟩
  have h3 := h2.fr f3 trivial trivial trivial trivial
  generalize ext ow2 w2.heap.size 5 = ow3 at *
  refine loopN (fun st w' => ∃ j : Nat, j ≤ 4 ∧ st.1 = ((5 + 2 * j : Nat) : Int) ∧ ∃ zs, DX w' ow3 100 b v ∧ Sd W w' ow3 b1 zs ∧ ∀ i, i < j → ∃ z, zs[5 + 2 * i]? = some z ∧ z.toList = pageB (5 + 2 * i)) (fun st _ => 13 - st.1.toNat)
    ⟨0, by omega, rfl, _, h3, D3, fun i hi => by omega⟩ ?_
  rintro ⟨j0, u⟩ w4 ⟨j, hj, hj0, zs, h4, D4, Z4⟩ _
  dsimp only at hj0 ⊢
  subst hj0
  refine cond_d (fun hlt => ?_) (fun hge => ?_)
  · have e8 : IntKind.wrap .u8 ((5 + 2 * j : Nat) : Int) = ((5 + 2 * j : Nat) : Int) := by rw [u8_mod, Nat.mod_eq_of_lt (by omega)]
    have e9 : IntKind.wrap .i64 (((5 + 2 * j : Nat) : Int) + 2) = ((5 + 2 * (j + 1) : Nat) : Int) := by rw [wrap_i64 (by omega) (by omega)]; omega
    rw [e8, e9]
    refine page_c (by omega) fun b5 w5 s5 k5 hb5 => ⟨_, _, _, rfl, ?_⟩
    refine conv_c s5 fun z hz => ⟨_, rfl, by omega, by omega, ?_⟩
    have D5 := D4.kp k5
    refine D5.nw.put (k := 5 + 2 * j) (by omega) fun w6 N6 k6 => ?_
    have f6 := fro_own k6 D5.nw.t
    refine ⟨⟨j + 1, by omega, rfl, _, (h4.kp0 k5).fr f6 (by omega) (by omega) (by omega) (by omega), ⟨D5.old.fr f6 (by omega), N6⟩, fun i hi => ?_⟩, by simp only [Int.toNat_natCast]; omega⟩
    by_cases hij : i = j
    · subst hij
      exact ⟨z, by rw [List.getElem?_set, if_pos rfl, if_pos (by have := D4.nw.n; omega)], hz⟩
    · obtain ⟨y, y1, y2⟩ := Z4 i (by omega)
      exact ⟨y, by rw [List.getElem?_set, if_neg (by omega)]; exact y1, y2⟩
  have hj4 : j = 4 := by omega
  subst hj4
  have ZZ : Zs zs pageB := fun h hh => by
    rcases hh with rfl | rfl | rfl | rfl
    · exact Z4 0 (by omega)
    · exact Z4 1 (by omega)
    · exact Z4 2 (by omega)
    · exact Z4 3 (by omega)
  clear Z4
  refine loopN (fun st w' => ∃ i : Nat, i ≤ l1 ∧ i ≤ 30 ∧ st.1 = (i : Int) ∧ ∃ ow' v' P zs, DX w' ow' 100 b v' ∧ v'.Sm 0 ∧ v'.step = 0 ∧ Sto v' P ∧ (∀ h, (h = 5 ∨ h = 7 ∨ h = 9 ∨ h = 11) → (P h).length = 1024) ∧ Sd W w' ow' b1 zs ∧ Zs zs P) (fun st _ => l1 - st.1.toNat)
    ⟨0, by omega, by omega, rfl, ow3, v, pageB, zs, h4, sm2, z2, st2, fun h _ => pageB_len h, D4, ZZ⟩ ?_
  clear ZZ D4 h4 z2 st2 sm2
  rintro ⟨i0, u⟩ w8 ⟨i, hi, hi30, hi0, ow8, v, P, zs, h8, sm8, st8, S8, pl8, D8, Z8⟩ _
  dsimp only at hi0 ⊢
  subst hi0
  refine cond_d (fun hlt => ?_) (fun _ => hK _ D8.old.kp)
  refine cond_d (fun h30 => ?_) (fun _ => hK _ D8.old.kp)
  have hiH : i < H.length := by omega
  refine (hr.kp0 D8.old.kp).idx (by omega) hlt (by rw [List.length_map]; omega) fun ba bo hg hc => ?_
  refine ⟨H[i], by rw [Int.toNat_natCast, add_at]; exact hc i _ (by rw [List.getElem?_map, List.getElem?_eq_getElem hiH]; rfl), ?_⟩
  refine homeOf_c ⟨_, rfl, ?_⟩
  have hh := homeN_is H[i]
  generalize homeN H[i] = h at *
  have e3 : IntKind.wrap .u8 (IntKind.wrap .i64 (40 + IntKind.wrap .i64 (3 * (i : Int)))) = ((40 + 3 * i : Nat) : Int) := by
    rw [wrap_i64 (x := 3 * (i : Int)) (by omega) (by omega), wrap_i64 (by omega) (by omega), show (40 : Int) + 3 * (i : Int) = ((40 + 3 * i : Nat) : Int) by omega, u8_mod, Nat.mod_eq_of_lt (by omega)]
  have e4 : IntKind.wrap .i64 ((i : Int) + 1) = ((i + 1 : Nat) : Int) := wk8 (n := 30) (by omega) (by omega)
  rw [e3]
  refine page_c (by omega) fun b4 w10 s10 k10 hb10 => ⟨_, _, _, rfl, ?_⟩
  have nl := pageB_len (40 + 3 * i)
  generalize pageB (40 + 3 * i) = new at *
  have f10 : Fro (fun _ => True) w8 ow8 w10 (ext ow8 w8.heap.size 7) := Fro.of_kp0 7 k10
  have N10 : SlT w10 (ext ow8 w8.heap.size 7) T_uint8 1 (some ⟨b4, 0, none⟩) 1024 1024 (bvs new) 7 := ⟨s10, fun j hj => by obtain ⟨ad, ha, hb⟩ := hj; cases ha; subst hb; exact ext_new hb10⟩
  have h10 := h8.fr f10 trivial trivial trivial trivial
  have D10 := D8.fr f10 trivial trivial
  generalize ext ow8 w8.heap.size 7 = ow10 at *
  have td7 : Td 100 7 := ⟨by omega, by omega, by omega⟩
  -- armed, or not
  refine ⟨fun _ w' => ∃ ow' v', DX w' ow' 100 b v' ∧ v'.Sm 0 ∧ Sto v' P ∧ Sd W w' ow' b1 zs ∧ SlT w' ow' T_uint8 1 (some ⟨b4, 0, none⟩) 1024 1024 (bvs new) 7, ?_, ?_⟩
  · refine cond_d (fun hl2 => ?_) (fun _ => ⟨ow10, v, h10, sm8, S8, D10, N10⟩)
    have hiL : i < L.length := by have := hL.n; omega
    have hy := hL.ok _ (List.getElem_mem hiL)
    have yb := (L[i]).st_bd
    obtain ⟨fb, fo, fa, fc⟩ := fallI hL.rd hiL
    subst fa
    have kd : Kp no w10 w10.drew := Kp.drew w10 1
    have Dd := D10.kp kd
    refine ⟨fun w' => Kp no W w', Dd.old.kp, by omega, by omega, _, rfl, _, _, _, _, _, _, fun w hw => fallCells fun q hq v hv => hw.cell (fc q hq v hv) id, by omega, by omega, _, rfl, _, _, _, _, _, fun w hw => fallCellsL fun q hq v hv => hw.cell (fc q hq v hv) id, ?_⟩
    refine fstep_c fun w11 k11 => ⟨_, rfl, (Dd.kp k11).old.kp, ?_⟩
    have D11 := Dd.kp k11
    refine arm_c ((h10.kp0 kd).kp0 k11) (hy.ls D11.old) (by omega) fun w12 ow12 h12 f12 => ⟨_, rfl, ?_⟩
    rw [show (L[i]).n % 12 = (L[i]).st from rfl, S8.up.arm (L[i])] at h12
    have D12 := D11.td f12
    refine ⟨D12.old.kp, ow12, _, h12, S8.up.armed_sm hy, ⟨S8.up.armed hy, S8.z, S8.a0, S8.a1, S8.pg⟩, D12, ?_⟩
    exact ((N10.fr (Fro.kp0 kd) trivial).fr (Fro.kp0 k11) trivial).fr f12 td7
  rintro _ w13 ⟨ow13, v13, h13, sm13, S13, D13, N13⟩ _
  clear S8 sm8 st8 h8 h10 N10 D10
  have B13 : Bs w13 ow13 100 (some ⟨b4, 0, none⟩) new := ⟨(N13.rdT).mono fun u hu => by rw [hu]; exact td7, by omega, fun hh => by cases hh⟩
  refine twrite_c h13 (sm13.mono (by omega)) B13 nl (Nat.le_refl _) fun e1 w14 ow14 h14 f14 he1 _ => ⟨_, rfl, ?_⟩
  refine up_c h14 fun w15 ow15 h15 f15 => ⟨_, rfl, ?_⟩
  have smr := (writeR_sm (at_ := 2) (h := (h : Int)) (bs := new) sm13)
  refine tfinish_c h15 (v := (writeR v13 2 (h : Int) new).2.up) ⟨by show (writeR v13 2 (h : Int) new).2.q.length ≤ _; have := smr.q; omega, smr.k⟩ fun e2 w16 ow16 h16 f16 he2 _ => ⟨_, _, rfl, ?_⟩
  have D16 := ((D13.td f14).td f15).td f16
  have N16 := ((N13.fr f14 td7).fr f15 td7).fr f16 td7
  have he1' : ErrV w14 e1 zW ((writeR v13 2 (h : Int) new).1 : Int) := he1
  obtain ⟨r40, q0, qst, qsm, qu, qz, qo, qc⟩ := once (q := finR (writeR v13 2 (h : Int) new).2.up 2) S13 hh nl (pl8 h hh) sm13 rfl rfl
  rw [q0] at he2
  have e2' := err0 he2
  subst e2'
  -- its answer, as nil or not
  have nil1 : ((writeR v13 2 (h : Int) new).1 = 0 ∧ e1 = .nilIface) ∨ ((writeR v13 2 (h : Int) new).1 = 40 ∧ ∃ p, e1 = .iface T_p_api_Fault p) := by
    rcases r40 with r0 | r4
    · rw [r0] at he1'
      exact .inl ⟨r0, err0 he1'⟩
    · rw [r4] at he1'
      rcases he1' with ⟨h0, _⟩ | ⟨_, b', hv, _⟩
      · cases h0
      · exact .inr ⟨r4, _, hv⟩
  generalize writeR v13 2 (h : Int) new = r at *
  generalize finR r.2.up 2 = q at *
  refine ⟨fun _ w' => Kp no w16 w', ?_, ?_⟩
  · refine .inl ⟨rfl, cond_f rfl ?_⟩
    rcases nil1 with ⟨r0, rfl⟩ | ⟨r4, p, rfl⟩
    · have hd : q.1.1 = false := by
        rcases qc with ⟨_, c2⟩ | ⟨_, c2, _⟩
        · exact c2 r0
        · omega
      exact .inl ⟨rfl, cond_t rfl (cond_f hd (Kp.refl _ _))⟩
    · exact .inr ⟨_, _, rfl, cond_f rfl (Kp.refl _ _)⟩
  rintro _ w17 k17 _
  have ro := read_out (h := h) qu (by omega)
  refine tread_c (h16.kp0 k17) (qsm.mono (by omega)) fun a7 l7 c7 e7 w18 k18 s18 f18 he7 _ => ⟨_, _, _, _, rfl, ?_⟩
  rw [ro] at he7 s18
  have e7' := err0 he7
  subst e7'
  have hX : (q.2.sect h ++ q.2.sect (h + 1) = new) ∨ (q.2.sect h ++ q.2.sect (h + 1) = P h ∧ r.1 = 40 ∧ q.1.1 = false) := by
    rcases qc with ⟨c1, _⟩ | ⟨c1, c2, c3⟩
    · exact .inl (by rw [c1.1, c1.2, halves nl])
    · exact .inr ⟨by rw [c1.1, c1.2, halves (pl8 h hh)], c2, c3⟩
  have hXl : (q.2.sect h ++ q.2.sect (h + 1)).length = 1024 := by
    rcases hX with e | ⟨e, _⟩
    · rw [e]; exact nl
    · rw [e]; exact pl8 h hh
  have hXp : Pg q.2 h (q.2.sect h ++ q.2.sect (h + 1)) := by
    have l1 := sect_len qu.ok (i := h) (by have := qu.vn; omega)
    have l2 := sect_len qu.ok (i := h + 1) (by have := qu.vn; omega)
    constructor
    · rw [List.take_append_of_le_length (by omega), List.take_of_length_le (by omega)]
    · rw [List.drop_append_of_le_length (by omega), List.drop_eq_nil_of_le (by omega), List.nil_append, List.take_of_length_le (by omega)]
  generalize q.2.sect h ++ q.2.sect (h + 1) = X at *
  have D18 := (D16.kp k17).kp k18
  have N18 := (N16.fr (Fro.kp0 k17) trivial).fr (Fro.kp0 k18) trivial
  have h18 := (h16.kp0 k17).kp0 k18
  have cx : ∀ w' (K : Value → World → Prop), Kp no w18 w' → (∀ z : ByteArray, z.toList = X → K (.string z) w') → RunF Try.prog (convert T_s_uint8 T_string (.slice a7 l7 c7)) w' K := fun w' K k hk => conv_c (s18.kp0 k) hk
  have cn : ∀ w' (K : Value → World → Prop), Kp no w18 w' → (∀ z : ByteArray, z.toList = new → K (.string z) w') → RunF Try.prog (convert T_s_uint8 T_string (.slice (some ⟨b4, 0, none⟩) 1024 1024)) w' K := fun w' K k hk => conv_c (N18.sl.kp0 k) hk
  have eqc : ∀ {z1 z2 : ByteArray} {Y1 Y2 : List UInt8}, z1.toList = Y1 → z2.toList = Y2 → Y1 = Y2 → (!(z1.toList == z2.toList)) = false := fun h1 h2 he => by rw [h1, h2, he, beq_self_eq_true]; rfl
  have hb13 : h < 13 := by omega
  refine ⟨fun _ w' => Kp no w18 w', ?_, ?_⟩
  · have kd : Kp no w18 w18.drew := Kp.drew w18 1
    obtain ⟨zo, zo1, zo2⟩ := Z8 h hh
    have rest : ∀ z2 z3 : ByteArray, z2.toList = X → z3.toList = new → (!(z2.toList == z3.toList)) = true → X = P h ∧ r.1 = 40 ∧ q.1.1 = false := fun z2 z3 h2 h3 hne => by
      rcases hX with e | e
      · rw [eqc h2 h3 e] at hne
        cases hne
      · exact e
    have tail : ∀ w20, Kp no w18 w20 → (X = P h ∧ r.1 = 40 ∧ q.1.1 = false) → IfNil e1 fun q7 => (cond q7 (R (.returned (.bool false)) w20) (cond q.1.1 (R (.returned (.bool false)) w20) (BdF (h : Int) 13 (∃ (z4 : ByteArray), (∀ w, Kp no w18 w → w.cell? (Addr.add ⟨b1, 0, none⟩ (Int.toNat (h : Int))) = some (.string z4)) ∧ (RunF Try.prog (convert T_s_uint8 T_string (.slice a7 l7 c7)) w20 fun r15 w21 => ∃ (z5 : ByteArray), r15 = (.string z5) ∧ (Kp no w18 w21 ∧ (cond (!(ByteArray.toList z5 == ByteArray.toList z4)) (R (.returned (.bool false)) w21) (Kp no w18 w21)))))))) := fun w20 k20 ⟨x1, x2, x3⟩ => by
      rcases nil1 with ⟨r0, _⟩ | ⟨r4, p, rfl⟩
      · omega
      · exact .inr ⟨_, _, rfl, cond_f rfl (cond_f x3 ⟨by omega, by omega, zo, fun w hw => Nw.at (hw.blk D18.nw.x id) zo1, cx _ _ k20 fun z5 h5 => ⟨_, rfl, k20, cond_f (eqc h5 zo2 x1) k20⟩⟩)⟩
    refine ⟨fun w' => Kp no w18 w', kd, .inl ⟨rfl, cond_f rfl ⟨?_, ?_⟩⟩⟩
    · refine cx _ _ kd fun z2 h2 => ⟨_, rfl, kd, cn _ _ kd fun z3 h3 => ⟨_, rfl, kd, cond_b (fun hne => ?_) (fun _ => kd)⟩⟩
      exact tail _ kd (rest z2 z3 h2 h3 hne)
    · refine cn _ _ kd fun z3 h3 => ⟨_, rfl, kd, cx _ _ kd fun z2 h2 => ⟨_, rfl, kd, cond_b (fun hne => ?_) (fun _ => kd)⟩⟩
      exact tail _ kd (rest z2 z3 h2 h3 hne)
  rintro _ w25 k25 _
  refine cx _ _ k25 fun z10 hz10 => ⟨_, rfl, by omega, by omega, ?_⟩
  have D25 := D18.kp k25
  refine D25.nw.put (k := h) hb13 fun w27 N27 k27 => ?_
  have f27 := fro_own k27 D25.nw.t
  have D27 : Sd W w27 ow16 b1 (zs.set h z10) := ⟨D25.old.fr f27 (by omega), N27⟩
  have Z27 := Z8.set (k := h) (by have := D8.nw.n; omega) hz10
  have S27 := Rest.sto S13 hh qu qz qo hXp
  have pl27 : ∀ k, (k = 5 ∨ k = 7 ∨ k = 9 ∨ k = 11) → ((fun k => if k = h then X else P k) k).length = 1024 := fun k hk => by
    dsimp only
    split
    · exact hXl
    · exact pl8 k hk
  generalize (fun k => if k = h then X else P k) = P' at *
  have h27 := (h18.kp0 k25).fr f27 (by omega) (by omega) (by omega) (by omega)
  have fz := fin_zero (at_ := 2) qu (by omega) qz
  rw [show ((2 : Nat) : Int) = 2 from rfl] at fz
  refine tfinish_c h27 (qsm.mono (by omega)) fun e8 w28 ow28 h28 f28 he8 _ => ⟨_, _, rfl, ?_⟩
  rw [fz] at h28 he8 ⊢
  have e8' := err0 he8
  subst e8'
  have D28 := D27.td f28
  refine cond_f rfl (.inl ⟨rfl, cond_f rfl ?_⟩)
  refine loopN (fun st w' => ∃ j : Nat, j ≤ 4 ∧ st.1 = ((5 + 2 * j : Nat) : Int) ∧ Kp no w28 w') (fun st _ => 13 - st.1.toNat) ⟨0, by omega, rfl, Kp.refl _ _⟩ ?_
  rintro ⟨j0, u⟩ w29 ⟨j, hj, hj0, k29⟩ _
  dsimp only at hj0 ⊢
  subst hj0
  have D29 := D28.kp k29
  refine cond_d (fun hlt => ?_) (fun hge => ?_)
  · have e9 : IntKind.wrap .i64 (((5 + 2 * j : Nat) : Int) + 2) = ((5 + 2 * (j + 1) : Nat) : Int) := by rw [wrap_i64 (by omega) (by omega)]; omega
    rw [e9]
    have h5 : 5 + 2 * j = 5 ∨ 5 + 2 * j = 7 ∨ 5 + 2 * j = 9 ∨ 5 + 2 * j = 11 := by omega
    have rp := read_pg (h := 5 + 2 * j) qu (by omega) (S27.pg _ h5) (pl27 _ h5)
    refine tread_c (h28.kp0 k29) (qsm.mono (by omega)) fun a9 l9 c9 e9 w30 k30 s30 f30 he9 _ => ⟨_, _, _, _, rfl, ?_⟩
    rw [rp] at he9 s30
    have e9' := err0 he9
    subst e9'
    have kd : Kp no w30 w30.drew := Kp.drew w30 1
    obtain ⟨zo, zo1, zo2⟩ := Z27 _ h5
    refine ⟨fun w' => Kp no w30 w', kd, .inl ⟨rfl, cond_f rfl ⟨by omega, by omega, zo, fun w hw => Nw.at (hw.blk (D29.kp k30).nw.x id) zo1, conv_c (s30.kp0 kd) fun z11 h11 => ⟨_, rfl, kd, cond_f (eqc h11 zo2 rfl) ?_⟩⟩⟩⟩
    exact ⟨⟨j + 1, by omega, rfl, (k29.trans0 k30).trans0 kd⟩, by simp only [Int.toNat_natCast]; omega⟩
  · rw [e4]
    exact ⟨⟨i + 1, by omega, by omega, rfl, ow28, q.2, P', _, h28.kp0 k29, qsm, qst, S27, pl27, D29, Z27⟩, by simp only [Int.toNat_natCast]; omega⟩

theorem twinOften_walk {W : World} {v0 v1 : Value} (h0 : ArgW Try.prog W T_s_int v0) (h1 : ArgW Try.prog W T_s_quotalaw08_Fall v1) :
    GoC Try.prog F_law08_TwinOften #[v0, v1] W fun e W' => e = .returned (.bool true) ∧ Kp no W W' := by
  obtain ⟨a, l, c, L, rfl, hl, hr⟩ := ints_arg h0
  obtain ⟨a2, l2, c2, M, rfl, hL⟩ := falls_open h1
  exact often_c hr hl hL fun w' k => ⟨rfl, k⟩
end Go.Proofs.Ytalkkhocljehfaa
