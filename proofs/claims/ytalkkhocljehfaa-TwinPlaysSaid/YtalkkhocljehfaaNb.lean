/- Layer 8: put, get. Conditions: the disk's queue and its loss's list are short. -/
import Derived.Test.YtalkkhocljehfaaNa
set_option linter.unusedVariables false
set_option linter.unusedSimpArgs false
namespace Go.Proofs.Ytalkkhocljehfaa
open Go Go.RowKit

/-- What bounds a disk's lists. -/
structure Dv.Sm (v : Dv) (m : Nat) : Prop where
  q : v.q.length ≤ m
  k : v.keep.length * 8 ≤ 140737488355328
theorem Dv.Sm.mono {v : Dv} {m m' : Nat} (h : v.Sm m) (hm : m ≤ m') : v.Sm m' := ⟨Nat.le_trans h.q hm, h.k⟩
theorem Dv.write_sm {v : Dv} {i : Int} {b : List UInt8} {m : Nat} (h : v.Sm m) : (v.write i b).2.Sm (m + 1) := by
  unfold Dv.write
  repeat' split
  · exact h.mono (by omega)
  · exact h.mono (by omega)
  · exact h.mono (by omega)
  · exact ⟨by simp [Dv.fall], by simp [Dv.fall]⟩
  · exact ⟨by simp [Dv.add, Dv.bump, h.q], h.k⟩
theorem Dv.sync_sm {v : Dv} {m : Nat} (h : v.Sm m) : v.sync.2.Sm m := by
  unfold Dv.sync
  repeat' split
  · exact h
  · exact ⟨by simp [Dv.fall], by simp [Dv.fall]⟩
  · exact ⟨by simp [Dv.synced], h.k⟩
/-- Writes one behind the other, and a sync. -/
def putL : Dv → Int → List (List UInt8) → Nat × Dv
  | v, _, [] => v.sync
  | v, i, b :: r => if (v.write i b).1 ≠ 0 then v.write i b else putL (v.write i b).2 (i + 1) r
theorem putL_sm : ∀ (l : List (List UInt8)) {v : Dv} {i : Int} {m : Nat}, v.Sm m → (putL v i l).2.Sm (m + l.length)
  | [], v, i, m, h => Dv.sync_sm h
  | b :: r, v, i, m, h => by
    rw [putL]
    have h1 := Dv.write_sm (i := i) (b := b) h
    split
    · exact h1.mono (by simp only [List.length_cons]; omega)
    · have := putL_sm r (i := i + 1) h1
      exact this.mono (by simp only [List.length_cons]; omega)
theorem putL_Ok : ∀ (l : List (List UInt8)) {v : Dv} (i : Int), v.Ok → (putL v i l).2.Ok
  | [], v, i, h => h.sync
  | b :: r, v, i, h => by
    rw [putL]
    split
    · exact h.write i b
    · exact putL_Ok r (i + 1) (h.write i b)
def chunkL : Nat → List UInt8 → List (List UInt8)
  | 0, _ => []
  | k + 1, bs => bs.take 512 :: chunkL k (bs.drop 512)
theorem chunkL_len : ∀ k bs, (chunkL k bs).length = k
  | 0, _ => rfl
  | k + 1, bs => by rw [chunkL, List.length_cons, chunkL_len k]

theorem RdT.sub {w : World} {ow : Nat → Nat} {U : Nat → Prop} {a : Option Addr} {c lo n : Nat} {bs : List UInt8} (h : RdT w ow U a (bvs bs)) (hn : lo < bs.length) (hc : lo < c) : RdT w ow U (subA a c lo 1) (bvs ((bs.drop lo).take n)) := fun i v hv => by
  unfold bvs at hv
  rw [List.getElem?_map, List.getElem?_take] at hv
  split at hv
  · rw [List.getElem?_drop] at hv
    obtain ⟨b, o, ha, hcell, hu⟩ := h (lo + i) v (by unfold bvs; rw [List.getElem?_map]; exact hv)
    subst ha
    refine ⟨b, o + lo, ?_, by rw [Nat.add_assoc]; exact hcell, hu⟩
    unfold subA
    rw [if_neg (by omega)]
    simp [Addr.add]
  · cases hv
theorem wk8 {k n : Nat} (h : k < n) (hn : n ≤ 100000) : IntKind.wrap .i64 ((k : Int) + 1) = ((k + 1 : Nat) : Int) := by rw [wrap_i64 (by omega) (by omega)]; omega

set_option maxRecDepth 100000 in
theorem put_c {w : World} {ow : Nat → Nat} {t b l c k : Nat} {v : Dv} {at_ : Int} {a : Option Addr} {bs : List UInt8} {R : Ending → World → Prop} (h : DX w ow t b v) (hs : v.Sm 800000) (hr : Bs w ow t a bs) (hl : bs.length = l) (hk : l = 512 * k) (hk2 : k ≤ 10) (hc : l ≤ c) (hat : 0 ≤ at_ ∧ at_ ≤ 100000000000)
    (hK : ∀ w' ow', DX w' ow' t b (putL v at_ (chunkL k bs)).2 → Fro (Td t) w ow w' ow' → ((putL v at_ (chunkL k bs)).1 = 0 → R (.returned (.tuple #[])) w') ∧ ((putL v at_ (chunkL k bs)).1 ≠ 0 → Gv (((putL v at_ (chunkL k bs)).1 : Nat) : Int) R w')) :
    GoC Try.prog F_twin_put #[.pointer (some ⟨b, 0, none⟩), .int .i64 at_, .slice a l c] w R := by
  refine S_twin_put ?_
  unfold W_twin_put
  refine loopN (fun st w' => ∃ j : Nat, j ≤ k ∧ st.1 = (j : Int) ∧ ∃ v' ow', DX w' ow' t b v' ∧ v'.Sm (800000 + j) ∧ Fro (Td t) w ow w' ow' ∧ putL v at_ (chunkL k bs) = putL v' (at_ + j) (chunkL (k - j) (bs.drop (j * 512)))) (fun st _ => k - st.1.toNat)
    ⟨0, by omega, rfl, v, ow, h, hs, ⟨Kp.refl _ _, fun _ _ _ => rfl⟩, by simp⟩ ?_
  rintro ⟨j0, u⟩ w1 ⟨j, hj, hj0, v', ow1, h1, sm1, f1, e1⟩ _
  dsimp only at hj0 ⊢
  subst hj0
  have m1 : IntKind.wrap .i64 ((j : Int) * 512) = ((j * 512 : Nat) : Int) := by rw [wrap_i64 (by omega) (by omega)]; omega
  rw [m1]
  refine cond_d (fun hlt => ?_) (fun hge => ?_)
  · have m2 : IntKind.wrap .i64 ((j : Int) + 1) = ((j + 1 : Nat) : Int) := wk8 (n := 20) (by omega) (by omega)
    have m3 : IntKind.wrap .i64 (((j + 1 : Nat) : Int) * 512) = (((j + 1) * 512 : Nat) : Int) := by rw [wrap_i64 (by omega) (by omega)]; omega
    have m4 : IntKind.wrap .i64 (at_ + (j : Int)) = at_ + (j : Int) := wrap_i64 (by omega) (by omega)
    rw [m2, m3, m4]
    refine ⟨⟨by omega, by omega⟩, ⟨by omega, by show ((j * 512 : Nat) : Int) ≤ (((Int.toNat (((j + 1) * 512 : Nat) : Int)) : Nat) : Int); omega⟩, ?_⟩
    rw [Int.toNat_natCast, Int.toNat_natCast, show (j + 1) * 512 - j * 512 = 512 by omega]
    have hB : Bs w1 ow1 t (subA a c (j * 512) 1) ((bs.drop (j * 512)).take 512) := ⟨(hr.fr f1 fun _ hu => hu).rd.sub (by omega) (by omega), by rw [List.length_take]; omega, fun hh => by
      have hh2 := hr.rd (j * 512) (bv (bs[j * 512]'(by omega))) (bvs_get (by omega))
      obtain ⟨b', o', ha, _⟩ := hh2
      subst ha
      unfold subA at hh
      rw [if_neg (by omega)] at hh
      cases hh⟩
    have e2 : chunkL (k - j) (bs.drop (j * 512)) = (bs.drop (j * 512)).take 512 :: chunkL (k - (j + 1)) (bs.drop ((j + 1) * 512)) := by
      rw [show k - j = (k - (j + 1)) + 1 by omega, chunkL, List.drop_drop]
      congr 2
      congr 1
      omega
    rw [e2, putL] at e1
    have sm2 := Dv.write_sm (i := at_ + (j : Int)) (b := (bs.drop (j * 512)).take 512) sm1
    have hl5 : ((bs.drop (j * 512)).take 512).length = 512 := by rw [List.length_take, List.length_drop]; omega
    have hw := write_c (i := at_ + (j : Int)) (c := c - j * 512) (R := fun e w' => match e with
      | .returned r1 => ∃ n2 : Int, r1 = .int .i64 n2 ∧ CallF Try.prog F_twin_must #[.int .i64 n2] w' (fun r2 w3 => r2 = (.tuple #[]) ∧ ((fun s' w' => (∃ j : Nat, j ≤ k ∧ s'.1 = (j : Int) ∧ ∃ v' ow', DX w' ow' t b v' ∧ v'.Sm (800000 + j) ∧ Fro (Td t) w ow w' ow' ∧ putL v at_ (chunkL k bs) = putL v' (at_ + j) (chunkL (k - j) (bs.drop (j * 512)))) ∧ k - s'.1.toNat < k - Int.toNat (j : Int)) (((j + 1 : Nat) : Int), ()) w3)) (PanF R)
      | .panicked ch => PanF R ch w'
      | .outgrown => False) h1 hB (by have := sm1.q; omega) sm1.k fun w2 ow2 h2 f2 => ?_
    · rw [hl5] at hw
      exact hw
    · refine ⟨_, rfl, must_c (fun h0 => ⟨rfl, ?_⟩) (fun hne => ?_)⟩
      · rw [if_neg (by omega)] at e1
        exact ⟨⟨j + 1, by omega, rfl, _, ow2, h2, sm2.mono (by omega), f1.trans f2, by rw [e1]; congr 1; omega⟩, by simp only [Int.toNat_natCast]; omega⟩
      · rw [if_pos (by omega)] at e1
        rw [e1] at hK
        exact (hK w2 ow2 h2 (f1.trans f2)).2 (by omega)
  · have hjk : j = k := by omega
    subst hjk
    rw [Nat.sub_self, chunkL, putL] at e1
    rw [e1] at hK
    refine sync_c h1 (by have := sm1.q; omega) sm1.k fun w2 ow2 h2 f2 => ⟨_, rfl, must_c (fun h0 => ⟨rfl, ?_⟩) (fun hne => ?_)⟩
    · exact (hK w2 ow2 h2 (f1.trans f2)).1 (by omega)
    · exact (hK w2 ow2 h2 (f1.trans f2)).2 (by omega)

theorem get_c {w : World} {ow : Nat → Nat} {t b : Nat} {v : Dv} {i : Int} {R : Ending → World → Prop} (h : DX w ow t b v) (hs : v.Sm 1000000)
    (hK : ∀ a' l' c' w', Kp no w w' → Sl w' T_uint8 1 a' l' c' (bvs (v.read i).1) → Fresh w a' → ((v.read i).2 = 0 → R (.returned (.slice a' l' c')) w') ∧ ((v.read i).2 ≠ 0 → Gv (((v.read i).2 : Nat) : Int) R w')) : GoC Try.prog F_twin_get #[.pointer (some ⟨b, 0, none⟩), .int .i64 i] w R := by
  refine S_twin_get ?_
  unfold W_twin_get
  refine readX_c h hs.q fun a' l' c' w' k s f => ⟨_, _, _, _, rfl, must_c (fun h0 => ⟨rfl, ?_⟩) (fun hne => ?_)⟩
  · exact (hK a' l' c' w' k s f).1 (by omega)
  · exact (hK a' l' c' w' k s f).2 (by omega)
end Go.Proofs.Ytalkkhocljehfaa
