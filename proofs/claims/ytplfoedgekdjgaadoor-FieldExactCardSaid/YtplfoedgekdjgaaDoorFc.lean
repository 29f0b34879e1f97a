/- Contracts of the package field: the reader's next, U, S, End, Fault. Conditions: lengths below 2^46. -/
import Derived.Test.YtplfoedgekdjgaaDoorFb
namespace Go.Proofs.YtplfoedgekdjgaaDoor
open Go Go.RowKit

theorem hi_step : ∀ (l : List UInt8) (k : Nat), k ≤ hiRun l → (h : k < l.length) → (128 ≤ (l[k]).toNat → k + 1 ≤ hiRun l) ∧ ((l[k]).toNat < 128 → hiRun l = k)
  | c :: r, 0, _, _ => by
    simp only [hiRun, List.getElem_cons_zero]
    constructor
    · intro h; rw [if_pos h]; omega
    · intro h; rw [if_neg (by omega)]
  | c :: r, k + 1, hk, h => by
    have hc : 128 ≤ c.toNat := by
      apply Classical.byContradiction
      intro hn
      simp only [hiRun, if_neg hn] at hk
      omega
    simp only [hiRun, if_pos hc] at hk ⊢
    have := hi_step r k (by omega) (by simpa using h)
    simp only [List.getElem_cons_succ]
    exact ⟨fun h => by have := this.1 h; omega, fun h => by rw [this.2 h]⟩
  | [], k, _, h => by simp at h

theorem gval_lt : ∀ l : List UInt8, gval l < 128 ^ l.length
  | [] => by simp [gval]
  | c :: r => by
    have := gval_lt r
    simp only [gval, List.length_cons, Nat.pow_succ]
    omega
theorem gval_snoc : ∀ (l : List UInt8) (x : UInt8), gval (l ++ [x]) = gval l + (x.toNat % 128) * 128 ^ l.length
  | [], x => by simp [gval]
  | c :: r, x => by
    rw [List.cons_append, gval, gval_snoc r x, gval, List.length_cons, Nat.pow_succ, Nat.mul_add, ← Nat.mul_assoc, ← Nat.mul_assoc, Nat.add_assoc]
    congr 2
    rw [Nat.mul_comm 128, Nat.mul_assoc, Nat.mul_assoc, Nat.mul_comm 128]
theorem take_snoc_get {α : Type} (l : List α) (k : Nat) (h : k < l.length) : l.take (k + 1) = l.take k ++ [l[k]] := by
  rw [List.take_succ_eq_append_getElem h]

theorem pow128 (k : Nat) : 128 ^ k = 2 ^ (7 * k) := by rw [Nat.pow_mul]

theorem or_shift {a b i : Nat} (h : a < 2 ^ i) : a ||| b * 2 ^ i = a + b * 2 ^ i := by
  rw [Nat.or_comm, Nat.mul_comm, ← Nat.two_pow_add_eq_or_of_lt h, Nat.add_comm]

/-- One group more: what the loop reckons. -/
theorem group_or {a k : Nat} {x : UInt8} (ha : a < 128 ^ k) (hk : k ≤ 8 ∨ (k = 9 ∧ x.toNat ≤ 1)) :
    orV .u64 (a : Int) (shlV .u64 (IntKind.wrap .u64 (andV .u8 ((x.toNat : Nat) : Int) 127)) (((7 * k : Nat)) : Int)) = ((a + (x.toNat % 128) * 128 ^ k : Nat) : Int) := by
  have hx := u8_lt x
  rw [show (127 : Int) = ((127 : Nat) : Int) from rfl, andV_nat rfl (by simpa [IntKind.bits] using hx) (by simp [IntKind.bits]), and_127, wrap_nat rfl (by simp only [IntKind.bits]; omega)]
  rw [shlV_nat rfl (by simp only [IntKind.bits]; omega)]
  have hp : 128 ^ k = 2 ^ (7 * k) := pow128 k
  have hlt : x.toNat % 128 * 2 ^ (7 * k) < 2 ^ 64 := by
    rcases hk with hk | ⟨rfl, h1⟩
    · have h2 : 2 ^ (7 * k) ≤ 2 ^ 56 := Nat.pow_le_pow_right (by omega) (by omega)
      have h3 : x.toNat % 128 < 128 := Nat.mod_lt _ (by omega)
      calc x.toNat % 128 * 2 ^ (7 * k) ≤ 127 * 2 ^ 56 := Nat.mul_le_mul (by omega) h2
        _ < 2 ^ 64 := by decide
    · have h3 : x.toNat % 128 ≤ 1 := by omega
      calc x.toNat % 128 * 2 ^ (7 * 9) ≤ 1 * 2 ^ (7 * 9) := Nat.mul_le_mul_right _ h3
        _ < 2 ^ 64 := by decide
  simp only [IntKind.bits]
  rw [Nat.mod_eq_of_lt hlt]
  have ha64 : a < 2 ^ 64 := by
    refine Nat.lt_of_lt_of_le ha ?_
    rw [hp]
    exact Nat.pow_le_pow_right (by omega) (by omega)
  rw [orV_nat rfl ha64 hlt, or_shift (hp ▸ ha), hp]

theorem Sl.zero {w : World} {e : TypeId} {l c : Nat} {xs : List Value} (h : Sl w e 1 none l c xs) : l = 0 ∧ c = 0 := by
  rcases h.2.2 with ⟨_, h0⟩ | ⟨_, _, h0, _⟩
  · have := h.2.1; omega
  · cases h0

theorem rd_drop {w : World} {g : Option Addr} {bs : List UInt8} {c k : Nat} (h : Rd w g (bvs bs)) (hc : bs.length ≤ c) : Rd w (subA g c k 1) (bvs (bs.drop k)) := by
  intro i v hv
  by_cases hck : c = k
  · have : bs.drop k = [] := List.drop_eq_nil_of_le (by omega)
    rw [this] at hv
    simp [bvs] at hv
  · have hv' : (bvs bs)[k + i]? = some v := by
      simpa [bvs, List.getElem?_map, List.getElem?_drop] using hv
    obtain ⟨b, o, hg, hcell⟩ := h _ _ hv'
    subst hg
    refine ⟨b, o + k, ?_, by rw [Nat.add_assoc]; exact hcell⟩
    unfold subA
    rw [if_neg hck, Option.map_some, Nat.mul_one, add_at]

theorem parse_form {l : List UInt8} (h : 10 ≤ hiRun l) : parse l = (0, 0, 22) := by unfold parse; rw [if_pos h]
theorem getD_get {l : List UInt8} {k : Nat} (h : k < l.length) : l.getD k 0 = l[k] := by simp [h]

theorem next_c {w : World} {B : Nat} {g : Option Addr} {bs : List UInt8} {at_ e : Nat} {R : Ending → World → Prop} (hr : Re w B g bs at_ e) (hb : bs.length < 70368744177664)
    (h : ∀ w', Kp no w w' → R (.returned (.tuple #[.int .u64 ((parse (bs.drop at_)).1 : Int), .int .i64 ((parse (bs.drop at_)).2.1 : Int), .int .i64 ((parse (bs.drop at_)).2.2 : Int)])) w') :
    GoC Tryd.prog F_field_Reader_next #[.pointer (some ⟨B, 0, none⟩)] w R := by
  refine S_field_Reader_next ?_
  unfold W_field_Reader_next
  obtain ⟨⟨c, h1, h2⟩, h3, h4⟩ := hr
  have hcells : ∀ k, Blk (w.drewN k) B #[.slice g bs.length c, .int .i64 (at_ : Int), .int .i64 (e : Int)] T_field_Reader := fun k => h1
  refine ⟨g, bs.length, c, by rw [h1.cell]; rfl, ?_⟩
  refine ⟨(at_ : Int), by rw [add_at, h1.cell]; rfl, trivial, ⟨by omega, by simp only [hiOf]; omega⟩, fun k1 => ?_⟩
  rw [Int.toNat_natCast]
  have hrd : Rd (w.drewN k1) (subA g c at_ 1) (bvs (bs.drop at_)) := rd_drop (h2.kp0 (Kp.drew w k1)).rd h2.2.1
  have hlen : (bs.drop at_).length = bs.length - at_ := by simp
  generalize hrest : bs.drop at_ = rest at *
  refine loopN (fun s w1 => w1 = w.drewN k1 ∧ ∃ k : Nat, s.2.1 = (k : Int) ∧ k ≤ rest.length ∧ k ≤ 10 ∧ k ≤ hiRun rest ∧ (k ≤ 9 → s.1 = (gval (rest.take k) : Int))) (fun s _ => rest.length - s.2.1.toNat)
    ⟨rfl, 0, rfl, Nat.zero_le _, by omega, Nat.zero_le _, fun _ => by simp [gval]⟩ ?_
  rintro ⟨n, kk, u⟩ w1 ⟨rfl, k, hk, hkl, hk10, hhi, hn⟩ _
  dsimp only at hk hn ⊢
  subst hk
  refine cond_d (fun hlt => ?_) (fun hge => ?_)
  · have hkl' : k < rest.length := by omega
    refine hrd.idx (by omega) hlt (by rw [bvs_len]; omega) fun b o hg hc => ?_
    refine ⟨((rest[k]).toNat : Int), ?_, ?_⟩
    · rw [Int.toNat_natCast, add_at]
      exact hc k _ (bvs_get hkl')
    have hst := hi_step rest k hhi hkl'
    refine cond_eq (fun h10 => ?_) (fun h10 => ?_)
    · have : k = 10 := by omega
      have hp := parse_form (l := rest) (by omega)
      rw [hp] at h
      exact h _ (Kp.drew w k1)
    · have hk9 : k ≤ 9 := by omega
      have hw7 : IntKind.wrap .i64 (7 * (k : Int)) = ((7 * k : Nat) : Int) := by rw [wrap_i64 (by omega) (by omega)]; omega
      have hwk : IntKind.wrap .i64 ((k : Int) + 1) = ((k + 1 : Nat) : Int) := by rw [wrap_i64 (by omega) (by omega)]; omega
      have hgl : (rest.take k).length = k := by rw [List.length_take]; omega
      have hglt : gval (rest.take k) < 128 ^ k := by have := gval_lt (rest.take k); rwa [hgl] at this
      rw [hw7, hwk, hn hk9]
      refine ⟨by omega, cond_d (fun hc128 => ?_) (fun hc128 => ?_)⟩
      · refine ⟨⟨rfl, k + 1, rfl, by omega, by omega, hst.1 (by omega), fun hk8 => ?_⟩, by simp only [Int.toNat_natCast]; omega⟩
        rw [group_or hglt (.inl (by omega)), take_snoc_get rest k hkl', gval_snoc, hgl]
      · have hrun : hiRun rest = k := hst.2 (by omega)
        have hnl : ¬ (10 ≤ hiRun rest) := by omega
        have hnl2 : ¬ (hiRun rest = rest.length) := by omega
        have good : ¬ ((0 < k ∧ (rest[k]).toNat = 0) ∨ (k = 9 ∧ 1 < (rest[k]).toNat)) →
            R (.returned (.tuple #[.int .u64 (orV .u64 ((gval (rest.take k) : Nat) : Int) (shlV .u64 (IntKind.wrap .u64 (andV .u8 ((rest[k]).toNat : Int) 127)) ((7 * k : Nat) : Int))), .int .i64 ((k + 1 : Nat) : Int), .int .i64 0])) (w.drewN k1) := by
          intro hno
          have hp : parse rest = (gval (rest.take (k + 1)), k + 1, 0) := by
            unfold parse
            rw [if_neg hnl, if_neg hnl2, hrun, getD_get hkl', if_neg hno]
          rw [hp] at h
          rw [group_or hglt (by omega)]
          have := h _ (Kp.drew w k1)
          rw [take_snoc_get rest k hkl', gval_snoc, hgl] at this
          exact this
        have bad : ((0 < k ∧ (rest[k]).toNat = 0) ∨ (k = 9 ∧ 1 < (rest[k]).toNat)) → R (.returned (.tuple #[.int .u64 0, .int .i64 0, .int .i64 22])) (w.drewN k1) := by
          intro hyes
          have hp : parse rest = (0, 0, 22) := by
            unfold parse
            rw [if_neg hnl, if_neg hnl2, hrun, getD_get hkl', if_pos hyes]
          rw [hp] at h
          exact h _ (Kp.drew w k1)
        refine cond_d (fun h0 => cond_eq (fun hz => bad (.inl ⟨by omega, by omega⟩)) fun hz => ?_) (fun h0 => ?_)
        · exact cond_eq (fun h9 => cond_d (fun h1 => bad (.inr ⟨by omega, by omega⟩)) fun h1 => good (by omega)) fun h9 => good (by omega)
        · exact cond_eq (fun h9 => cond_d (fun h1 => bad (.inr ⟨by omega, by omega⟩)) fun h1 => good (by omega)) fun h9 => good (by omega)
  · have hkl' : k = rest.length := by omega
    refine ⟨g, bs.length, c, by rw [(hcells k1).cell]; rfl, ?_⟩
    refine ⟨(at_ : Int), by rw [add_at, (hcells k1).cell]; rfl, fun k2 => ?_⟩
    rw [wrap_i64 (by omega) (by omega)]
    have hhl := hiRun_le rest
    have kk : Kp no w ((w.drewN k1).drewN k2) := (Kp.drew w k1).trans0 (Kp.drew _ k2)
    refine cond_d (fun h10 => ?_) (fun h10 => ?_)
    · rw [parse_form (l := rest) (by omega)] at h
      exact h _ kk
    · have hp : parse rest = (0, 0, 20) := by
        unfold parse
        rw [if_neg (by omega), if_pos (by omega)]
      rw [hp] at h
      exact h _ kk
end Go.Proofs.YtplfoedgekdjgaaDoor
