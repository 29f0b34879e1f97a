/- The document's Kept. Conditions: none. -/
import Derived.Test.YtaehmogilimmfaaTg
set_option linter.unusedVariables false
set_option linter.unusedSimpArgs false
namespace Go.Proofs.Ytaehmogilimmfaa
open Go Go.RowKit

/-- Kept, as the document has it. -/
theorem Kept_c {w : World} {a : Option Addr} {c k : Nat} {keep : List Nat} {n1 n2 : Int} {R : Ending → World → Prop} (hr : Rd w a (keep.map u64v)) (hlt : ∀ x ∈ keep, x < 18446744073709551616) (hkl : keep.length ≤ 9223372036854775807) (hk : k ≤ 1000000000) (h : ∀ w', Kp no w w' → R (.returned (.bool (keptN keep k))) w') :
    GoC Try.prog F_ref03_Kept #[.agg #[.slice a keep.length c, .int .i64 n1, .int .i64 n2], .int .i64 (k : Int)] w R := by
  refine S_ref03_Kept ?_
  unfold W_ref03_Kept
  refine AlF.intro fun b1 w1 hb1e hb1 k1 s1 => ⟨by decide, ?_⟩
  have e1 : IntKind.wrap .i64 (Int.tdiv (k : Int) 64) = ((k / 64 : Nat) : Int) := by
    rw [show Int.tdiv (k : Int) 64 = ((k / 64 : Nat) : Int) from rfl]
    exact wrap_i64 (by omega) (by omega)
  have e2 : IntKind.wrap .u64 (Int.tmod (k : Int) 64) = ((k % 64 : Nat) : Int) := by
    rw [show Int.tmod (k : Int) 64 = ((k % 64 : Nat) : Int) from rfl]
    exact wrap_u64 (by omega) (by omega)
  rw [e1, e2]
  refine ⟨_, _, _, hb1.cell 0, cond_d (fun hlt' => ?_) (fun hge => ?_)⟩
  · have hkk : k / 64 < keep.length := by omega
    refine ⟨_, _, _, hb1.cell 0, by decide, ?_⟩
    obtain ⟨b, o, ha, hcell⟩ := (hr.kp0 k1) (k / 64) (u64v keep[k / 64]) (by simp [hkk])
    refine ⟨by omega, hlt', _, ha, (keep[k / 64] : Int), by rw [Int.toNat_natCast, add_at]; exact hcell, by decide, by omega, ?_⟩
    have hx := hlt _ (List.getElem_mem hkk)
    have e3 : andV .u64 (shrV .u64 (keep[k / 64] : Int) ((k % 64 : Nat) : Int)) 1 = ((keep[k / 64] / 2 ^ (k % 64) % 2 : Nat) : Int) := by
      rw [shrV_nat (by simp only [IntKind.bits]; omega), show (1 : Int) = ((1 : Nat) : Int) from rfl, andV_nat rfl (by simp only [IntKind.bits]; exact Nat.lt_of_le_of_lt (Nat.div_le_self _ _) (by omega)) (by simp only [IntKind.bits]; omega), and_1]
    rw [e3]
    have e4 : (((keep[k / 64] / 2 ^ (k % 64) % 2 : Nat) : Int) == 1) = keptN keep k := by
      unfold keptN
      rw [decide_eq_true hkk, Bool.true_and]
      have : keep.getD (k / 64) 0 = keep[k / 64] := by simp [hkk]
      rw [this]
      rw [Bool.eq_iff_iff, beq_iff_eq, decide_eq_true_eq]
      omega
    rw [e4]
    exact h w1 k1
  · have e4 : keptN keep k = false := by
      unfold keptN
      rw [decide_eq_false (by omega), Bool.false_and]
    have := h w1 k1
    rw [e4] at this
    exact this
end Go.Proofs.Ytaehmogilimmfaa
