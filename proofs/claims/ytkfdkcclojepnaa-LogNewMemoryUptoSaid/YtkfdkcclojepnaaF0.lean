/- General lemmas for the contracts of the package field and of those above it. Conditions: none. -/
import Derived.Test.YtkfdkcclojepnaaM2
import Derived.Test.YtkfdkcclojepnaaNum
import Derived.Test.YtkfdkcclojepnaaG
set_option linter.unusedVariables false
namespace Go.Proofs.Ytkfdkcclojepnaa
open Go Go.RowKit

theorem elemRow {P : Program} {t e : TypeId} {z : Value} {s b : Nat} (ht : P.underlying t = some (.slice e)) (h : (P.info? e).map (fun i => (i.zero, i.size, i.bytes)) = some (some z, s, b)) (hz : z.cells.size = s) : ElemRow P t e z s b := by
  obtain ⟨i, hi, h1, h2, h3⟩ := info_parts h
  exact ⟨ht, i, hi, h1, h2, h3, hz⟩

theorem er_u8 : ElemRow Try.prog T_s_uint8 T_uint8 (.int .u8 0) 1 1 := elemRow (by kernel_rfl) (by kernel_rfl) rfl

theorem bvs_len (l : List UInt8) : (bvs l).length = l.length := by simp [bvs]
theorem bvs_app (l r : List UInt8) : bvs (l ++ r) = bvs l ++ bvs r := by simp [bvs]

theorem take_snoc_get {α : Type} (l : List α) (k : Nat) (h : k < l.length) : l.take (k + 1) = l.take k ++ [l[k]] := by
  rw [List.take_succ_eq_append_getElem h]

theorem or_shift {a b i : Nat} (h : a < 2 ^ i) : a ||| b * 2 ^ i = a + b * 2 ^ i := by
  rw [Nat.or_comm, Nat.mul_comm, ← Nat.two_pow_add_eq_or_of_lt h, Nat.add_comm]

theorem Sl.zero {w : World} {e : TypeId} {l c : Nat} {xs : List Value} (h : Sl w e 1 none l c xs) : l = 0 ∧ c = 0 := by
  rcases h.2.2 with ⟨_, h0⟩ | ⟨_, _, h0, _⟩
  · have := h.2.1; omega
  · cases h0

theorem rd_drop {w : World} {g : Option Addr} {bs : List UInt8} {c k : Nat} (h : Rd w g (bvs bs)) (hc : bs.length ≤ c) : Rd w (subA g c k 1) (bvs (bs.drop k)) := by
  intro i v hv
  by_cases hck : c = k
  · have : bs.drop k = [] := List.drop_eq_nil_of_le (by omega)
    rw [this] at hv
    simp [bvs] at hv
  · have hv' : (bvs bs)[k + i]? = some v := by
      simpa [bvs, List.getElem?_map, List.getElem?_drop] using hv
    obtain ⟨b, o, hg, hcell⟩ := h _ _ hv'
    subst hg
    refine ⟨b, o + k, ?_, by rw [Nat.add_assoc]; exact hcell⟩
    unfold subA
    rw [if_neg hck, Option.map_some, Nat.mul_one, add_at]

theorem getD_get {l : List UInt8} {k : Nat} (h : k < l.length) : l.getD k 0 = l[k] := by simp [h]

end Go.Proofs.Ytkfdkcclojepnaa
