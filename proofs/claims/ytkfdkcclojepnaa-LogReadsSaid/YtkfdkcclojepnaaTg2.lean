/- The disk's Load: its contract. Conditions: none. -/
import Derived.Test.YtkfdkcclojepnaaTg
set_option linter.unusedVariables false
set_option linter.unusedSimpArgs false
namespace Go.Proofs.Ytkfdkcclojepnaa
open Go Go.RowKit

section
variable {w : World} {ow : Nat → Nat} {t b : Nat} {v : Dv} {R : Ending → World → Prop}
theorem load_c {a : Option Addr} {c n : Nat} {bs : List UInt8} (hr : Rd w a (bvs bs)) (hl : bs.length = n * 512) (h1 : 1 ≤ n) (h2 : n ≤ 8192) (t : Nat) (hK : ∀ b w' ow', DX w' ow' t b (Dv.load bs) → Kp no w w' → (∀ j, j < w.heap.size → ow' j = ow j) → w.heap.size ≤ b → R (.returned (.tuple #[.pointer (some ⟨b, 0, none⟩), .int .i64 0])) w') :
    GoC Try.prog F_sectors_Load #[.slice a bs.length c] w R := by
  refine S_sectors_Load ?_
  unfold W_sectors_Load
  refine cond_eq (fun h0 => by omega) (fun h0 => ⟨by decide, cond_ne (fun h3 => ?_) (fun h3 => cond_d (fun h4 => by omega) (fun h4 => ?_))⟩)
  · have : Int.tmod (bs.length : Int) 512 = ((bs.length % 512 : Nat) : Int) := rfl
    rw [this] at h3
    omega
  have nn : a = none → bs.length = 0 := fun h0 => by
    obtain ⟨_, _, he, _⟩ := hr 0 (bv (bs[0]'(by omega))) (bvs_get _)
    rw [h0] at he
    cases he
  refine clone_c hr rfl nn (by omega) fun a' c' w1 hs k1 fr _ => ⟨_, _, _, rfl, AlF.intro fun b1 w2 hb1e hb1 k2 s2 => ?_⟩
  obtain ⟨ow', hd, ho⟩ := dev_new (ow := ow) (img := bs) k1 hs fr (Dv.Ok.load hl h1 h2) hb1 k2 hb1e t
  exact hK b1 w2 ow' hd (k1.trans0 k2) ho (by have := k1.size; omega)
theorem load_bad_c {a : Option Addr} {c l : Nat} (h : l = 0 ∨ l % 512 ≠ 0 ∨ 4194304 < l) (hK : R (.returned (.tuple #[.pointer none, .int .i64 43])) w) : GoC Try.prog F_sectors_Load #[.slice a l c] w R := by
  refine S_sectors_Load ?_
  unfold W_sectors_Load
  refine cond_eq (fun h0 => hK) (fun h0 => ⟨by decide, cond_ne (fun h3 => hK) (fun h3 => cond_d (fun h4 => hK) (fun h4 => ?_))⟩)
  have : Int.tmod (l : Int) 512 = ((l % 512 : Nat) : Int) := rfl
  rw [this] at h3
  omega
end
end Go.Proofs.Ytkfdkcclojepnaa
