/- The contract of the package page's Encode. Conditions: the tables stand. -/
import Derived.Test.YtnkdonpammdldaaDoorGd
set_option linter.unusedVariables false
set_option linter.unusedSimpArgs false
namespace Go.Proofs.YtnkdonpammdldaaDoor
open Go Go.RowKit

def headS : List Int := [1, 1, 2, 2, 2, 4]
def ctrS : List Int := [4, 4, 8, 8, 8]
def grpS : List Int := [4, 8]
/-- The three lists of sizes stand. -/
structure Szs (w : World) : Prop where
  h : ∃ a c, w.cell? ⟨2, 0, none⟩ = some (.slice a 6 c) ∧ Rd w a (ints headS)
  c : ∃ a c, w.cell? ⟨3, 0, none⟩ = some (.slice a 5 c) ∧ Rd w a (ints ctrS)
  g : ∃ a c, w.cell? ⟨4, 0, none⟩ = some (.slice a 2 c) ∧ Rd w a (ints grpS)

theorem rd_lt {w : World} {a : Option Addr} {xs : List Value} (h : Rd w a xs) (hx : xs ≠ []) : ∀ k, Is a k → k < w.heap.size := by
  obtain ⟨b, o, ha, hb, _⟩ := h.addr hx
  rintro k ⟨ad, had, rfl⟩
  rw [ha] at had
  cases had
  exact hb

def u64n (n : Int) : Nat := (n % 18446744073709551616).toNat
theorem u64n_lt (n : Int) : u64n n < 18446744073709551616 := by unfold u64n; omega
theorem u64_code (n : Int) : IntKind.wrap .u64 n = ((u64n n : Nat) : Int) := by
  have h1 := Int.emod_nonneg n (show (18446744073709551616 : Int) ≠ 0 by omega)
  have h2 : IntKind.wrap .u64 n = n % 18446744073709551616 := by simp [IntKind.wrap, IntKind.signed, IntKind.bits]
  rw [h2]
  unfold u64n
  omega

def ctrN (c : CL) : List Nat := [u64n c.id, u64n c.grp, u64n c.lo, u64n c.hi, u64n c.val]
def grpN (g : GL) : List Nat := [u64n g.id, u64n g.sum]
@[irreducible] def ctr1 (B : List UInt8) (i : Nat) (c : CL) : List UInt8 := laidP B ((16 + 32 * i : Nat) : Int) (ctrS.zip (ctrN c))
@[irreducible] def grp1 (B : List UInt8) (i : Nat) (g : GL) : List UInt8 := laidP B ((16 + 12 * i : Nat) : Int) (grpS.zip (grpN g))
theorem ctr1_len (B : List UInt8) (i : Nat) (c : CL) : (ctr1 B i c).length = B.length := by unfold ctr1; generalize ctrS.zip (ctrN c) = q; exact laidP_len q _ _
theorem grp1_len (B : List UInt8) (i : Nat) (c : GL) : (grp1 B i c).length = B.length := by unfold grp1; generalize grpS.zip (grpN c) = q; exact laidP_len q _ _
def ctrsP : List UInt8 → Nat → List CL → List UInt8
  | B, _, [] => B
  | B, i, c :: r => ctrsP (ctr1 B i c) (i + 1) r
def grpsP : List UInt8 → Nat → List GL → List UInt8
  | B, _, [] => B
  | B, i, g :: r => grpsP (grp1 B i g) (i + 1) r
/-- A page's bytes before anything is laid. -/
def page0 : List UInt8 := List.replicate 1024 0
theorem page0_len : page0.length = 1024 := List.length_replicate
def sumS : List Int := [4]
def bodyP (num lsn : Int) (cs : List CL) (gs : List GL) : List UInt8 :=
  grpsP (ctrsP (laidP page0 0 (headS.zip [113, if 0 < gs.length then 2 else 1, u64n num, cs.length + gs.length, 0, u64n lsn])) 0 cs) 0 gs
/-- A page's bytes, if it is right. -/
def encB (num lsn : Int) (cs : List CL) (gs : List GL) : List UInt8 :=
  if cs.length + gs.length = 0 then page0
  else laidP (bodyP num lsn cs gs) 12 (sumS.zip [psumN (bodyP num lsn cs gs)])

theorem ctrsP_len : ∀ (l : List CL) (B : List UInt8) (i : Nat), (ctrsP B i l).length = B.length
  | [], _, _ => rfl
  | c :: r, B, i => by rw [ctrsP, ctrsP_len r, ctr1_len]
theorem grpsP_len : ∀ (l : List GL) (B : List UInt8) (i : Nat), (grpsP B i l).length = B.length
  | [], _, _ => rfl
  | c :: r, B, i => by rw [grpsP, grpsP_len r, grp1_len]
theorem encB_len (num lsn : Int) (cs : List CL) (gs : List GL) : (encB num lsn cs gs).length = 1024 := by
  unfold encB
  split
  · exact page0_len
  · rw [laidP_len]; unfold bodyP; rw [grpsP_len, ctrsP_len, laidP_len]; exact page0_len
end Go.Proofs.YtnkdonpammdldaaDoor
