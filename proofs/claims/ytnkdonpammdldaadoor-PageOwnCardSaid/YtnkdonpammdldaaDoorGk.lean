/- Plain: what a page's bytes say. Conditions: none. -/
import Derived.Test.YtnkdonpammdldaaDoorGj
set_option linter.unusedVariables false
set_option linter.unusedSimpArgs false
namespace Go.Proofs.YtnkdonpammdldaaDoor
open Go Go.RowKit

def rdN (B : List UInt8) (at_ size : Nat) : Nat := leN ((B.drop at_).take size)
def i64 (n : Nat) : Int := IntKind.wrap .i64 (n : Int)
def byteN (B : List UInt8) (i : Nat) : Nat := (B.getD i 0).toNat
def dNum (B : List UInt8) : Nat := rdN B 2 2
def dN (B : List UInt8) : Nat := rdN B 4 2
def dSp (B : List UInt8) : Nat := rdN B 6 2
def dLsn (B : List UInt8) : Nat := rdN B 8 4
def dSum (B : List UInt8) : Nat := rdN B 12 4
def dMost (B : List UInt8) : Nat := if byteN B 1 = 2 then 84 else 31
def dWide (B : List UInt8) : Nat := if byteN B 1 = 2 then 12 else 32
def ctrAt (B : List UInt8) (i : Nat) : CL := ⟨i64 (rdN B (16 + 32 * i) 4), i64 (rdN B (16 + 32 * i + 4) 4), i64 (rdN B (16 + 32 * i + 8) 8), i64 (rdN B (16 + 32 * i + 16) 8), i64 (rdN B (16 + 32 * i + 24) 8)⟩
def grpAt (B : List UInt8) (i : Nat) : GL := ⟨i64 (rdN B (16 + 12 * i) 4), i64 (rdN B (16 + 12 * i + 4) 8)⟩
def csK (B : List UInt8) (k : Nat) : List CL := if byteN B 1 = 2 then [] else (List.range k).map (ctrAt B)
def gsK (B : List UInt8) (k : Nat) : List GL := if byteN B 1 = 2 then (List.range k).map (grpAt B) else []
def decCs (B : List UInt8) : List CL := csK B (dN B)
def decGs (B : List UInt8) : List GL := gsK B (dN B)
/-- Why these bytes aren't a page under this number. -/
def decF (B : List UInt8) (num : Int) : Nat :=
  if ¬ (0 ≤ num ∧ num ≤ 63) then 4
  else if B.length ≠ 1024 then 42
  else if allZ B = true then 0
  else if byteN B 0 ≠ 113 then 80
  else if byteN B 1 ≠ 1 ∧ byteN B 1 ≠ 2 then 70
  else if dSum B ≠ psumN B then 81
  else if (dNum B : Int) ≠ num then 82
  else if ¬ (1 ≤ dN B ∧ dN B ≤ dMost B) ∨ ¬ (1 ≤ dLsn B ∧ dLsn B ≤ 2147483647) then 23
  else if contP (decCs B) (decGs B) ≠ 0 then contP (decCs B) (decGs B)
  else if dSp B ≠ 0 ∨ allZ (B.drop (16 + dN B * dWide B)) = false then 23
  else 0

theorem byteN_lt (B : List UInt8) (i : Nat) : byteN B i < 256 := u8_lt _
theorem byteN_get {B : List UInt8} {i : Nat} (h : i < B.length) : byteN B i = (B[i]).toNat := by unfold byteN; rw [getD_get h]
theorem rdN_lt (B : List UInt8) (a s : Nat) : rdN B a s < 256 ^ s := by
  have h := leN_lt ((B.drop a).take s)
  have : ((B.drop a).take s).length ≤ s := by rw [List.length_take]; omega
  exact Nat.lt_of_lt_of_le h (Nat.pow_le_pow_right (by omega) this)
theorem getR_in {B : List UInt8} {a s : Nat} (h1 : 1 ≤ s) (h8 : s ≤ 8) (hl : a + s ≤ B.length) : getR B (a : Int) (s : Int) = (rdN B a s, 0) := by
  unfold getR rdN
  rw [if_pos ⟨by omega, by omega, by omega, by omega⟩, Int.toNat_natCast, Int.toNat_natCast]
theorem taken_head {B : List UInt8} (h : B.length = 1024) : takenP B 0 headS = [rdN B 0 1, rdN B 1 1, dNum B, dN B, dSp B, dLsn B] := by
  have e1 : getR B 0 1 = (rdN B 0 1, 0) := getR_in (B := B) (a := 0) (s := 1) (by omega) (by omega) (by omega)
  have e2 : getR B 1 1 = (rdN B 1 1, 0) := getR_in (B := B) (a := 1) (s := 1) (by omega) (by omega) (by omega)
  have e3 : getR B 2 2 = (dNum B, 0) := getR_in (B := B) (a := 2) (s := 2) (by omega) (by omega) (by omega)
  have e4 : getR B 4 2 = (dN B, 0) := getR_in (B := B) (a := 4) (s := 2) (by omega) (by omega) (by omega)
  have e5 : getR B 6 2 = (dSp B, 0) := getR_in (B := B) (a := 6) (s := 2) (by omega) (by omega) (by omega)
  have e6 : getR B 8 4 = (dLsn B, 0) := getR_in (B := B) (a := 8) (s := 4) (by omega) (by omega) (by omega)
  show [(getR B 0 1).fst, (getR B 1 1).fst, (getR B 2 2).fst, (getR B 4 2).fst, (getR B 6 2).fst, (getR B 8 4).fst] = _
  rw [e1, e2, e3, e4, e5, e6]
theorem taken_ctr {B : List UInt8} {i : Nat} (h : 16 + 32 * i + 32 ≤ B.length) : takenP B ((16 + 32 * i : Nat) : Int) ctrS = [rdN B (16 + 32 * i) 4, rdN B (16 + 32 * i + 4) 4, rdN B (16 + 32 * i + 8) 8, rdN B (16 + 32 * i + 16) 8, rdN B (16 + 32 * i + 24) 8] := by
  generalize hz : 16 + 32 * i = z at *
  unfold ctrS
  simp only [takenP]
  have c1 : ((z : Nat) : Int) + 4 = ((z + 4 : Nat) : Int) := by omega
  have c2 : ((z + 4 : Nat) : Int) + 4 = ((z + 8 : Nat) : Int) := by omega
  have c3 : ((z + 8 : Nat) : Int) + 8 = ((z + 16 : Nat) : Int) := by omega
  have c4 : ((z + 16 : Nat) : Int) + 8 = ((z + 24 : Nat) : Int) := by omega
  rw [c1, c2, c3, c4]
  have e1 := getR_in (B := B) (a := z) (s := 4) (by omega) (by omega) (by omega)
  have e2 := getR_in (B := B) (a := z + 4) (s := 4) (by omega) (by omega) (by omega)
  have e3 := getR_in (B := B) (a := z + 8) (s := 8) (by omega) (by omega) (by omega)
  have e4 := getR_in (B := B) (a := z + 16) (s := 8) (by omega) (by omega) (by omega)
  have e5 := getR_in (B := B) (a := z + 24) (s := 8) (by omega) (by omega) (by omega)
  have f1 : ((4 : Nat) : Int) = 4 := rfl
  have f2 : ((8 : Nat) : Int) = 8 := rfl
  rw [f1] at e1 e2
  rw [f2] at e3 e4 e5
  rw [e1, e2, e3, e4, e5]
theorem taken_grp {B : List UInt8} {i : Nat} (h : 16 + 12 * i + 12 ≤ B.length) : takenP B ((16 + 12 * i : Nat) : Int) grpS = [rdN B (16 + 12 * i) 4, rdN B (16 + 12 * i + 4) 8] := by
  generalize hz : 16 + 12 * i = z at *
  unfold grpS
  simp only [takenP]
  have c1 : ((z : Nat) : Int) + 4 = ((z + 4 : Nat) : Int) := by omega
  rw [c1]
  have e1 := getR_in (B := B) (a := z) (s := 4) (by omega) (by omega) (by omega)
  have e2 := getR_in (B := B) (a := z + 4) (s := 8) (by omega) (by omega) (by omega)
  have f1 : ((4 : Nat) : Int) = 4 := rfl
  have f2 : ((8 : Nat) : Int) = 8 := rfl
  rw [f1] at e1
  rw [f2] at e2
  rw [e1, e2]

theorem allZ_rd {B : List UInt8} (h : allZ B = true) (a s : Nat) : rdN B a s = 0 := by
  have all0 : ∀ x ∈ B, x.toNat = 0 := by
    intro x hx
    unfold allZ at h
    rw [Bool.not_eq_true', List.any_eq_false] at h
    have := h x hx
    simpa using this
  have key : ∀ l : List UInt8, (∀ x ∈ l, x.toNat = 0) → leN l = 0 := by
    intro l
    induction l with
    | nil => intro _; rfl
    | cons c r ih =>
      intro hl
      rw [leN, hl c (List.mem_cons_self ..), ih fun x hx => hl x (List.mem_cons_of_mem _ hx)]
  exact key _ fun x hx => all0 x (List.mem_of_mem_drop (List.mem_of_mem_take hx))
theorem csK_len (B : List UInt8) (k : Nat) : (csK B k).length = if byteN B 1 = 2 then 0 else k := by unfold csK; split <;> simp
theorem gsK_len (B : List UInt8) (k : Nat) : (gsK B k).length = if byteN B 1 = 2 then k else 0 := by unfold gsK; split <;> simp
theorem csK_zero (B : List UInt8) : csK B 0 = [] := by unfold csK; split <;> rfl
theorem gsK_zero (B : List UInt8) : gsK B 0 = [] := by unfold gsK; split <;> rfl

/-- Reading one element of a slice. -/
theorem idxB {w : World} {a : Option Addr} {l : Nat} {B : List UInt8} (hr : Rd w a (bvs B)) (hl : B.length = l) {i : Nat} (hi : i < l) {n : Int} (hn : n = (i : Int)) {K : Int → Prop} (h : K (byteN B i : Int)) :
    IdxF a n l fun d => ∃ n8 : Int, w.cell? (d.add (Int.toNat n)) = some (.int .u8 n8) ∧ K n8 := by
  subst hn
  refine hr.idx (by omega) (by omega) (by rw [bvs_len]; omega) fun b o hg hc => ⟨_, ?_, h⟩
  rw [Int.toNat_natCast, add_at, byteN_get (by omega)]
  exact hc i _ (bvs_get (by omega))
theorem idxU {w : World} {a : Option Addr} {l : Nat} {ns : List Nat} (hr : Rd w a (u64s ns)) (hl : ns.length = l) {i x : Nat} (hx : ns[i]? = some x) {n : Int} (hn : n = (i : Int)) {K : Int → Prop} (h : K (x : Int)) :
    IdxF a n l fun d => ∃ n8 : Int, w.cell? (d.add (Int.toNat n)) = some (.int .u64 n8) ∧ K n8 := by
  subst hn
  have hi : i < ns.length := (List.getElem?_eq_some_iff.1 hx).1
  refine hr.idx (by omega) (by omega) (by simp [u64s]; omega) fun b o hg hc => ⟨_, ?_, h⟩
  rw [Int.toNat_natCast, add_at]
  exact hc i _ (by simp [u64s, hx])
/-- The same, in a class of worlds. -/
theorem idxUS {S : World → Prop} {a : Option Addr} {l : Nat} {ns : List Nat} {w0 : World} (hr0 : Rd w0 a (u64s ns)) (hr : ∀ w, S w → Rd w a (u64s ns)) (hl : ns.length = l) {i x : Nat} (hx : ns[i]? = some x) {n : Int} (hn : n = (i : Int)) {K : Int → Prop} (h : K (x : Int)) :
    IdxF a n l fun d => ∃ n8 : Int, (∀ w, S w → w.cell? (d.add (Int.toNat n)) = some (.int .u64 n8)) ∧ K n8 := by
  subst hn
  have hi : i < ns.length := (List.getElem?_eq_some_iff.1 hx).1
  refine hr0.idx (by omega) (by omega) (by simp [u64s]; omega) fun b o hg hc => ⟨_, fun w hw => ?_, h⟩
  rw [Int.toNat_natCast, add_at]
  obtain ⟨b', o', ha', hc'⟩ := hr w hw i (.int .u64 (x : Int)) (by simp [u64s, hx])
  rw [hg] at ha'
  cases ha'
  exact hc'
end Go.Proofs.YtnkdonpammdldaaDoor
