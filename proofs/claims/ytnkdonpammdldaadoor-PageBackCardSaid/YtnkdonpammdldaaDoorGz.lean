/- Plain: a page's bytes, field by field: what is written is read again, and only it. Conditions: none. -/
import Derived.Test.YtnkdonpammdldaaDoorGs
import Derived.Test.YtnkdonpammdldaaDoorLx
set_option linter.unusedVariables false
set_option linter.unusedSimpArgs false
namespace Go.Proofs.YtnkdonpammdldaaDoor
open Go Go.RowKit

/-- Alike from a to b. -/
def AgB (X Y : List UInt8) (a b : Nat) : Prop := ∀ i, a ≤ i → i < b → X[i]? = Y[i]?
section
variable {X Y Z : List UInt8} {a b : Nat}
theorem AgB.refl (X : List UInt8) (a b : Nat) : AgB X X a b := fun _ _ _ => rfl
theorem AgB.symm (h : AgB X Y a b) : AgB Y X a b := fun i h1 h2 => (h i h1 h2).symm
theorem AgB.trans (h : AgB X Y a b) (h' : AgB Y Z a b) : AgB X Z a b := fun i h1 h2 => (h i h1 h2).trans (h' i h1 h2)
theorem AgB.mono {c d : Nat} (h : AgB X Y a b) (h1 : a ≤ c) (h2 : d ≤ b) : AgB X Y c d := fun i h3 h4 => h i (by omega) (by omega)
theorem AgB.slice (h : AgB X Y a b) {c s : Nat} (h1 : a ≤ c) (h2 : c + s ≤ b) : (X.drop c).take s = (Y.drop c).take s := by
  apply List.ext_getElem?
  intro i
  rw [List.getElem?_take, List.getElem?_take]
  by_cases hi : i < s
  · rw [if_pos hi, if_pos hi, List.getElem?_drop, List.getElem?_drop]
    exact h _ (by omega) (by omega)
  · rw [if_neg hi, if_neg hi]
theorem AgB.rdN (h : AgB X Y a b) {c s : Nat} (h1 : a ≤ c) (h2 : c + s ≤ b) : rdN X c s = rdN Y c s := by unfold Go.Proofs.YtnkdonpammdldaaDoor.rdN; rw [h.slice h1 h2]
theorem AgB.byteN (h : AgB X Y a b) {c : Nat} (h1 : a ≤ c) (h2 : c < b) : byteN X c = byteN Y c := by
  unfold Go.Proofs.YtnkdonpammdldaaDoor.byteN
  rw [List.getD_eq_getElem?_getD, List.getD_eq_getElem?_getD, h c h1 h2]
theorem AgB.ctrAt (h : AgB X Y a b) {i : Nat} (h1 : a ≤ 16 + 32 * i) (h2 : 16 + 32 * i + 32 ≤ b) : ctrAt X i = ctrAt Y i := by
  unfold Go.Proofs.YtnkdonpammdldaaDoor.ctrAt
  rw [h.rdN (c := 16 + 32 * i) (by omega) (by omega), h.rdN (c := 16 + 32 * i + 4) (by omega) (by omega), h.rdN (c := 16 + 32 * i + 8) (by omega) (by omega), h.rdN (c := 16 + 32 * i + 16) (by omega) (by omega), h.rdN (c := 16 + 32 * i + 24) (by omega) (by omega)]
theorem AgB.grpAt (h : AgB X Y a b) {i : Nat} (h1 : a ≤ 16 + 12 * i) (h2 : 16 + 12 * i + 12 ≤ b) : grpAt X i = grpAt Y i := by
  unfold Go.Proofs.YtnkdonpammdldaaDoor.grpAt
  rw [h.rdN (c := 16 + 12 * i) (by omega) (by omega), h.rdN (c := 16 + 12 * i + 4) (by omega) (by omega)]
end

theorem ovr_ag {B : List UInt8} {a s n c d : Nat} (h : a + s ≤ B.length) (hd : d ≤ a ∨ a + s ≤ c) : AgB (ovr B a s n) B c d := fun i h1 h2 => by rw [ovr_get h, if_neg (by omega)]
theorem rdN_ovr {B : List UInt8} {a s n : Nat} (h : a + s ≤ B.length) : rdN (ovr B a s n) a s = n % 256 ^ s := by
  unfold rdN
  have e : ((ovr B a s n).drop a).take s = leB8 s n := by
    have hl := leB8_len s n
    apply List.ext_getElem?
    intro i
    rw [List.getElem?_take]
    by_cases hi : i < s
    · rw [if_pos hi, List.getElem?_drop, ovr_get h, if_pos (by omega)]
      congr 1
      omega
    · rw [if_neg hi, List.getElem?_eq_none (by omega)]
  rw [e, leN_leB8]
theorem byteN_rd (B : List UInt8) (i : Nat) (h : i < B.length) : rdN B i 1 = byteN B i := by
  unfold rdN
  rw [List.drop_eq_getElem_cons h, List.take_succ_cons, List.take_zero, leN, leN, byteN_get h]
  omega

theorem i64_u64n {x : Int} (h : In64 x) : i64 (u64n x) = x := by
  unfold In64 at h
  unfold i64 u64n
  have h1 := Int.emod_nonneg x (show (18446744073709551616 : Int) ≠ 0 by omega)
  rw [Int.toNat_of_nonneg h1]
  simp only [IntKind.wrap, IntKind.bits, IntKind.signed, Bool.true_and]
  split
  · rename_i hh; have := of_decide_eq_true hh; omega
  · rename_i hh; have := of_decide_eq_false (Bool.eq_false_iff.2 hh); omega
theorem i64_val {n : Nat} (h : n < 18446744073709551616) : (n < 9223372036854775808 ∧ i64 n = (n : Int)) ∨ (9223372036854775808 ≤ n ∧ i64 n = (n : Int) - 18446744073709551616) := by
  unfold i64
  simp only [IntKind.wrap, IntKind.bits, IntKind.signed, Bool.true_and]
  split
  · rename_i hh; have := of_decide_eq_true hh; right; omega
  · rename_i hh; have := of_decide_eq_false (Bool.eq_false_iff.2 hh); left; omega
theorem i64_inj {m n : Nat} (hm : m < 18446744073709551616) (hn : n < 18446744073709551616) (h : i64 m = i64 n) : m = n := by
  rcases i64_val hm with ⟨a1, a2⟩ | ⟨a1, a2⟩ <;> rcases i64_val hn with ⟨b1, b2⟩ | ⟨b1, b2⟩ <;> omega
theorem i64_in (n : Nat) : In64 (i64 n) := by
  unfold In64 i64
  simp only [IntKind.wrap, IntKind.bits, IntKind.signed, Bool.true_and]
  split
  · rename_i hh; have := of_decide_eq_true hh; omega
  · rename_i hh; have := of_decide_eq_false (Bool.eq_false_iff.2 hh); omega
theorem i64_small {n : Nat} (h : n < 9223372036854775808) : i64 n = (n : Int) := by unfold i64; exact wrap_i64 (by omega) (by omega)

theorem ctrAt_ctrO {B : List UInt8} {i : Nat} {c : CL} (h : 16 + 32 * i + 32 ≤ B.length) (hf : faultC c = 0) (ho : c.Ok) : ctrAt (ctrO B i c) i = c := by
  have hfit : fits1 c.id ∧ fits1 c.grp := by
    unfold faultC at hf
    split at hf
    · assumption
    · cases hf
  have n1 := (fits_u64 hfit.1).1
  have n2 := (fits_u64 hfit.2).1
  have n3 : u64n c.lo < 256 ^ 8 := u64n_lt _
  have n4 : u64n c.hi < 256 ^ 8 := u64n_lt _
  have n5 : u64n c.val < 256 ^ 8 := u64n_lt _
  unfold ctrO ctrAt
  generalize 16 + 32 * i = z at *
  have l1 : (ovr B z 4 (u64n c.id)).length = B.length := ovr_len (by omega)
  have r1 := rdN_ovr (B := B) (a := z) (s := 4) (n := u64n c.id) (by omega)
  generalize ovr B z 4 (u64n c.id) = B1 at *
  have l2 : (ovr B1 (z + 4) 4 (u64n c.grp)).length = B.length := by rw [ovr_len (by omega), l1]
  have r2 := rdN_ovr (B := B1) (a := z + 4) (s := 4) (n := u64n c.grp) (by omega)
  have a2 := ovr_ag (B := B1) (a := z + 4) (s := 4) (n := u64n c.grp) (c := z) (d := z + 4) (by omega) (by omega)
  generalize ovr B1 (z + 4) 4 (u64n c.grp) = B2 at *
  have l3 : (ovr B2 (z + 8) 8 (u64n c.lo)).length = B.length := by rw [ovr_len (by omega), l2]
  have r3 := rdN_ovr (B := B2) (a := z + 8) (s := 8) (n := u64n c.lo) (by omega)
  have a3 := ovr_ag (B := B2) (a := z + 8) (s := 8) (n := u64n c.lo) (c := z) (d := z + 8) (by omega) (by omega)
  generalize ovr B2 (z + 8) 8 (u64n c.lo) = B3 at *
  have l4 : (ovr B3 (z + 16) 8 (u64n c.hi)).length = B.length := by rw [ovr_len (by omega), l3]
  have r4 := rdN_ovr (B := B3) (a := z + 16) (s := 8) (n := u64n c.hi) (by omega)
  have a4 := ovr_ag (B := B3) (a := z + 16) (s := 8) (n := u64n c.hi) (c := z) (d := z + 16) (by omega) (by omega)
  generalize ovr B3 (z + 16) 8 (u64n c.hi) = B4 at *
  have r5 := rdN_ovr (B := B4) (a := z + 24) (s := 8) (n := u64n c.val) (by omega)
  have a5 := ovr_ag (B := B4) (a := z + 24) (s := 8) (n := u64n c.val) (c := z) (d := z + 24) (by omega) (by omega)
  generalize ovr B4 (z + 24) 8 (u64n c.val) = B5 at *
  rw [a5.rdN (c := z) (s := 4) (by omega) (by omega), a4.rdN (c := z) (s := 4) (by omega) (by omega), a3.rdN (c := z) (s := 4) (by omega) (by omega), a2.rdN (c := z) (s := 4) (by omega) (by omega), r1,
    a5.rdN (c := z + 4) (s := 4) (by omega) (by omega), a4.rdN (c := z + 4) (s := 4) (by omega) (by omega), a3.rdN (c := z + 4) (s := 4) (by omega) (by omega), r2,
    a5.rdN (c := z + 8) (s := 8) (by omega) (by omega), a4.rdN (c := z + 8) (s := 8) (by omega) (by omega), r3,
    a5.rdN (c := z + 16) (s := 8) (by omega) (by omega), r4, r5]
  rw [Nat.mod_eq_of_lt n1, Nat.mod_eq_of_lt n2, Nat.mod_eq_of_lt n3, Nat.mod_eq_of_lt n4, Nat.mod_eq_of_lt n5, i64_u64n ho.id, i64_u64n ho.grp, i64_u64n ho.lo, i64_u64n ho.hi, i64_u64n ho.val]
theorem grpAt_grpO {B : List UInt8} {i : Nat} {g : GL} (h : 16 + 12 * i + 12 ≤ B.length) (hf : faultG g = 0) (ho : g.Ok) : grpAt (grpO B i g) i = g := by
  have hfit : fits1 g.id := by
    unfold faultG at hf
    split at hf
    · assumption
    · cases hf
  have n1 := (fits_u64 hfit).1
  have n2 : u64n g.sum < 256 ^ 8 := u64n_lt _
  unfold grpO grpAt
  generalize 16 + 12 * i = z at *
  have l1 : (ovr B z 4 (u64n g.id)).length = B.length := ovr_len (by omega)
  have r1 := rdN_ovr (B := B) (a := z) (s := 4) (n := u64n g.id) (by omega)
  generalize ovr B z 4 (u64n g.id) = B1 at *
  have r2 := rdN_ovr (B := B1) (a := z + 4) (s := 8) (n := u64n g.sum) (by omega)
  have a2 := ovr_ag (B := B1) (a := z + 4) (s := 8) (n := u64n g.sum) (c := z) (d := z + 4) (by omega) (by omega)
  generalize ovr B1 (z + 4) 8 (u64n g.sum) = B2 at *
  rw [a2.rdN (c := z) (s := 4) (by omega) (by omega), r1, r2, Nat.mod_eq_of_lt n1, Nat.mod_eq_of_lt n2, i64_u64n ho.id, i64_u64n ho.sum]
theorem ctrO_ag {B : List UInt8} {i : Nat} {c : CL} {e d : Nat} (h : 16 + 32 * i + 32 ≤ B.length) (hd : d ≤ 16 + 32 * i ∨ 16 + 32 * i + 32 ≤ e) : AgB (ctrO B i c) B e d := by
  unfold ctrO
  generalize 16 + 32 * i = z at *
  have l1 : (ovr B z 4 (u64n c.id)).length = B.length := ovr_len (by omega)
  have a1 := ovr_ag (B := B) (a := z) (s := 4) (n := u64n c.id) (c := e) (d := d) (by omega) (by omega)
  generalize ovr B z 4 (u64n c.id) = B1 at *
  have l2 : (ovr B1 (z + 4) 4 (u64n c.grp)).length = B.length := by rw [ovr_len (by omega), l1]
  have a2 := ovr_ag (B := B1) (a := z + 4) (s := 4) (n := u64n c.grp) (c := e) (d := d) (by omega) (by omega)
  generalize ovr B1 (z + 4) 4 (u64n c.grp) = B2 at *
  have l3 : (ovr B2 (z + 8) 8 (u64n c.lo)).length = B.length := by rw [ovr_len (by omega), l2]
  have a3 := ovr_ag (B := B2) (a := z + 8) (s := 8) (n := u64n c.lo) (c := e) (d := d) (by omega) (by omega)
  generalize ovr B2 (z + 8) 8 (u64n c.lo) = B3 at *
  have l4 : (ovr B3 (z + 16) 8 (u64n c.hi)).length = B.length := by rw [ovr_len (by omega), l3]
  have a4 := ovr_ag (B := B3) (a := z + 16) (s := 8) (n := u64n c.hi) (c := e) (d := d) (by omega) (by omega)
  generalize ovr B3 (z + 16) 8 (u64n c.hi) = B4 at *
  have a5 := ovr_ag (B := B4) (a := z + 24) (s := 8) (n := u64n c.val) (c := e) (d := d) (by omega) (by omega)
  exact (((a5.trans a4).trans a3).trans a2).trans a1
theorem grpO_ag {B : List UInt8} {i : Nat} {c : GL} {e d : Nat} (h : 16 + 12 * i + 12 ≤ B.length) (hd : d ≤ 16 + 12 * i ∨ 16 + 12 * i + 12 ≤ e) : AgB (grpO B i c) B e d := by
  unfold grpO
  generalize 16 + 12 * i = z at *
  have l1 : (ovr B z 4 (u64n c.id)).length = B.length := ovr_len (by omega)
  have a1 := ovr_ag (B := B) (a := z) (s := 4) (n := u64n c.id) (c := e) (d := d) (by omega) (by omega)
  generalize ovr B z 4 (u64n c.id) = B1 at *
  have a2 := ovr_ag (B := B1) (a := z + 4) (s := 8) (n := u64n c.sum) (c := e) (d := d) (by omega) (by omega)
  exact a2.trans a1
theorem ctrsO_ag : ∀ (cs : List CL) (B : List UInt8) (i : Nat) (e d : Nat), 16 + 32 * (i + cs.length) ≤ B.length → (d ≤ 16 + 32 * i ∨ 16 + 32 * (i + cs.length) ≤ e) → AgB (ctrsO B i cs) B e d
  | [], B, _, e, d, _, _ => AgB.refl _ _ _
  | c :: r, B, i, e, d, h, hd => by
    rw [List.length_cons] at h hd
    rw [ctrsO]
    exact (ctrsO_ag r _ _ e d (by rw [ctrO_len (by omega)]; omega) (by omega)).trans (ctrO_ag (by omega) (by omega))
theorem grpsO_ag : ∀ (cs : List GL) (B : List UInt8) (i : Nat) (e d : Nat), 16 + 12 * (i + cs.length) ≤ B.length → (d ≤ 16 + 12 * i ∨ 16 + 12 * (i + cs.length) ≤ e) → AgB (grpsO B i cs) B e d
  | [], B, _, e, d, _, _ => AgB.refl _ _ _
  | c :: r, B, i, e, d, h, hd => by
    rw [List.length_cons] at h hd
    rw [grpsO]
    exact (grpsO_ag r _ _ e d (by rw [grpO_len (by omega)]; omega) (by omega)).trans (grpO_ag (by omega) (by omega))
theorem ctrsO_at : ∀ (cs : List CL) (B : List UInt8) (i : Nat), 16 + 32 * (i + cs.length) ≤ B.length → (∀ c ∈ cs, faultC c = 0) → (∀ c ∈ cs, c.Ok) → ∀ j (h : j < cs.length), ctrAt (ctrsO B i cs) (i + j) = cs[j]
  | [], _, _, _, _, _, j, h => by simp at h
  | c :: r, B, i, h, hf, ho, j, hj => by
    rw [List.length_cons] at h hj
    have hl := ctrO_len (B := B) (i := i) (c := c) (by omega)
    rw [ctrsO]
    cases j with
    | zero =>
      rw [Nat.add_zero, (ctrsO_ag r (ctrO B i c) (i + 1) (16 + 32 * i) (16 + 32 * i + 32) (by omega) (by omega)).ctrAt (by omega) (by omega)]
      exact ctrAt_ctrO (by omega) (hf c (List.mem_cons_self ..)) (ho c (List.mem_cons_self ..))
    | succ j =>
      have := ctrsO_at r (ctrO B i c) (i + 1) (by omega) (fun x hx => hf x (List.mem_cons_of_mem _ hx)) (fun x hx => ho x (List.mem_cons_of_mem _ hx)) j (by omega)
      have e : i + (j + 1) = i + 1 + j := by omega
      rw [e, this]
      rfl
theorem grpsO_at : ∀ (cs : List GL) (B : List UInt8) (i : Nat), 16 + 12 * (i + cs.length) ≤ B.length → (∀ c ∈ cs, faultG c = 0) → (∀ c ∈ cs, c.Ok) → ∀ j (h : j < cs.length), grpAt (grpsO B i cs) (i + j) = cs[j]
  | [], _, _, _, _, _, j, h => by simp at h
  | c :: r, B, i, h, hf, ho, j, hj => by
    rw [List.length_cons] at h hj
    have hl := grpO_len (B := B) (i := i) (c := c) (by omega)
    rw [grpsO]
    cases j with
    | zero =>
      rw [Nat.add_zero, (grpsO_ag r (grpO B i c) (i + 1) (16 + 12 * i) (16 + 12 * i + 12) (by omega) (by omega)).grpAt (by omega) (by omega)]
      exact grpAt_grpO (by omega) (hf c (List.mem_cons_self ..)) (ho c (List.mem_cons_self ..))
    | succ j =>
      have := grpsO_at r (grpO B i c) (i + 1) (by omega) (fun x hx => hf x (List.mem_cons_of_mem _ hx)) (fun x hx => ho x (List.mem_cons_of_mem _ hx)) j (by omega)
      have e : i + (j + 1) = i + 1 + j := by omega
      rw [e, this]
      rfl

theorem psumN_ag {X Y : List UInt8} (hl : X.length = Y.length) (h1 : AgB X Y 0 12) (h2 : AgB X Y 16 X.length) : psumN X = psumN Y := by
  unfold psumN
  have e1 : X.take 12 = Y.take 12 := by simpa using h1.slice (c := 0) (s := 12) (by omega) (by omega)
  have e2 : X.drop 16 = Y.drop 16 := by
    apply List.ext_getElem?
    intro i
    rw [List.getElem?_drop, List.getElem?_drop]
    by_cases hi : 16 + i < X.length
    · exact h2 _ (by omega) hi
    · rw [List.getElem?_eq_none (by omega), List.getElem?_eq_none (by omega)]
  rw [e1, e2]

/-- What a page's bytes say, field by field. -/
structure PgB (B : List UInt8) (num lsn : Nat) (cs : List CL) (gs : List GL) : Prop where
  len : B.length = 1024
  b0 : byteN B 0 = 113
  b1 : byteN B 1 = kindN gs
  hnum : dNum B = num
  n : dN B = cs.length + gs.length
  sp : dSp B = 0
  hlsn : dLsn B = lsn
  sum : dSum B = psumN B
  c : ∀ i (h : i < cs.length), ctrAt B i = cs[i]
  g : ∀ i (h : i < gs.length), grpAt B i = gs[i]
  z : ∀ i, 16 + 32 * cs.length + 12 * gs.length ≤ i → i < 1024 → B[i]? = some 0

theorem head_fields {num n lsn k : Nat} (h1 : num < 65536) (h2 : n < 65536) (h3 : lsn < 4294967296) (h4 : k < 256) :
    byteN (headO num n lsn k) 0 = 113 ∧ byteN (headO num n lsn k) 1 = k ∧ dNum (headO num n lsn k) = num ∧ dN (headO num n lsn k) = n ∧ dSp (headO num n lsn k) = 0 ∧ dLsn (headO num n lsn k) = lsn ∧ AgB (headO num n lsn k) page0 12 1024 := by
  have h0 := page0_len
  have hz := page0_get
  unfold headO dNum dN dSp dLsn
  generalize page0 = P0 at *
  have l1 : (ovr P0 0 1 113).length = 1024 := by rw [ovr_len (by omega)]; exact h0
  have r1 := rdN_ovr (B := P0) (a := 0) (s := 1) (n := 113) (by omega)
  have a1 := ovr_ag (B := P0) (a := 0) (s := 1) (n := 113) (c := 1) (d := 1024) (by omega) (by omega)
  generalize ovr P0 0 1 113 = B1 at *
  have l2 : (ovr B1 1 1 k).length = 1024 := by rw [ovr_len (by omega)]; exact l1
  have r2 := rdN_ovr (B := B1) (a := 1) (s := 1) (n := k) (by omega)
  have a2 := ovr_ag (B := B1) (a := 1) (s := 1) (n := k) (c := 0) (d := 1) (by omega) (by omega)
  have z2 := ovr_ag (B := B1) (a := 1) (s := 1) (n := k) (c := 2) (d := 1024) (by omega) (by omega)
  generalize ovr B1 1 1 k = B2 at *
  have l3 : (ovr B2 2 2 num).length = 1024 := by rw [ovr_len (by omega)]; exact l2
  have r3 := rdN_ovr (B := B2) (a := 2) (s := 2) (n := num) (by omega)
  have a3 := ovr_ag (B := B2) (a := 2) (s := 2) (n := num) (c := 0) (d := 2) (by omega) (by omega)
  have z3 := ovr_ag (B := B2) (a := 2) (s := 2) (n := num) (c := 4) (d := 1024) (by omega) (by omega)
  generalize ovr B2 2 2 num = B3 at *
  have l4 : (ovr B3 4 2 n).length = 1024 := by rw [ovr_len (by omega)]; exact l3
  have r4 := rdN_ovr (B := B3) (a := 4) (s := 2) (n := n) (by omega)
  have a4 := ovr_ag (B := B3) (a := 4) (s := 2) (n := n) (c := 0) (d := 4) (by omega) (by omega)
  have z4 := ovr_ag (B := B3) (a := 4) (s := 2) (n := n) (c := 6) (d := 1024) (by omega) (by omega)
  generalize ovr B3 4 2 n = B4 at *
  have l5 : (ovr B4 8 4 lsn).length = 1024 := by rw [ovr_len (by omega)]; exact l4
  have r5 := rdN_ovr (B := B4) (a := 8) (s := 4) (n := lsn) (by omega)
  have a5 := ovr_ag (B := B4) (a := 8) (s := 4) (n := lsn) (c := 0) (d := 8) (by omega) (by omega)
  have z5 := ovr_ag (B := B4) (a := 8) (s := 4) (n := lsn) (c := 12) (d := 1024) (by omega) (by omega)
  generalize ovr B4 8 4 lsn = B5 at *
  refine ⟨?_, ?_, ?_, ?_, ?_, ?_, ?_⟩
  · rw [← byteN_rd _ _ (by omega), a5.rdN (by omega) (by omega), a4.rdN (by omega) (by omega), a3.rdN (by omega) (by omega), a2.rdN (by omega) (by omega), r1]
  · rw [← byteN_rd _ _ (by omega), a5.rdN (by omega) (by omega), a4.rdN (by omega) (by omega), a3.rdN (by omega) (by omega), r2]
    omega
  · rw [a5.rdN (by omega) (by omega), a4.rdN (by omega) (by omega), r3]; omega
  · rw [a5.rdN (by omega) (by omega), r4]; omega
  · rw [rdN_two (by omega), a5.byteN (by omega) (by omega), a5.byteN (by omega) (by omega), z4.byteN (by omega) (by omega), z4.byteN (by omega) (by omega), z3.byteN (by omega) (by omega), z3.byteN (by omega) (by omega), z2.byteN (by omega) (by omega), z2.byteN (by omega) (by omega), a1.byteN (by omega) (by omega), a1.byteN (by omega) (by omega)]
    unfold byteN
    rw [List.getD_eq_getElem?_getD, List.getD_eq_getElem?_getD, hz 6 (by omega), hz 7 (by omega)]
    rfl
  · rw [r5]; omega
  · intro i h1 h2
    rw [z5 i h1 h2, z4 i (by omega) h2, z3 i (by omega) h2, z2 i (by omega) h2, a1 i (by omega) h2]

/-- What is written of a right page says that page. -/
theorem enc_pgb {num lsn : Int} {cs : List CL} {gs : List GL} (hR : Right num lsn cs gs) (hc : ∀ x ∈ cs, x.Ok) (hg : ∀ x ∈ gs, x.Ok) (hne : cs.length + gs.length ≠ 0) : PgB (encO num lsn cs gs) num.toNat lsn.toNat cs gs := by
  obtain ⟨h1, h2, h3, h4, h5, h6, h7, h8⟩ := hR
  have e1 := small_u64 (n := num) (by omega)
  have e2 := small_u64 (n := lsn) (by omega)
  have hk3 : kindN gs < 256 := by unfold kindN; split <;> omega
  unfold encO
  rw [if_neg hne]
  have hbl := bodyO_len (num := num) (lsn := lsn) h3 h4
  obtain ⟨f1, f2, f3, f4, f5, f6, f7⟩ := head_fields (num := u64n num) (n := cs.length + gs.length) (lsn := u64n lsn) (k := kindN gs) (by omega) (by omega) (by omega) hk3
  have hhl := headO_len (u64n num) (cs.length + gs.length) (u64n lsn) (kindN gs)
  have hbd : AgB (bodyO num lsn cs gs) (headO (u64n num) (cs.length + gs.length) (u64n lsn) (kindN gs)) 0 16 ∧ AgB (bodyO num lsn cs gs) (headO (u64n num) (cs.length + gs.length) (u64n lsn) (kindN gs)) (16 + 32 * cs.length + 12 * gs.length) 1024 ∧ (∀ i (h : i < cs.length), ctrAt (bodyO num lsn cs gs) i = cs[i]) ∧ (∀ i (h : i < gs.length), grpAt (bodyO num lsn cs gs) i = gs[i]) := by
    unfold bodyO
    generalize headO (u64n num) (cs.length + gs.length) (u64n lsn) (kindN gs) = H at *
    have hcl := ctrsO_len cs H 0 (by omega)
    have q1 := ctrsO_ag cs H 0 0 16 (by omega) (by omega)
    have q2 := ctrsO_ag cs H 0 (16 + 32 * cs.length) 1024 (by omega) (by omega)
    have q3 := ctrsO_at cs H 0 (by omega) h7 hc
    generalize ctrsO H 0 cs = X at *
    have p1 := grpsO_ag gs X 0 0 16 (by omega) (by omega)
    have p2 := grpsO_ag gs X 0 (16 + 12 * gs.length) 1024 (by omega) (by omega)
    have p3 := grpsO_at gs X 0 (by omega) h8 hg
    refine ⟨p1.trans q1, (p2.mono (by omega) (by omega)).trans (q2.mono (by omega) (by omega)), fun i hi => ?_, fun i hi => ?_⟩
    · have hg0 : gs = [] := List.eq_nil_of_length_eq_zero (by omega)
      subst hg0
      have := q3 i hi
      rw [Nat.zero_add] at this
      exact this
    · have := p3 i hi
      rw [Nat.zero_add] at this
      exact this
  obtain ⟨b1, b2, b3, b4⟩ := hbd
  generalize headO (u64n num) (cs.length + gs.length) (u64n lsn) (kindN gs) = H at *
  generalize bodyO num lsn cs gs = X at *
  have hps : psumN X < 4294967296 := Nat.xor_lt_two_pow (n := 32) (fold_lt _ _ (by omega)) (by omega)
  have sl : (sealO X).length = 1024 := by rw [sealO_len (by omega), hbl]
  have s1 : AgB (sealO X) X 0 12 := ovr_ag (by omega) (by omega)
  have s2 : AgB (sealO X) X 16 1024 := ovr_ag (by omega) (by omega)
  have s3 : dSum (sealO X) = psumN X := by
    have := rdN_ovr (B := X) (a := 12) (s := 4) (n := psumN X) (by omega)
    unfold dSum sealO
    rw [this]
    exact Nat.mod_eq_of_lt (by omega)
  have s4 : psumN (sealO X) = psumN X := psumN_ag (by omega) s1 (by rw [sl]; exact s2)
  generalize sealO X = Y at *
  have t1 : AgB Y H 0 12 := s1.trans (b1.mono (by omega) (by omega))
  refine ⟨sl, ?_, ?_, ?_, ?_, ?_, ?_, ?_, fun i hi => ?_, fun i hi => ?_, fun i hi1 hi2 => ?_⟩
  · rw [t1.byteN (by omega) (by omega), f1]
  · rw [t1.byteN (by omega) (by omega), f2]
  · have : dNum Y = dNum H := t1.rdN (by omega) (by omega)
    rw [this, f3]; omega
  · have : dN Y = dN H := t1.rdN (by omega) (by omega)
    rw [this, f4]
  · have : dSp Y = dSp H := t1.rdN (by omega) (by omega)
    rw [this, f5]
  · have : dLsn Y = dLsn H := t1.rdN (by omega) (by omega)
    rw [this, f6]; omega
  · rw [s3, s4]
  · rw [s2.ctrAt (by omega) (by omega), b3 i hi]
  · rw [s2.grpAt (by omega) (by omega), b4 i hi]
  · rw [s2 i (by omega) hi2, b2 i hi1 hi2, f7 i (by omega) hi2, page0_get i hi2]

theorem allZ_of {B : List UInt8} {k : Nat} (h : ∀ i, k ≤ i → i < B.length → B[i]? = some 0) : allZ (B.drop k) = true := by
  unfold allZ
  rw [Bool.not_eq_true', List.any_eq_false]
  intro x hx
  obtain ⟨i, hi, he⟩ := List.getElem_of_mem hx
  rw [List.length_drop] at hi
  have h1 := h (k + i) (by omega) (by omega)
  rw [List.getElem_drop] at he
  rw [List.getElem?_eq_getElem (by omega)] at h1
  have : x = 0 := by rw [← he]; exact Option.some.inj h1
  subst this
  decide
theorem allZ_get {B : List UInt8} {k : Nat} (h : allZ (B.drop k) = true) : ∀ i, k ≤ i → i < B.length → B[i]? = some 0 := by
  intro i h1 h2
  unfold allZ at h
  rw [Bool.not_eq_true', List.any_eq_false] at h
  have hm : B[i] ∈ B.drop k := by
    have e : (B.drop k)[i - k]? = some B[i] := by rw [List.getElem?_drop, show k + (i - k) = i by omega, List.getElem?_eq_getElem h2]
    exact List.mem_of_getElem? e
  have := h _ hm
  simp only [ne_eq, decide_not, Bool.not_eq_true', decide_eq_false_iff_not, Classical.not_not] at this
  rw [List.getElem?_eq_getElem h2]
  congr 1
  exact UInt8.toNat_inj.1 (by simpa using this)

/-- Bytes that say a right page are read as it. -/
theorem pgb_dec {B : List UInt8} {num lsn : Nat} {cs : List CL} {gs : List GL} (hB : PgB B num lsn cs gs) (h1 : cs.length = 0 ∨ gs.length = 0) (h3 : cs.length ≤ 31) (h4 : gs.length ≤ 84) (hne : cs.length + gs.length ≠ 0) (hl : 1 ≤ lsn ∧ lsn ≤ 2147483647) (hcont : contP cs gs = 0) :
    decCs B = cs ∧ decGs B = gs ∧ allZ B = false ∧ (∀ n : Int, 0 ≤ n ∧ n ≤ 63 → decF B n = if (num : Int) = n then 0 else 82) := by
  have hkind : (byteN B 1 = 2 ∧ cs.length = 0) ∨ (byteN B 1 ≠ 2 ∧ byteN B 1 = 1 ∧ gs.length = 0) := by
    rw [hB.b1]
    unfold kindN
    split
    · exact .inl ⟨rfl, by omega⟩
    · exact .inr ⟨by omega, rfl, by omega⟩
  have hC : decCs B = cs := by
    unfold decCs
    rcases hkind with ⟨hk, h0⟩ | ⟨hk, _, h0⟩
    · rw [csK_succ2 hk]
      exact (List.eq_nil_of_length_eq_zero h0).symm
    · unfold csK
      rw [if_neg hk, hB.n]
      apply List.ext_getElem
      · rw [List.length_map, List.length_range]; omega
      · intro i i1 i2
        simp only [List.getElem_map, List.getElem_range]
        exact hB.c i i2
  have hG : decGs B = gs := by
    unfold decGs
    rcases hkind with ⟨hk, h0⟩ | ⟨hk, _, h0⟩
    · unfold gsK
      rw [if_pos hk, hB.n]
      apply List.ext_getElem
      · rw [List.length_map, List.length_range]; omega
      · intro i i1 i2
        simp only [List.getElem_map, List.getElem_range]
        exact hB.g i i2
    · rw [gsK_succ2 hk]
      exact (List.eq_nil_of_length_eq_zero h0).symm
  have hz : allZ B = false := by
    cases h : allZ B
    · rfl
    · have := allZ_rd h 0 1
      rw [byteN_rd B 0 (by rw [hB.len]; omega), hB.b0] at this
      omega
  refine ⟨hC, hG, hz, fun n hn => ?_⟩
  have hlen := hB.len
  have hn' := hB.n
  have hwide : dN B * dWide B = 32 * cs.length + 12 * gs.length ∧ dN B ≤ dMost B := by
    unfold dWide dMost
    rcases hkind with ⟨hk, h0⟩ | ⟨hk, _, h0⟩
    · rw [if_pos hk, if_pos hk]; omega
    · rw [if_neg hk, if_neg hk]; omega
  unfold decF
  rw [if_neg (by omega), if_neg (by omega), if_neg (by rw [hz]; decide), if_neg (by rw [hB.b0]; omega), if_neg (by omega), if_neg (by rw [hB.sum]; omega), hB.hnum, hB.hlsn]
  by_cases he : (num : Int) = n
  · rw [if_neg (by omega), if_neg (by omega), hC, hG, hcont, if_neg (by omega), if_pos he, if_neg]
    rintro (h | h)
    · exact h hB.sp
    · rw [allZ_of (fun i i1 i2 => hB.z i (by omega) (by omega))] at h
      cases h
  · rw [if_pos he, if_neg he]
end Go.Proofs.YtnkdonpammdldaaDoor
