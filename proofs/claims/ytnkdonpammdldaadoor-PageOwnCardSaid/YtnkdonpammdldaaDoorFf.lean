/- The contract of the package field's Sum. Conditions: the table of sixteen numbers stands as the program's text lays it; lengths below 2^46. -/
import Derived.Test.YtnkdonpammdldaaDoorFe
namespace Go.Proofs.YtnkdonpammdldaaDoor
open Go Go.RowKit

/-- The table's numbers. -/
def nibT (i : Nat) : Nat := [0, 498536548, 997073096, 651767980, 1994146192, 1802195444, 1303535960, 1342533948, 3988292384, 4027552580, 3604390888, 3412177804, 2607071920, 2262029012, 2685067896, 3183342108].getD i 0
def nst (r : Nat) : Nat := r / 16 ^^^ nibT (r % 16)
def bst (r : Nat) (b : UInt8) : Nat := nst (nst (r ^^^ b.toNat))
def sumN (bs : List UInt8) : Nat := bs.foldl bst 4294967295 ^^^ 4294967295

/-- The table stands. -/
def Nib (w : World) : Prop := ∀ i, i < 16 → w.cell? ⟨5, i, none⟩ = some (.int .u32 (nibT i : Int))
theorem Nib.kp {S : Nat → Prop} {w w' : World} (h : Nib w) (k : Kp S w w') (hn : ¬ S 5) : Nib w' := fun i hi => k.cell (h i hi) hn
theorem Nib.kp0 {w w' : World} (h : Nib w) (k : Kp no w w') : Nib w' := h.kp k id

theorem nibT_lt (i : Nat) : nibT i < 4294967296 := by
  by_cases h : i < 16
  · have : ∀ i, i < 16 → nibT i < 4294967296 := by decide +kernel
    exact this i h
  · have : nibT i = 0 := by
      unfold nibT
      rw [List.getD_eq_getElem?_getD, List.getElem?_eq_none]
      · rfl
      · simp only [List.length_cons, List.length_nil]
        omega
    omega
theorem nst_lt {r : Nat} (h : r < 4294967296) : nst r < 4294967296 := Nat.xor_lt_two_pow (n := 32) (by omega) (nibT_lt _)
theorem bst_lt {r : Nat} (h : r < 4294967296) (b : UInt8) : bst r b < 4294967296 := nst_lt (nst_lt (Nat.xor_lt_two_pow (n := 32) h (by have := u8_lt b; omega)))
theorem fold_lt : ∀ (bs : List UInt8) (r : Nat), r < 4294967296 → bs.foldl bst r < 4294967296
  | [], _, h => h
  | b :: bs, r, h => fold_lt bs _ (bst_lt h b)

theorem idx_code {r : Nat} (h : r < 4294967296) : andV .u32 (r : Int) 15 = ((r % 16 : Nat) : Int) := by
  rw [show (15 : Int) = ((15 : Nat) : Int) from rfl, andV_nat rfl (by simpa [IntKind.bits] using h) (by simp [IntKind.bits]), and_15]
theorem nst_code {r : Nat} (h : r < 4294967296) : xorV .u32 (shrV .u32 (r : Int) 4) (nibT (r % 16) : Int) = (nst r : Int) := by
  rw [show (4 : Int) = ((4 : Nat) : Int) from rfl, shrV_nat (by simp [IntKind.bits]), xorV_nat rfl (by simp only [IntKind.bits]; omega) (by simpa [IntKind.bits] using nibT_lt _)]
  rfl

/-- A list of byte slices, as it stands in memory. -/
structure Part where
  a : Option Addr
  l : Nat
  c : Nat
  bs : List UInt8

def Part.val (p : Part) : Value := .slice p.a p.l p.c
def Parts (w : World) (l : List Part) : Prop := ∀ p ∈ l, Rd w p.a (bvs p.bs) ∧ p.bs.length = p.l ∧ p.l < 70368744177664
def flat (l : List Part) : List UInt8 := (l.map Part.bs).flatten

theorem sum_c {w : World} {a : Option Addr} {c : Nat} {l : List Part} {R : Ending → World → Prop} (hnib : Nib w) (hr : Rd w a (l.map Part.val)) (hp : Parts w l) (hl : l.length < 70368744177664)
    (h : R (.returned (.int .u32 (sumN (flat l) : Int))) w) : GoC Tryd.prog F_field_Sum #[.slice a l.length c] w R := by
  refine S_field_Sum ?_
  unfold W_field_Sum
  refine loopN (fun s w1 => w1 = w ∧ ∃ k r : Nat, k ≤ l.length ∧ s.2.1 = (k : Int) ∧ s.1 = (r : Int) ∧ r < 4294967296 ∧ (flat (l.drop k)).foldl bst r = (flat l).foldl bst 4294967295) (fun s _ => l.length - s.2.1.toNat)
    ⟨rfl, 0, 4294967295, Nat.zero_le _, rfl, rfl, by omega, by simp⟩ ?_
  rintro ⟨rr, kk, u⟩ w1 ⟨rfl, k, r, hk, hkk, hrr, hr32, hf⟩ _
  dsimp only at hkk hrr ⊢
  subst hkk hrr
  refine cond_d (fun hlt => ?_) (fun hge => ?_)
  · have hkl : k < l.length := by omega
    refine hr.idx (by omega) hlt (by simp) fun b o hg hc => ?_
    refine ⟨l[k].a, l[k].l, l[k].c, ?_, ?_⟩
    · rw [Int.toNat_natCast, add_at]
      exact hc k _ (by simp [hkl, Part.val])
    obtain ⟨hrd, hbe, hbl⟩ := hp l[k] (List.getElem_mem hkl)
    have hdrop : l.drop k = l[k] :: l.drop (k + 1) := List.drop_eq_getElem_cons hkl
    have hflat : flat (l.drop k) = l[k].bs ++ flat (l.drop (k + 1)) := by rw [hdrop]; unfold flat; rw [List.map_cons, List.flatten_cons]
    rw [hflat, List.foldl_append] at hf
    generalize hpt : l[k] = p at *
    obtain ⟨pa, pl, pc, pbs⟩ := p
    dsimp only at hrd hbe hbl hf ⊢
    subst hbe
    refine loopN (fun s w2 => w2 = w1 ∧ ∃ j q : Nat, j ≤ pbs.length ∧ s.2.1 = (j : Int) ∧ s.1 = (q : Int) ∧ q < 4294967296 ∧ (pbs.drop j).foldl bst q = pbs.foldl bst r) (fun s _ => pbs.length - s.2.1.toNat)
      ⟨rfl, 0, r, Nat.zero_le _, rfl, rfl, hr32, by simp⟩ ?_
    rintro ⟨qq, jj, u⟩ w2 ⟨rfl, j, q, hj, hjj, hqq, hq32, hfj⟩ _
    dsimp only at hjj hqq ⊢
    subst hjj hqq
    have hwj : IntKind.wrap .i64 ((j : Int) + 1) = ((j + 1 : Nat) : Int) := by rw [wrap_i64 (by omega) (by omega)]; omega
    have hwk : IntKind.wrap .i64 ((k : Int) + 1) = ((k + 1 : Nat) : Int) := by rw [wrap_i64 (by omega) (by omega)]; omega
    refine cond_d (fun hlt2 => ?_) (fun hge2 => ?_)
    · have hjl : j < pbs.length := by omega
      refine hrd.idx (by omega) hlt2 (by rw [bvs_len]; omega) fun b2 o2 hg2 hc2 => ?_
      refine ⟨((pbs[j]).toNat : Int), ?_, by decide, ?_⟩
      · rw [Int.toNat_natCast, add_at]
        exact hc2 j _ (bvs_get hjl)
      have hx := u8_lt pbs[j]
      rw [wrap_nat rfl (by simp only [IntKind.bits]; omega), xorV_nat rfl (by simpa [IntKind.bits] using hq32) (by simp only [IntKind.bits]; omega)]
      have h1 : q ^^^ (pbs[j]).toNat < 4294967296 := Nat.xor_lt_two_pow (n := 32) hq32 (by omega)
      generalize hz : q ^^^ (pbs[j]).toNat = z at *
      rw [idx_code h1]
      refine ⟨by omega, by omega, (nibT (z % 16) : Int), ?_, by decide, ?_⟩
      · rw [Int.toNat_natCast, add_at, Nat.zero_add]; exact hnib _ (by omega)
      rw [nst_code h1]
      have h2 := nst_lt h1
      rw [idx_code h2]
      refine ⟨by omega, by omega, (nibT (nst z % 16) : Int), ?_, ?_⟩
      · rw [Int.toNat_natCast, add_at, Nat.zero_add]; exact hnib _ (by omega)
      rw [nst_code h2, hwj]
      refine ⟨⟨rfl, j + 1, nst (nst z), by omega, rfl, rfl, nst_lt h2, ?_⟩, by simp only [Int.toNat_natCast]; omega⟩
      have hdj : pbs.drop j = pbs[j] :: pbs.drop (j + 1) := List.drop_eq_getElem_cons hjl
      rw [← hfj, hdj, List.foldl_cons]
      unfold bst
      rw [hz]
    · have hje : j = pbs.length := by omega
      subst hje
      rw [hwk]
      refine ⟨⟨rfl, k + 1, q, by omega, rfl, rfl, hq32, ?_⟩, by simp only [Int.toNat_natCast]; omega⟩
      rw [← hf, ← hfj]
      simp
  · have hke : k = l.length := by omega
    subst hke
    have hr0 : r = (flat l).foldl bst 4294967295 := by rw [← hf]; simp [flat]
    have hm : IntKind.max .u32 = ((4294967295 : Nat) : Int) := by decide
    rw [hm, xorV_nat rfl (by simp [IntKind.bits]) (by simpa [IntKind.bits] using hr32), Nat.xor_comm, hr0]
    exact h

theorem sum1_c {w0 w1 w : World} {b : Nat} {a : Option Addr} {l c : Nat} {T : TypeId} {bs : List UInt8} {R : Ending → World → Prop} (hb : Blk w1 b #[.slice a l c] T) (hr : Rd w0 a (bvs bs)) (hl : bs.length = l) (hlt : l < 70368744177664) (hnib : Nib w0)
    (k0 : Kp no w0 w) (k1 : Kp no w1 w) (h : R (.returned (.int .u32 (sumN bs : Int))) w) : GoC Tryd.prog F_field_Sum #[.slice (some ⟨b, 0, none⟩) 1 1] w R := by
  refine sum_c (l := [⟨a, l, c, bs⟩]) (hnib.kp0 k0) ((Rd.of_blk hb fun i v hv => by rw [Nat.zero_add, ← Array.getElem?_toList]; exact hv).kp0 k1) ?_ (by simp) (by simpa [flat] using h)
  intro p hp
  simp only [List.mem_cons, List.not_mem_nil, or_false] at hp
  subst hp
  exact ⟨hr.kp0 k0, hl, hlt⟩
end Go.Proofs.YtnkdonpammdldaaDoor
