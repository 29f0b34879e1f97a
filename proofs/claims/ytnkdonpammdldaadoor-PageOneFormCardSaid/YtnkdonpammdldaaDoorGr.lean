/- Plain: a page's bytes by the document's puts; they are the program's. Conditions: none. -/
import Derived.Test.YtnkdonpammdldaaDoorGq
set_option linter.unusedVariables false
set_option linter.unusedSimpArgs false
namespace Go.Proofs.YtnkdonpammdldaaDoor
open Go Go.RowKit

theorem ovr_get {B : List UInt8} {a s n : Nat} (h : a + s ≤ B.length) (i : Nat) : (ovr B a s n)[i]? = if a ≤ i ∧ i < a + s then (leB8 s n)[i - a]? else B[i]? := by
  unfold ovr over
  have hl := leB8_len s n
  rw [hl]
  by_cases h1 : i < a
  · rw [if_neg (by omega), List.append_assoc, List.getElem?_append_left (by simp; omega), List.getElem?_take, if_pos h1]
  · by_cases h2 : i < a + s
    · rw [if_pos (by omega), List.append_assoc, List.getElem?_append_right (by simp; omega), List.getElem?_append_left (by simp; omega)]
      congr 1
      simp
      omega
    · rw [if_neg (by omega), List.getElem?_append_right (by simp; omega), List.getElem?_drop]
      congr 1
      simp
      omega
theorem ovr_idem {B : List UInt8} {a s m n : Nat} (h : a + s ≤ B.length) : ovr (ovr B a s m) a s n = ovr B a s n := by
  apply List.ext_getElem?
  intro i
  rw [ovr_get (n := n) (by rw [ovr_len h]; exact h), ovr_get (n := n) h]
  split
  · rfl
  · rw [ovr_get h, if_neg (by assumption)]
theorem ovr_same {B : List UInt8} {a s n : Nat} (h : a + s ≤ B.length) (hz : ∀ i, i < s → B[a + i]? = (leB8 s n)[i]?) : ovr B a s n = B := by
  apply List.ext_getElem?
  intro i
  rw [ovr_get h]
  split
  · rename_i hi
    rw [← hz (i - a) (by omega)]
    congr 1
    omega
  · rfl
theorem ovr_one {B : List UInt8} {i : Nat} {x : UInt8} (h : i < B.length) : ovr B i 1 x.toNat = B.set i x := by
  apply List.ext_getElem?
  intro j
  rw [ovr_get (by omega), List.getElem?_set]
  by_cases hj : i = j
  · subst hj
    rw [if_pos (by omega), if_pos rfl, if_pos h]
    have hx := u8_lt x
    simp only [leB8, Nat.sub_self, List.getElem?_cons_zero]
    rw [Nat.mod_eq_of_lt hx]
    simp
  · rw [if_neg (by omega), if_neg hj]

theorem putR_ovr {B : List UInt8} {a s n : Nat} (h1 : 1 ≤ s) (h8 : s ≤ 8) (hl : a + s ≤ B.length) (hn : n < 256 ^ s) : putR B (a : Int) (s : Int) n = (ovr B a s n, 0) := by
  unfold putR
  rw [if_pos ⟨by omega, by omega, by omega, by omega⟩, Int.toNat_natCast, Int.toNat_natCast, if_pos hn]
  unfold ovr
  rfl

def headO (num n lsn k : Nat) : List UInt8 := ovr (ovr (ovr (ovr (ovr page0 0 1 113) 1 1 k) 2 2 num) 4 2 n) 8 4 lsn
def ctrO (B : List UInt8) (i : Nat) (c : CL) : List UInt8 := ovr (ovr (ovr (ovr (ovr B (16 + 32 * i) 4 (u64n c.id)) (16 + 32 * i + 4) 4 (u64n c.grp)) (16 + 32 * i + 8) 8 (u64n c.lo)) (16 + 32 * i + 16) 8 (u64n c.hi)) (16 + 32 * i + 24) 8 (u64n c.val)
def grpO (B : List UInt8) (i : Nat) (g : GL) : List UInt8 := ovr (ovr B (16 + 12 * i) 4 (u64n g.id)) (16 + 12 * i + 4) 8 (u64n g.sum)
def ctrsO : List UInt8 → Nat → List CL → List UInt8
  | B, _, [] => B
  | B, i, c :: r => ctrsO (ctrO B i c) (i + 1) r
def grpsO : List UInt8 → Nat → List GL → List UInt8
  | B, _, [] => B
  | B, i, g :: r => grpsO (grpO B i g) (i + 1) r
def sealO (B : List UInt8) : List UInt8 := ovr B 12 4 (psumN B)
def bodyO (num lsn : Int) (cs : List CL) (gs : List GL) : List UInt8 := grpsO (ctrsO (headO (u64n num) (cs.length + gs.length) (u64n lsn) (kindN gs)) 0 cs) 0 gs
def encO (num lsn : Int) (cs : List CL) (gs : List GL) : List UInt8 := if cs.length + gs.length = 0 then page0 else sealO (bodyO num lsn cs gs)

theorem headO_len (a b c d : Nat) : (headO a b c d).length = 1024 := by
  have h0 := page0_len
  unfold headO
  have h1 : (ovr page0 0 1 113).length = 1024 := by rw [ovr_len (by omega)]; exact h0
  have h2 : (ovr (ovr page0 0 1 113) 1 1 d).length = 1024 := by rw [ovr_len (by omega)]; exact h1
  have h3 : (ovr (ovr (ovr page0 0 1 113) 1 1 d) 2 2 a).length = 1024 := by rw [ovr_len (by omega)]; exact h2
  have h4 : (ovr (ovr (ovr (ovr page0 0 1 113) 1 1 d) 2 2 a) 4 2 b).length = 1024 := by rw [ovr_len (by omega)]; exact h3
  rw [ovr_len (by omega)]; exact h4
theorem ctrO_len {B : List UInt8} {i : Nat} {c : CL} (h : 16 + 32 * i + 32 ≤ B.length) : (ctrO B i c).length = B.length := by
  unfold ctrO
  have l1 : (ovr B (16 + 32 * i) 4 (u64n c.id)).length = B.length := ovr_len (by omega)
  generalize ovr B (16 + 32 * i) 4 (u64n c.id) = B1 at *
  have l2 : (ovr B1 (16 + 32 * i + 4) 4 (u64n c.grp)).length = B.length := by rw [ovr_len (by omega), l1]
  generalize ovr B1 (16 + 32 * i + 4) 4 (u64n c.grp) = B2 at *
  have l3 : (ovr B2 (16 + 32 * i + 8) 8 (u64n c.lo)).length = B.length := by rw [ovr_len (by omega), l2]
  generalize ovr B2 (16 + 32 * i + 8) 8 (u64n c.lo) = B3 at *
  have l4 : (ovr B3 (16 + 32 * i + 16) 8 (u64n c.hi)).length = B.length := by rw [ovr_len (by omega), l3]
  rw [ovr_len (by omega), l4]
theorem grpO_len {B : List UInt8} {i : Nat} {c : GL} (h : 16 + 12 * i + 12 ≤ B.length) : (grpO B i c).length = B.length := by
  unfold grpO
  have l1 : (ovr B (16 + 12 * i) 4 (u64n c.id)).length = B.length := ovr_len (by omega)
  rw [ovr_len (by omega), l1]
theorem ctrsO_len : ∀ (cs : List CL) (B : List UInt8) (i : Nat), 16 + 32 * (i + cs.length) ≤ B.length → (ctrsO B i cs).length = B.length
  | [], _, _, _ => rfl
  | c :: r, B, i, h => by
    rw [List.length_cons] at h
    rw [ctrsO, ctrsO_len r _ _ (by rw [ctrO_len (by omega)]; omega), ctrO_len (by omega)]
theorem grpsO_len : ∀ (cs : List GL) (B : List UInt8) (i : Nat), 16 + 12 * (i + cs.length) ≤ B.length → (grpsO B i cs).length = B.length
  | [], _, _, _ => rfl
  | c :: r, B, i, h => by
    rw [List.length_cons] at h
    rw [grpsO, grpsO_len r _ _ (by rw [grpO_len (by omega)]; omega), grpO_len (by omega)]
theorem bodyO_len {num lsn : Int} {cs : List CL} {gs : List GL} (h1 : cs.length ≤ 31) (h2 : gs.length ≤ 84) : (bodyO num lsn cs gs).length = 1024 := by
  have h := headO_len (u64n num) (cs.length + gs.length) (u64n lsn) (kindN gs)
  have hc := ctrsO_len cs (headO (u64n num) (cs.length + gs.length) (u64n lsn) (kindN gs)) 0 (by omega)
  unfold bodyO
  rw [grpsO_len _ _ _ (by omega)]
  omega
theorem sealO_len {B : List UInt8} (h : 16 ≤ B.length) : (sealO B).length = B.length := ovr_len (by omega)

theorem fits_u64 {n : Int} (h : fits1 n) : u64n n < 256 ^ 4 ∧ (u64n n : Int) = n := by
  obtain ⟨h1, h2⟩ := h
  unfold u64n
  rw [Int.emod_eq_of_lt (by omega) (by omega)]
  constructor <;> omega
theorem small_u64 {n : Int} (h : 0 ≤ n ∧ n ≤ 2147483647) : (u64n n : Int) = n := by
  unfold u64n
  rw [Int.emod_eq_of_lt (by omega) (by omega)]
  omega

theorem ctr1_eq {B : List UInt8} {i : Nat} {c : CL} (h : 16 + 32 * i + 32 ≤ B.length) (hf : faultC c = 0) : ctr1 B i c = ctrO B i c := by
  have hfit : fits1 c.id ∧ fits1 c.grp := by
    unfold faultC at hf
    split at hf
    · assumption
    · cases hf
  have n1 := (fits_u64 hfit.1).1
  have n2 := (fits_u64 hfit.2).1
  have n3 : u64n c.lo < 256 ^ 8 := u64n_lt _
  have n4 : u64n c.hi < 256 ^ 8 := u64n_lt _
  have n5 : u64n c.val < 256 ^ 8 := u64n_lt _
  unfold ctr1 ctrO
  generalize hz : 16 + 32 * i = z at *
  unfold ctrS ctrN
  simp only [List.zip_cons_cons, List.zip_nil_right, laidP]
  have c1 : ((z : Nat) : Int) + 4 = ((z + 4 : Nat) : Int) := by omega
  have c2 : ((z + 4 : Nat) : Int) + 4 = ((z + 8 : Nat) : Int) := by omega
  have c3 : ((z + 8 : Nat) : Int) + 8 = ((z + 16 : Nat) : Int) := by omega
  have c4 : ((z + 16 : Nat) : Int) + 8 = ((z + 24 : Nat) : Int) := by omega
  rw [c1, c2, c3, c4]
  have f1 : (4 : Int) = ((4 : Nat) : Int) := rfl
  have f2 : (8 : Int) = ((8 : Nat) : Int) := rfl
  rw [f1, f2]
  have l1 : (ovr B z 4 (u64n c.id)).length = B.length := ovr_len (by omega)
  have l2 : (ovr (ovr B z 4 (u64n c.id)) (z + 4) 4 (u64n c.grp)).length = B.length := by rw [ovr_len (by omega), l1]
  have l3 : (ovr (ovr (ovr B z 4 (u64n c.id)) (z + 4) 4 (u64n c.grp)) (z + 8) 8 (u64n c.lo)).length = B.length := by rw [ovr_len (by omega), l2]
  have l4 : (ovr (ovr (ovr (ovr B z 4 (u64n c.id)) (z + 4) 4 (u64n c.grp)) (z + 8) 8 (u64n c.lo)) (z + 16) 8 (u64n c.hi)).length = B.length := by rw [ovr_len (by omega), l3]
  rw [putR_ovr (B := B) (by omega) (by omega) (by omega) n1]
  dsimp only
  generalize ovr B z 4 (u64n c.id) = B1 at *
  rw [putR_ovr (B := B1) (by omega) (by omega) (by omega) n2]
  dsimp only
  generalize ovr B1 (z + 4) 4 (u64n c.grp) = B2 at *
  rw [putR_ovr (B := B2) (by omega) (by omega) (by omega) n3]
  dsimp only
  generalize ovr B2 (z + 8) 8 (u64n c.lo) = B3 at *
  rw [putR_ovr (B := B3) (by omega) (by omega) (by omega) n4]
  dsimp only
  generalize ovr B3 (z + 16) 8 (u64n c.hi) = B4 at *
  rw [putR_ovr (B := B4) (by omega) (by omega) (by omega) n5]
theorem grp1_eq {B : List UInt8} {i : Nat} {g : GL} (h : 16 + 12 * i + 12 ≤ B.length) (hf : faultG g = 0) : grp1 B i g = grpO B i g := by
  have hfit : fits1 g.id := by
    unfold faultG at hf
    split at hf
    · assumption
    · cases hf
  have n1 := (fits_u64 hfit).1
  have n2 : u64n g.sum < 256 ^ 8 := u64n_lt _
  unfold grp1 grpO
  generalize hz : 16 + 12 * i = z at *
  unfold grpS grpN
  simp only [List.zip_cons_cons, List.zip_nil_right, laidP]
  have c1 : ((z : Nat) : Int) + 4 = ((z + 4 : Nat) : Int) := by omega
  rw [c1]
  have f1 : (4 : Int) = ((4 : Nat) : Int) := rfl
  have f2 : (8 : Int) = ((8 : Nat) : Int) := rfl
  rw [f1, f2]
  have l1 : (ovr B z 4 (u64n g.id)).length = B.length := ovr_len (by omega)
  rw [putR_ovr (B := B) (by omega) (by omega) (by omega) n1]
  dsimp only
  generalize ovr B z 4 (u64n g.id) = B1 at *
  rw [putR_ovr (B := B1) (by omega) (by omega) (by omega) n2]
theorem ctrsP_eq : ∀ (cs : List CL) (B : List UInt8) (i : Nat), 16 + 32 * (i + cs.length) ≤ B.length → (∀ c ∈ cs, faultC c = 0) → ctrsP B i cs = ctrsO B i cs
  | [], _, _, _, _ => rfl
  | c :: r, B, i, h, hf => by
    rw [List.length_cons] at h
    rw [ctrsP, ctrsO, ctr1_eq (by omega) (hf c (List.mem_cons_self ..)), ctrsP_eq r _ _ (by rw [ctrO_len (by omega)]; omega) fun x hx => hf x (List.mem_cons_of_mem _ hx)]
theorem grpsP_eq : ∀ (cs : List GL) (B : List UInt8) (i : Nat), 16 + 12 * (i + cs.length) ≤ B.length → (∀ c ∈ cs, faultG c = 0) → grpsP B i cs = grpsO B i cs
  | [], _, _, _, _ => rfl
  | c :: r, B, i, h, hf => by
    rw [List.length_cons] at h
    rw [grpsP, grpsO, grp1_eq (by omega) (hf c (List.mem_cons_self ..)), grpsP_eq r _ _ (by rw [grpO_len (by omega)]; omega) fun x hx => hf x (List.mem_cons_of_mem _ hx)]

theorem firstF_zero : ∀ {l : List Nat}, firstF l = 0 → ∀ e ∈ l, e = 0
  | [], _, e, he => by cases he
  | x :: r, h, e, he => by
    unfold firstF at h
    split at h
    · rcases List.mem_cons.1 he with rfl | he
      · assumption
      · exact firstF_zero h e he
    · exact absurd h (by assumption)
theorem contP_zero {cs : List CL} {gs : List GL} (h : contP cs gs = 0) : (∀ c ∈ cs, faultC c = 0) ∧ (∀ g ∈ gs, faultG g = 0) := by
  have := firstF_zero h
  exact ⟨fun c hc => this _ (List.mem_append_left _ (List.mem_map_of_mem hc)), fun g hg => this _ (List.mem_append_right _ (List.mem_map_of_mem hg))⟩
/-- A page that isn't refused. -/
structure Right (num lsn : Int) (cs : List CL) (gs : List GL) : Prop where
  hnum : 0 ≤ num ∧ num ≤ 63
  one : cs.length = 0 ∨ gs.length = 0
  c : cs.length ≤ 31
  g : gs.length ≤ 84
  hlsn : 0 ≤ lsn ∧ lsn ≤ 2147483647
  lz : lsn = 0 ↔ cs.length + gs.length = 0
  fc : ∀ c ∈ cs, faultC c = 0
  fg : ∀ g ∈ gs, faultG g = 0
theorem right_of {num lsn : Int} {cs : List CL} {gs : List GL} (h : refP num lsn cs gs = 0) : Right num lsn cs gs := by
  unfold refP at h
  split at h
  · cases h
  · split at h
    · cases h
    · split at h
      · cases h
      · split at h
        · cases h
        · obtain ⟨h1, h2⟩ := contP_zero h
          exact ⟨by omega, by omega, by omega, by omega, by omega, by omega, h1, h2⟩

theorem page0_get (i : Nat) (h : i < 1024) : page0[i]? = some 0 := by unfold page0; rw [List.getElem?_replicate, if_pos h]
theorem laid_head {num lsn n k : Nat} (h1 : k < 256) (h2 : num < 65536) (h3 : n < 65536) (h4 : lsn < 4294967296) : laidP page0 0 (headS.zip [113, k, num, n, 0, lsn]) = headO num n lsn k := by
  unfold headS headO
  generalize hp : page0 = P0
  have h0 : P0.length = 1024 := by rw [← hp]; exact page0_len
  simp only [List.zip_cons_cons, List.zip_nil_right, laidP]
  have a1 : (0 : Int) + 1 = ((1 : Nat) : Int) := rfl
  have a2 : ((1 : Nat) : Int) + 1 = ((2 : Nat) : Int) := rfl
  have a3 : ((2 : Nat) : Int) + 2 = ((4 : Nat) : Int) := rfl
  have a4 : ((4 : Nat) : Int) + 2 = ((6 : Nat) : Int) := rfl
  have a5 : ((6 : Nat) : Int) + 2 = ((8 : Nat) : Int) := rfl
  rw [a1, a2, a3, a4, a5]
  have f0 : (0 : Int) = ((0 : Nat) : Int) := rfl
  have f1 : (1 : Int) = ((1 : Nat) : Int) := rfl
  have f2 : (2 : Int) = ((2 : Nat) : Int) := rfl
  have f4 : (4 : Int) = ((4 : Nat) : Int) := rfl
  rw [f0, f1, f2, f4]
  have l1 : (ovr P0 0 1 113).length = 1024 := by rw [ovr_len (by omega)]; exact h0
  have l2 : (ovr (ovr P0 0 1 113) 1 1 k).length = 1024 := by rw [ovr_len (by omega)]; exact l1
  have l3 : (ovr (ovr (ovr P0 0 1 113) 1 1 k) 2 2 num).length = 1024 := by rw [ovr_len (by omega)]; exact l2
  have l4 : (ovr (ovr (ovr (ovr P0 0 1 113) 1 1 k) 2 2 num) 4 2 n).length = 1024 := by rw [ovr_len (by omega)]; exact l3
  have hz : ovr (ovr (ovr (ovr (ovr P0 0 1 113) 1 1 k) 2 2 num) 4 2 n) 6 2 0 = ovr (ovr (ovr (ovr P0 0 1 113) 1 1 k) 2 2 num) 4 2 n := by
    refine ovr_same (by omega) fun i hi => ?_
    rw [ovr_get (by omega), if_neg (by omega), ovr_get (by omega), if_neg (by omega), ovr_get (by omega), if_neg (by omega), ovr_get (by omega), if_neg (by omega), ← hp, page0_get _ (by omega)]
    have : i = 0 ∨ i = 1 := by omega
    rcases this with rfl | rfl <;> rfl
  rw [putR_ovr (B := P0) (by omega) (by omega) (by omega) (by omega)]
  dsimp only
  generalize ovr P0 0 1 113 = B1 at *
  rw [putR_ovr (B := B1) (by omega) (by omega) (by omega) (by omega)]
  dsimp only
  generalize ovr B1 1 1 k = B2 at *
  rw [putR_ovr (B := B2) (by omega) (by omega) (by omega) (by omega)]
  dsimp only
  generalize ovr B2 2 2 num = B3 at *
  rw [putR_ovr (B := B3) (by omega) (by omega) (by omega) (by omega)]
  dsimp only
  generalize ovr B3 4 2 n = B4 at *
  rw [putR_ovr (B := B4) (by omega) (by omega) (by omega) (by omega)]
  dsimp only
  rw [hz, putR_ovr (by omega) (by omega) (by omega) (by omega)]

theorem encB_eq {num lsn : Int} {cs : List CL} {gs : List GL} (h : refP num lsn cs gs = 0) : encB num lsn cs gs = encO num lsn cs gs := by
  have hR := right_of h
  obtain ⟨h1, h2, h3, h4, h5, h6, h7, h8⟩ := hR
  unfold encB encO
  split
  · rfl
  · have e1 := small_u64 (n := num) (by omega)
    have e2 := small_u64 (n := lsn) (by omega)
    have hk : (if 0 < gs.length then 2 else 1) = kindN gs := rfl
    have hk3 : kindN gs < 256 := by unfold kindN; split <;> omega
    have hb : bodyP num lsn cs gs = bodyO num lsn cs gs := by
      unfold bodyP bodyO
      rw [hk, laid_head hk3 (by omega) (by omega) (by omega)]
      have hl := headO_len (u64n num) (cs.length + gs.length) (u64n lsn) (kindN gs)
      generalize headO (u64n num) (cs.length + gs.length) (u64n lsn) (kindN gs) = H at *
      have hc := ctrsO_len cs H 0 (by omega)
      rw [ctrsP_eq cs _ _ (by omega) h7, grpsP_eq gs _ _ (by omega) h8]
    rw [hb]
    have hbl := bodyO_len (num := num) (lsn := lsn) h3 h4
    generalize bodyO num lsn cs gs = X at *
    have hps : psumN X < 4294967296 := Nat.xor_lt_two_pow (n := 32) (fold_lt _ _ (by omega)) (by omega)
    unfold sealO sumS
    generalize psumN X = z at *
    simp only [List.zip_cons_cons, List.zip_nil_right, laidP]
    have f1 : (12 : Int) = ((12 : Nat) : Int) := rfl
    have f4 : (4 : Int) = ((4 : Nat) : Int) := rfl
    rw [f1, f4, putR_ovr (by omega) (by omega) (by omega) (by omega)]
end Go.Proofs.YtnkdonpammdldaaDoor
