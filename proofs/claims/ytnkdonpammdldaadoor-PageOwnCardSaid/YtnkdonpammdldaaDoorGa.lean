/- Contracts of the package page: in, zeros, contents, size. Conditions: lengths below 2^46. -/
import Derived.Test.YtnkdonpammdldaaDoorAs
set_option linter.unusedVariables false
set_option linter.unusedSimpArgs false
namespace Go.Proofs.YtnkdonpammdldaaDoor
open Go Go.RowKit

theorem in_c {w : World} {n lo hi : Int} {R : Ending → World → Prop} (h : R (.returned (.bool (decide (lo ≤ n ∧ n ≤ hi)))) w) : GoC Tryd.prog F_page_in #[.int .i64 n, .int .i64 lo, .int .i64 hi] w R := by
  refine S_page_in ?_
  unfold W_page_in
  refine cond_d (fun h1 => ?_) (fun h1 => ?_)
  · have : decide (n ≤ hi) = decide (lo ≤ n ∧ n ≤ hi) := decide_eq_decide.2 (by omega)
    rw [this]
    exact h
  · have : decide (lo ≤ n ∧ n ≤ hi) = false := decide_eq_false (by omega)
    rw [this] at h
    exact h

/-- IndexFunc, of a function that answers by the byte alone. -/
theorem index_c {w : World} {a : Option Addr} {l c : Nat} {bs : List UInt8} {f : FuncId} {p : UInt8 → Bool} {R : Ending → World → Prop} (hr : Rd w a (bvs bs)) (hl : bs.length = l) (hb : l < 70368744177664)
    (hf : ∀ (x : UInt8) (w : World) (R : Ending → World → Prop), R (.returned (.bool (p x))) w → GoC Tryd.prog f #[.int .u8 (x.toNat : Int)] w R)
    (h : ∀ n : Int, (0 ≤ n ↔ bs.any p = true) → R (.returned (.int .i64 n)) w) : GoC Tryd.prog F_slices_IndexFunc_s_byte_byte #[.slice a l c, .func (.func f) #[] #[]] w R := by
  subst hl
  refine S_slices_IndexFunc_s_byte_byte ?_
  unfold W_slices_IndexFunc_s_byte_byte
  refine loopN (fun s w1 => w1 = w ∧ ∃ k : Nat, k ≤ bs.length ∧ s.1 = (k : Int) ∧ (bs.take k).any p = false) (fun s _ => bs.length - s.1.toNat) ⟨rfl, 0, Nat.zero_le _, rfl, rfl⟩ ?_
  rintro ⟨k0, u⟩ w1 ⟨hw1, k, hk, hk0, hany⟩ _
  dsimp only at hk0 ⊢
  subst hk0
  rw [hw1]
  refine cond_d (fun hlt => ?_) (fun hge => ?_)
  · have hkl : k < bs.length := by omega
    refine hr.idx (by omega) hlt (by rw [bvs_len]; omega) fun b o hg hc => ?_
    refine ⟨((bs[k]).toNat : Int), by rw [Int.toNat_natCast, add_at]; exact hc k _ (bvs_get hkl), ?_⟩
    refine hf _ _ _ ⟨_, rfl, cond_b (fun ht => ?_) (fun ht => ?_)⟩
    · refine h _ ⟨fun _ => ?_, fun _ => by omega⟩
      rw [List.any_eq_true]
      exact ⟨bs[k], List.getElem_mem hkl, ht⟩
    · have hwk : IntKind.wrap .i64 ((k : Int) + 1) = ((k + 1 : Nat) : Int) := by rw [wrap_i64 (by omega) (by omega)]; omega
      rw [hwk]
      refine ⟨⟨rfl, k + 1, by omega, rfl, ?_⟩, by simp only [Int.toNat_natCast]; omega⟩
      rw [take_snoc_get _ k hkl, List.any_append, hany]
      simp [ht]
  · have hke : k = bs.length := by omega
    subst hke
    rw [List.take_length] at hany
    exact h _ ⟨fun hh => by omega, fun hh => by rw [hany] at hh; cases hh⟩

/-- Are all bytes 00? -/
def allZ (bs : List UInt8) : Bool := !bs.any fun x => decide (x.toNat ≠ 0)
theorem zeros_c {w : World} {a : Option Addr} {l c : Nat} {bs : List UInt8} {R : Ending → World → Prop} (hr : Rd w a (bvs bs)) (hl : bs.length = l) (hb : l < 70368744177664)
    (h : R (.returned (.bool (allZ bs))) w) : GoC Tryd.prog F_page_zeros #[.slice a l c] w R := by
  refine S_page_zeros ?_
  unfold W_page_zeros
  refine S_slices_ContainsFunc_s_byte_byte ?_
  unfold W_slices_ContainsFunc_s_byte_byte
  refine index_c (p := fun x => decide (x.toNat ≠ 0)) hr hl hb (fun x w R hR => S_page_zeros_1 ?_) fun n hn => ⟨_, rfl, _, rfl, ?_⟩
  · unfold W_page_zeros_1
    have : (((x.toNat : Nat) : Int) != 0) = decide (x.toNat ≠ 0) := by
      by_cases hx : x.toNat = 0 <;> simp [hx]
    rw [this]
    exact hR
  · have : (!(decide (n ≥ 0))) = allZ bs := by
      unfold allZ
      cases ha : bs.any fun x => decide (x.toNat ≠ 0)
      · have : ¬ (0 ≤ n) := fun hh => by have := hn.1 hh; rw [ha] at this; cases this
        simp [this]
      · have : 0 ≤ n := hn.2 ha
        simp [this]
    rw [this]
    exact h

/-- A counter, a group; lists of them as they stand in memory. -/
structure CL where
  id : Int
  grp : Int
  lo : Int
  hi : Int
  val : Int
structure GL where
  id : Int
  sum : Int
def CL.cs (c : CL) : List Value := [.int .i64 c.id, .int .i64 c.grp, .int .i64 c.lo, .int .i64 c.hi, .int .i64 c.val]
def GL.cs (g : GL) : List Value := [.int .i64 g.id, .int .i64 g.sum]
def CsIn (w : World) (a : Option Addr) (L : List CL) : Prop := ∀ i (h : i < L.length), ∃ b o, a = some ⟨b, o, none⟩ ∧ ∀ q v, (L[i]).cs[q]? = some v → w.cell? ⟨b, o + i * 5 + q, none⟩ = some v
def GsIn (w : World) (a : Option Addr) (L : List GL) : Prop := ∀ i (h : i < L.length), ∃ b o, a = some ⟨b, o, none⟩ ∧ ∀ q v, (L[i]).cs[q]? = some v → w.cell? ⟨b, o + i * 2 + q, none⟩ = some v
theorem CsIn.kp0 {w w' : World} {a : Option Addr} {L : List CL} (h : CsIn w a L) (k : Kp no w w') : CsIn w' a L := fun i hi => by
  obtain ⟨b, o, ha, hc⟩ := h i hi
  exact ⟨b, o, ha, fun q v hv => k.cell (hc q v hv) id⟩
theorem GsIn.kp0 {w w' : World} {a : Option Addr} {L : List GL} (h : GsIn w a L) (k : Kp no w w') : GsIn w' a L := fun i hi => by
  obtain ⟨b, o, ha, hc⟩ := h i hi
  exact ⟨b, o, ha, fun q v hv => k.cell (hc q v hv) id⟩

def fits1 (n : Int) : Prop := 1 ≤ n ∧ n ≤ 1048576
instance (n : Int) : Decidable (fits1 n) := by unfold fits1; exact inferInstance
def faultC (c : CL) : Nat := if fits1 c.id ∧ fits1 c.grp then (if c.lo > c.hi then 11 else 0) else 23
def faultG (g : GL) : Nat := if fits1 g.id then 0 else 23
def firstF : List Nat → Nat
  | [] => 0
  | e :: r => if e = 0 then firstF r else e
theorem firstF_append : ∀ (l r : List Nat), firstF (l ++ r) = if firstF l = 0 then firstF r else firstF l
  | [], r => by simp [firstF]
  | e :: l, r => by
    simp only [List.cons_append, firstF]
    by_cases h : e = 0
    · simp only [h, if_true]; exact firstF_append l r
    · simp [h]
def contP (cs : List CL) (gs : List GL) : Nat := firstF (cs.map faultC ++ gs.map faultG)

/-- A page, as its cells hold it. -/
structure PgV where
  num : Int
  lsn : Int
  ca : Option Addr
  cl : Nat
  cc : Nat
  ga : Option Addr
  gl : Nat
  gc : Nat
def PgV.cs (p : PgV) : Array Value := #[.int .i64 p.num, .int .i64 p.lsn, .slice p.ca p.cl p.cc, .slice p.ga p.gl p.gc]
structure PgV.In (p : PgV) (w : World) (cs : List CL) (gs : List GL) : Prop where
  c : CsIn w p.ca cs
  cl : cs.length = p.cl
  cb : p.cl < 70368744177664
  g : GsIn w p.ga gs
  gl : gs.length = p.gl
  gb : p.gl < 70368744177664
theorem PgV.In.kp0 {p : PgV} {w w' : World} {cs : List CL} {gs : List GL} (h : p.In w cs gs) (k : Kp no w w') : p.In w' cs gs := ⟨h.c.kp0 k, h.cl, h.cb, h.g.kp0 k, h.gl, h.gb⟩

theorem size_c {w : World} {p : PgV} {cs : List CL} {gs : List GL} {R : Ending → World → Prop} (hp : p.In w cs gs) (h : ∀ w', Kp no w w' → R (.returned (.int .i64 ((cs.length + gs.length : Nat) : Int))) w') : GoC Tryd.prog F_page_Page_size #[.agg p.cs] w R := by
  refine S_page_Page_size ?_
  unfold W_page_Page_size
  refine AlF.intro fun b w1 _ hb k1 _ => ⟨p.ca, p.cl, p.cc, by rw [add_at]; exact hb.cell 2, p.ga, p.gl, p.gc, by rw [add_at]; exact hb.cell 3, ?_⟩
  have h1 := hp.cl
  have h2 := hp.gl
  have h3 := hp.cb
  have h4 := hp.gb
  have e : IntKind.wrap .i64 ((p.cl : Int) + (p.gl : Int)) = ((cs.length + gs.length : Nat) : Int) := by rw [wrap_i64 (by omega) (by omega)]; omega
  rw [e]
  exact h w1 k1
end Go.Proofs.YtnkdonpammdldaaDoor
