/- Layer 4: shapes; a slot's bytes, plain; arrays of bytes in memory. Conditions: none. -/
import Derived.Test.YtaehmogilimmfaaTg
import Derived.Test.YtaehmogilimmfaaFe
set_option linter.unusedVariables false
set_option linter.unusedSimpArgs false
namespace Go.Proofs.Ytaehmogilimmfaa
open Go Go.RowKit

/-- A shape. -/
structure Sh where
  pg : Int
  lg : Int
  fr : Int
deriving DecidableEq
def Sh.v (s : Sh) : Value := .agg #[.int .i64 s.pg, .int .i64 s.lg, .int .i64 s.fr]
/-- May it be? -/
def Sh.may (s : Sh) : Prop := 2 ≤ s.pg ∧ s.pg ≤ 64 ∧ 4 ≤ s.lg ∧ s.lg ≤ 4096 ∧ 2 ≤ s.fr ∧ s.fr ≤ 16
instance (s : Sh) : Decidable s.may := by unfold Sh.may; exact inferInstance
def Sh.need (s : Sh) : Int := 5 + 2 * s.pg + s.lg

/-- A slot's bytes. -/
def slotB (st : Nat) (s : Sh) (pt : Int) : List UInt8 := 77 :: (leB8 8 st ++ (leB8 1 s.pg.toNat ++ (leB8 2 s.lg.toNat ++ (leB8 1 s.fr.toNat ++ (leB8 4 pt.toNat ++ (List.replicate 494 0 ++ [UInt8.ofNat (st % 256)]))))))
theorem slotB_len (st : Nat) (s : Sh) (pt : Int) : (slotB st s pt).length = 512 := by
  unfold slotB
  simp only [List.length_cons, List.length_append, leB8_len, List.length_replicate, List.length_nil]

theorem subP0 (b : Nat) : subP ⟨b, 0, none⟩ 512 0 1 = ⟨b, 0, none⟩ := by
  unfold subP
  rw [if_neg (by omega), add_at]

theorem Blk.at {w : World} {b o : Nat} {cs : Array Value} {T : TypeId} {ad : Addr} {v : Value} (h : Blk w b cs T) (had : ad = ⟨b, o, none⟩) (hv : cs[o]? = some v) : w.cell? ad = some v := by
  subst had
  rw [h.cell]
  exact hv
/-- Cells of a block, as a list. -/
def Has (cs : Array Value) (xs : List Value) : Prop := ∀ (i : Nat) (v : Value), xs[i]? = some v → cs[i]? = some v
theorem cells_are {w : World} {a : Addr} : ∀ (xs : List Value) (k : Nat), (∀ (i : Nat) (v : Value), xs[i]? = some v → w.cell? (a.add (k + i)) = some v) → cellsAre w a k xs
  | [], _, _ => trivial
  | x :: xs, k, h => ⟨by have := h 0 x rfl; rwa [Nat.add_zero] at this, cells_are xs (k + 1) fun i v hv => by
      have := h (i + 1) v (by simpa using hv)
      rwa [show k + (i + 1) = k + 1 + i by omega] at this⟩
theorem cells_blk {w : World} {b : Nat} {cs : Array Value} {T : TypeId} {xs : List Value} (h : Blk w b cs T) (hc : Has cs xs) : cellsAre w ⟨b, 0, none⟩ 0 xs :=
  cells_are xs 0 fun i v hv => by
    rw [Nat.zero_add]
    exact h.at (add1 b i) (hc i v hv)
theorem stl_go {b : Nat} {T : TypeId} {K : World → Prop} : ∀ (xs : List Value) (k : Nat) (w : World) (cs : Array Value), Blk w b cs T → k + xs.length ≤ cs.size → (∀ v ∈ xs, v.oneCell' = true) →
    (∀ (w' : World) (cs' : Array Value), Blk w' b cs' T → cs'.size = cs.size → (∀ (i : Nat) (v : Value), xs[i]? = some v → cs'[k + i]? = some v) → (∀ i : Nat, i < k → cs'[i]? = cs[i]?) → Kp (fun j => j = b) w w' → K w') → StL w ⟨b, 0, none⟩ k xs K
  | [], k, w, cs, hb, _, _, hk => hk w cs hb rfl (fun i v hv => by simp at hv) (fun _ _ => rfl) (Kp.refl _ _)
  | x :: xs, k, w, cs, hb, hl, h1, hk => by
    refine ⟨h1 x (by simp), StF.at (i := k) (add1 b k) hb (by simp at hl; omega) fun w1 hb1 k1 _ => ?_⟩
    refine stl_go xs (k + 1) w1 _ hb1 (by simp at hl ⊢; omega) (fun v hv => h1 v (by simp [hv])) fun w' cs' hb' hs' hx hlow kk => ?_
    refine hk w' cs' hb' (by rw [hs']; simp) (fun i v hv => ?_) (fun i hi => ?_) (k1.trans0 kk)
    · cases i with
      | zero =>
        have : cs'[k]? = some x := by
          rw [hlow k (by omega)]
          simp at hl
          rw [Array.getElem?_setIfInBounds_self, if_pos (by omega)]
        simp at hv
        subst hv
        rw [Nat.add_zero]
        exact this
      | succ i =>
        have := hx i v (by simpa using hv)
        rwa [show k + (i + 1) = k + 1 + i by omega]
    · rw [hlow i (by omega), Array.getElem?_setIfInBounds_ne (by omega)]
theorem stl_blk {w : World} {b : Nat} {cs : Array Value} {T : TypeId} {xs : List Value} {K : World → Prop} (hb : Blk w b cs T) (hl : xs.length ≤ cs.size) (h1 : ∀ v ∈ xs, v.oneCell' = true)
    (hk : ∀ w' cs', Blk w' b cs' T → cs'.size = cs.size → Has cs' xs → Kp (fun j => j = b) w w' → K w') : StL w ⟨b, 0, none⟩ 0 xs K :=
  stl_go xs 0 w cs hb (by omega) h1 fun w' cs' hb' hs' hx _ k => hk w' cs' hb' hs' (fun i v hv => by have := hx i v hv; rwa [Nat.zero_add] at this) k

theorem put_l {w : World} {b c l : Nat} {cur : Array Value} {T : TypeId} {bs : List UInt8} {at_ size : Nat} {n : Nat} {R : Ending → World → Prop} (hl : bs.length = l) (hlb : l ≤ 100000) (hblk : Blk w b cur T) (hcur : Has cur (bvs bs)) (h1 : 1 ≤ size) (h8 : size ≤ 8) (hf : at_ + size ≤ l) (hn : n < 256 ^ size) (hn64 : n < 18446744073709551616)
    (h : ∀ cur' w', Blk w' b cur' T → cur'.size = cur.size → Has cur' (bvs (over bs at_ (leB8 size n))) → Kp (fun k => k = b) w w' → R (.returned (.int .i64 0)) w') :
    GoC Try.prog F_field_Put #[.slice (some ⟨b, 0, none⟩) l c, .int .i64 (at_ : Int), .int .i64 (size : Int), .int .u64 (n : Int)] w R := by
  subst hl
  have e : putR bs (at_ : Int) (size : Int) n = (over bs at_ (leB8 size n), 0) := by
    have hfit : fits bs.length (at_ : Int) (size : Int) := by unfold fits; omega
    unfold putR
    rw [if_pos hfit, Int.toNat_natCast, Int.toNat_natCast, if_pos hn]
  refine put_c hblk (fun i v hv => by rw [Nat.zero_add]; exact hcur i v hv) (by omega) hn64 fun cur' w' hb' hs' hc' _ k => ?_
  rw [e] at hc' ⊢
  exact h cur' w' hb' hs' (fun i v hv => by have := hc' i v hv; rwa [Nat.zero_add] at this) k
end Go.Proofs.Ytaehmogilimmfaa
