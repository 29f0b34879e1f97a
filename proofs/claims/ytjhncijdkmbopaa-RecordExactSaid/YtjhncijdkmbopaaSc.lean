/- Plain laws of a made record: it is right, and not with another kind's field. Conditions: none. -/
import Derived.Test.YtjhncijdkmbopaaSb
set_option linter.unusedVariables false
set_option linter.unusedSimpArgs false
namespace Go.Proofs.Ytjhncijdkmbopaa
open Go Go.RowKit

theorem ptAt_ge : ∀ (L : List LV) (at_ : Int), at_ ≤ ptAt L at_
  | [], at_ => Int.le_refl _
  | x :: l, at_ => by
    have := ptAt_ge l (at_ + rstI x.tx 1 1000)
    have := rstI_in (n := x.tx) (lo := 1) (hi := 1000) (by omega)
    rw [ptAt]
    omega
theorem ptAt_le : ∀ (L : List LV) (at_ : Int), ptAt L at_ ≤ at_ + 1000 * (L.length : Int)
  | [], at_ => by rw [ptAt]; simp
  | x :: l, at_ => by
    have := ptAt_le l (at_ + rstI x.tx 1 1000)
    have := rstI_in (n := x.tx) (lo := 1) (hi := 1000) (by omega)
    rw [ptAt, List.length_cons]
    omega
theorem ptLs_len (lsn : Int) : ∀ (L : List LV) (at_ : Int), (ptLs lsn L at_).length = L.length
  | [], _ => rfl
  | x :: l, at_ => by rw [ptLs, List.length_cons, List.length_cons, ptLs_len lsn l]
theorem ptDs_len (lsn : Int) : ∀ (D : List DV) (p : Int) (n : Nat), n ≤ 16 → (ptDs lsn D p n).length + n ≤ 16
  | [], _, n, h => by simp [ptDs]; exact h
  | y :: l, p, n, h => by
    rw [ptDs]
    split
    · have := ptDs_len lsn l (dvP lsn p y).page (n + 1) (by omega)
      rw [List.length_cons]
      omega
    · simpa using h
theorem ptLs_ok {lsn next : Int} (hn : 2 ≤ lsn) (hn2 : lsn ≤ 2147483647) : ∀ (L : List LV) (at_ last : Int), last ≤ at_ → ptAt L at_ < next → liB next lsn last (ptLs lsn L at_) = true
  | [], _, _, _, _ => rfl
  | x :: l, at_, last, h, hx => by
    have h1 := rstI_in (n := x.tx) (lo := 1) (hi := 1000) (by omega)
    have h2 := rstI_in (n := x.last) (lo := 1) (hi := lsn - 1) (by omega)
    rw [ptAt] at hx
    have h3 := ptAt_ge l (at_ + rstI x.tx 1 1000)
    have ih := ptLs_ok hn hn2 l (at_ + rstI x.tx 1 1000) (at_ + rstI x.tx 1 1000) (Int.le_refl _) hx
    rw [ptLs, liB]
    have e : (lvP lsn at_ x).tx = at_ + rstI x.tx 1 1000 := rfl
    have e2 : (lvP lsn at_ x).last = rstI x.last 1 (lsn - 1) := rfl
    have e3 : (!((lvP lsn at_ x).c && (lvP lsn at_ x).u)) = true := by
      show (!(x.c && (x.u && !x.c))) = true
      cases x.c <;> cases x.u <;> rfl
    rw [e, e2, e3, ih]
    have : inB (rstI x.last 1 (lsn - 1)) 1 2147483647 = true := inB_iff.2 (by omega)
    rw [this]
    have : belB (rstI x.last 1 (lsn - 1)) lsn = true := by unfold belB; exact decide_eq_true (by omega)
    rw [this]
    simp
    omega
theorem m5_in {p : Int} (h : p < 63) : p + 1 ≤ m5 p ∧ m5 p ≤ 63 := by
  unfold m5
  split <;> omega
theorem ptDs_ok {lsn : Int} (hn : 2 ≤ lsn) (hn2 : lsn ≤ 2147483647) : ∀ (D : List DV) (p : Int) (n : Nat), diB lsn p (ptDs lsn D p n) = true
  | [], _, _ => rfl
  | y :: l, p, n => by
    rw [ptDs]
    split
    · rename_i hc
      have h0 := m5_in hc.2
      have h1 := rstI_in (n := y.page) (lo := p + 1) (hi := m5 p) h0.1
      have h2 := rstI_in (n := y.since) (lo := 1) (hi := lsn - 1) (by omega)
      rw [diB]
      have e : (dvP lsn p y).page = rstI y.page (p + 1) (m5 p) := rfl
      have e2 : (dvP lsn p y).since = rstI y.since 1 (lsn - 1) := rfl
      rw [ptDs_ok hn hn2 l, e, e2]
      have : inB (rstI y.since 1 (lsn - 1)) 1 2147483647 = true := inB_iff.2 (by omega)
      rw [this]
      have : belB (rstI y.since 1 (lsn - 1)) lsn = true := by unfold belB; exact decide_eq_true (by omega)
      rw [this]
      simp
      omega
    · rfl

theorem inB_in {n lo hi lo' hi' : Int} (h : lo ≤ n ∧ n ≤ hi) (h1 : lo' ≤ lo) (h2 : hi ≤ hi') : inB n lo' hi' = true := inB_iff.2 (by omega)
theorem chk_ok {r : RV} (h1 : 1 ≤ r.kind) (h8 : r.kind ≤ 8) (h : okB r = true) : chkN r = 0 := by
  unfold chkN
  rw [if_neg (by omega), if_pos h]

/-- A made record is right. -/
theorem made_ok (r : RV) : chkN (madeR r) = 0 := by
  obtain ⟨bk, bn, bw⟩ := mk_b r
  have bt : 1 ≤ mkTx r ∧ mkTx r ≤ 2147483647 := rstI_in (by omega)
  have bp : 1 ≤ mkP r ∧ mkP r ≤ mkN r - 1 := rstI_in (by omega)
  have bwi : 0 ≤ mkWi r ∧ mkWi r ≤ 30 := rstI_in (by omega)
  have bsp : mkWp r + 1 ≤ mkSp r ∧ mkSp r ≤ 63 := rstI_in (by omega)
  have bsi : 0 ≤ mkSi r ∧ mkSi r ≤ 83 := rstI_in (by omega)
  have bi : 1 ≤ mkI r ∧ mkI r ≤ 1048576 := rstI_in (by omega)
  have bg : 1 ≤ mkG r ∧ mkG r ≤ 1048576 := rstI_in (by omega)
  have n0 : inB (mkN r) 0 2147483647 = true := inB_in bn (by omega) (by omega)
  have sl : slB (mkWp r) (mkWi r) (mkSp r) (mkSi r) = true := by
    unfold slB
    rw [inB_in bw (by omega) (by omega), inB_in bwi (by omega) (by omega), inB_in bsp (by omega) (by omega), inB_in bsi (by omega) (by omega), decide_eq_true (by omega : mkWp r ≠ mkSp r)]
    rfl
  have be : belB (mkP r) (mkN r) = true := by unfold belB; exact decide_eq_true (by omega)
  unfold madeR
  split
  · rename_i e1
    refine chk_ok (by dsimp only; omega) (by dsimp only; omega) ?_
    unfold okB
    rw [if_neg (by dsimp only; omega), if_neg (by dsimp only; omega), if_neg (by dsimp only; omega), if_neg (by dsimp only; omega)]
    dsimp only
    rw [n0, inB_in bt (by omega) (by omega)]
    rfl
  rename_i n1
  split
  · rename_i e2
    refine chk_ok (by dsimp only; omega) (by dsimp only; omega) ?_
    unfold okB
    rw [if_pos (by dsimp only; omega)]
    dsimp only
    rw [n0, sl, inB_in bi (by omega) (by omega), inB_in bg (by omega) (by omega)]
    have : mkLo r ≤ mkV r ∧ mkV r ≤ mkHi r := by
      unfold mkV mkV1 mkLo mkHi
      repeat' split
      all_goals omega
    rw [decide_eq_true this]
    rfl
  rename_i n2
  split
  · rename_i e34
    refine chk_ok (by dsimp only; omega) (by dsimp only; omega) ?_
    unfold okB
    rw [if_neg (by dsimp only; omega), if_neg (by dsimp only; omega), if_pos (by dsimp only; omega)]
    dsimp only
    rw [n0, sl, inB_in bi (by omega) (by omega), inB_in bp (by omega) (by omega), be, inB_in bt (by omega) (by omega)]
    rfl
  rename_i n34
  split
  · rename_i e567
    refine chk_ok (by dsimp only; omega) (by dsimp only; omega) ?_
    unfold okB
    rw [if_neg (by dsimp only; omega), if_neg (by dsimp only; omega), if_neg (by dsimp only; omega), if_pos (by dsimp only; omega)]
    dsimp only
    rw [n0, inB_in bp (by omega) (by omega), be, inB_in bt (by omega) (by omega)]
    rfl
  rename_i n567
  have l1 := ptAt_ge (r.live.take 32) 0
  have l2 := ptAt_le (r.live.take 32) 0
  have l3 : (r.live.take 32).length ≤ 32 := by rw [List.length_take]; omega
  have bx := rstI_in (n := r.next) (lo := ptAt (r.live.take 32) 0 + 1) (hi := 2147483648) (by omega)
  refine chk_ok (by dsimp only; omega) (by dsimp only; omega) ?_
  unfold okB
  rw [if_neg (by dsimp only; omega), if_pos (by dsimp only; omega)]
  dsimp only
  rw [n0]
  have : cpB (rstI r.next (ptAt (r.live.take 32) 0 + 1) 2147483648) (mkN r) (ptLs (mkN r) (r.live.take 32) 0) (ptDs (mkN r) r.dirty (-1) 0) = true := by
    unfold cpB
    have d := ptDs_len (mkN r) r.dirty (-1) 0 (by omega)
    rw [inB_in bx (by omega) (by omega), decide_eq_true (by rw [ptLs_len]; exact l3), decide_eq_true (by omega), ptLs_ok bn.1 bn.2 _ _ _ (Int.le_refl _) (by omega), ptDs_ok bn.1 bn.2]
    rfl
  rw [this]
  rfl
theorem made_64 {r : RV} (h : r.w64) : (madeR r).w64 := by
  obtain ⟨h1, h2, h3, h4⟩ := h
  have z : i64 0 := by unfold i64; decide
  unfold madeR
  repeat' split
  · exact ⟨z, z, z, z⟩
  · refine ⟨z, ?_, ?_, ?_⟩ <;> dsimp only <;> unfold i64 at * <;> (try unfold mkV mkV1) <;> (try unfold mkLo) <;> (try unfold mkHi) <;> (repeat' split) <;> omega
  · exact ⟨h1, z, z, z⟩
  · exact ⟨z, z, z, z⟩
  · exact ⟨z, z, z, z⟩
theorem made_kind (r : RV) : (madeR r).kind = mkK r := by
  unfold madeR
  repeat' split
  all_goals rfl
/-- With another kind's field it is none. -/
def spoil (r : RV) (t : Int) : RV := if r.kind = 1 ∨ r.kind = 5 ∨ r.kind = 6 ∨ r.kind = 7 ∨ r.kind = 8 then { r with delta := 1 } else if r.kind = 2 then { r with tx := t } else { r with grp := t }
theorem spoil_chk {r : RV} {t : Int} (h1 : 1 ≤ r.kind) (h8 : r.kind ≤ 8) (ht : 1 ≤ t) : chkN (spoil r t) = 23 := by
  have bad : ∀ (q : RV) (o : Nat), q.kind = r.kind → o ∈ plc → o ∉ iof r.kind → o ∉ sof r.kind → q.gi o ≠ 0 → chkN q = 23 := fun q o hk ho hi hs hz => by
    have : okB q ≠ true := fun hok => hz ((ok_zero hok (by omega) (by omega)).1 o ho (by rw [hk]; exact hi) (by rw [hk]; exact hs))
    unfold chkN
    rw [if_neg (by omega), if_neg this]
  unfold spoil
  split
  · rename_i hk
    refine bad _ 8 rfl (by decide) ?_ ?_ (by show (1 : Int) ≠ 0; decide)
    · rcases hk with e | e | e | e | e <;> rw [e] <;> decide
    · rcases hk with e | e | e | e | e <;> rw [e] <;> decide
  rename_i n1
  split
  · rename_i e
    refine bad _ 2 rfl (by decide) (by rw [e]; decide) (by rw [e]; decide) ?_
    show t ≠ 0
    omega
  rename_i n2
  have e : r.kind = 3 ∨ r.kind = 4 := by omega
  refine bad _ 10 rfl (by decide) ?_ ?_ (by show t ≠ 0; omega)
  · rcases e with e | e <;> rw [e] <;> decide
  · rcases e with e | e <;> rw [e] <;> decide
end Go.Proofs.Ytjhncijdkmbopaa
