/- Contracts of the statements' own puts and which of layer 2. Conditions: lengths up to 4000. -/
import Derived.Test.YtplfoedgekdjgaaDoorHc
import Derived.Test.YtplfoedgekdjgaaDoorLb
set_option linter.unusedVariables false
set_option linter.unusedSimpArgs false
namespace Go.Proofs.YtplfoedgekdjgaaDoor
open Go Go.RowKit

/-- One call of a script, as its cells hold it. -/
structure OpL where
  kind : Int
  wh : Bool
  n : Nat
  i : Int
  at_ : Int
  size : Int
  ba : Option Addr
  bl : Nat
  bc : Nat
  pa : Option Addr
  pl : Nat
  pc : Nat
def OpL.cs (o : OpL) : Array Value := #[.int .i64 o.kind, .bool o.wh, .int .u64 (o.n : Int), .int .i64 o.i, .int .i64 o.at_, .int .i64 o.size, .slice o.ba o.bl o.bc, .slice o.pa o.pl o.pc]
def OpL.ok (o : OpL) : Prop := o.n < 18446744073709551616 ∧ -9223372036854775808 ≤ o.i ∧ o.i ≤ 9223372036854775807
/-- Its bytes. -/
structure OpL.Bs (o : OpL) (w : World) (B : List UInt8) : Prop where
  rd : Rd w o.ba (bvs B)
  len : B.length = o.bl
  nil : o.ba = none → o.bl = 0
  cap : o.bl ≤ o.bc
theorem OpL.Bs.kp0 {o : OpL} {w w' : World} {B : List UInt8} (h : o.Bs w B) (k : Kp no w w') : o.Bs w' B := ⟨h.rd.kp0 k, h.len, h.nil, h.cap⟩
theorem which_c {w : World} {o : OpL} {R : Ending → World → Prop} (h : ∀ w', Kp no w w' → R (.returned (.int .i64 (if o.wh then 1 else 0))) w') : GoC Tryd.prog F_law02_Op_which #[.agg o.cs] w R := by
  refine S_law02_Op_which ?_
  unfold W_law02_Op_which
  refine AlF.intro fun b w1 _ hb k1 _ => ⟨o.wh, by rw [add_at]; exact hb.cell 1, ?_⟩
  have := h w1 k1
  cases hw : o.wh <;> rw [hw] at this <;> exact this

theorem rd_marks {w : World} {b l : Nat} {cur : Array Value} {T : TypeId} {A : List UInt8} (hblk : Blk w b cur T) (htk : cur.toList.take (l + 3) = bvs (A ++ marks)) : Rd w (some ⟨b, 0, none⟩) (bvs (A ++ marks)) := by
  refine Rd.of_blk hblk fun i v hv => ?_
  rw [← htk, List.getElem?_take] at hv
  split at hv
  · rw [Nat.zero_add, ← Array.getElem?_toList]; exact hv
  · cases hv

theorem puts_c {w : World} {o : OpL} {B : List UInt8} {R : Ending → World → Prop} (ho : o.ok) (hB : o.Bs w B) (hl : o.bl ≤ 4000)
    (h : ∀ w', Kp no w w' → R (.returned (.bool true)) w') : GoC Tryd.prog F_law02_puts #[.agg o.cs] w R := by
  refine S_law02_puts ?_
  unfold W_law02_puts
  refine AlF.intro fun b1 w1 hb1e hb1 k1 _ => ⟨o.ba, o.bl, o.bc, by rw [add_at]; exact hb1.cell 6, ?_⟩
  have B1 := hB.kp0 k1
  have hBl := hB.len
  refine lent_c B1.rd hB.len hB.nil (by omega) fun b2 cur c2 w2 hb2 hcs hcap htk k2 hf2 => ⟨_, _, _, rfl, ?_⟩
  have hb12 := k2.blk hb1 id
  have B2 := B1.kp0 k2
  have k02 := k1.trans0 k2
  have hb1lt := hb1.lt
  refine ⟨o.kind, hb12.cell 0, cond_eq (fun hk => ?_) (fun hk => ?_)⟩
  · refine ⟨o.at_, by rw [add_at]; exact hb12.cell 4, o.size, by rw [add_at]; exact hb12.cell 5, ?_⟩
    refine get_l hB.len rfl (rd_lent hb2 hB.len htk) (by omega) ⟨_, _, rfl, ?_⟩
    refine ⟨o.ba, o.bl, o.bc, by rw [add_at]; exact hb12.cell 6, o.at_, by rw [add_at]; exact hb12.cell 4, o.size, by rw [add_at]; exact hb12.cell 5, ?_⟩
    refine refGet_c B2.rd hB.len (by omega) ⟨_, _, rfl, cond_t (by simp) (num_c ⟨_, rfl, cond_t (by simp) ?_⟩)⟩
    refine ⟨o.ba, o.bl, o.bc, by rw [add_at]; exact hb12.cell 6, ?_⟩
    refine kept_c (rd_marks hb2 htk) (by rw [List.length_append, hBl]; rfl) (by omega) (by simp) B2.rd hB.len hB.nil (by omega) fun w3 k3 => ⟨_, rfl, ?_⟩
    have : (B ++ marks == B ++ marks) = true := by simp
    rw [this]
    exact h _ (k02.trans0 k3)
  · refine ⟨o.at_, by rw [add_at]; exact hb12.cell 4, o.size, by rw [add_at]; exact hb12.cell 5, (o.n : Int), by rw [add_at]; exact hb12.cell 2, ?_⟩
    have put : ∀ {l : Nat} {c : Nat} {R : Ending → World → Prop}, B.length = l → (∀ cur' w', Blk w' b2 cur' T_uint8 → cur'.size = cur.size → (∀ i v, (bvs (putR B o.at_ o.size o.n).1)[i]? = some v → cur'[0 + i]? = some v) → (∀ i, (i < 0 ∨ 0 + B.length ≤ i) → cur'[i]? = cur[i]?) → Kp (fun k => k = b2) w2 w' →
        R (.returned (.int .i64 ((putR B o.at_ o.size o.n).2 : Int))) w') → GoC Tryd.prog F_field_Put #[.slice (some ⟨b2, 0, none⟩) l c, .int .i64 o.at_, .int .i64 o.size, .int .u64 (o.n : Int)] w2 R := by
      intro l c R hl' hR
      subst hl'
      refine put_c (o := 0) hb2 (fun i v hv => ?_) (by omega) ho.1 hR
      have hi : i < B.length := by
        have := (List.getElem?_eq_some_iff.1 hv).1
        rwa [bvs_len] at this
      have h1 : (bvs (B ++ marks))[i]? = some v := by rw [bvs_app, List.getElem?_append_left (by rw [bvs_len]; exact hi)]; exact hv
      rw [← htk, List.getElem?_take_of_lt (by omega)] at h1
      rw [Nat.zero_add, ← Array.getElem?_toList]
      exact h1
    refine put hB.len fun cur' w3 hb3 hsz3 hcur3 hrest3 k3 => ⟨_, rfl, ?_⟩
    have hlt2 : w.heap.size ≤ b2 := by have := k1.size; omega
    have hb13 := k3.blk hb12 (by omega)
    have k03 : Kp no w w3 := k02.trans k3 (fun _ _ h => h) fun k hk hh => by omega
    have B3 := hB.kp0 k03
    refine ⟨o.ba, o.bl, o.bc, by rw [add_at]; exact hb13.cell 6, ?_⟩
    refine append_new er_u8 B3.rd (by rw [bvs_len]; omega) hB.nil bvs_one (by omega) (by omega) fun a4 c4 w4 hs4 k4 hf4 _ => ⟨a4, _, c4, rfl, ?_⟩
    have hb14 := k4.blk hb13 id
    refine ⟨o.at_, by rw [add_at]; exact hb14.cell 4, o.size, by rw [add_at]; exact hb14.cell 5, (o.n : Int), by rw [add_at]; exact hb14.cell 2, ?_⟩
    refine refPut_c hs4 (by omega) ho.1 fun w5 hs5 k5 => ⟨_, rfl, num_c ⟨_, rfl, cond_t (by simp) ?_⟩⟩
    have k05 : Kp no w w5 := (k03.trans0 k4).trans k5 (fun _ _ h => h) fun k hk hh => by have := hf4 k hh; have := k03.size; omega
    have hlt3 : b2 < w3.heap.size := hb3.lt
    have hb5 : Blk w5 b2 cur' T_uint8 := k5.blk (k4.blk hb3 id) fun hh => by have := hf4 _ hh; omega
    have hPl : (putR B o.at_ o.size o.n).1.length = B.length := by
      unfold putR
      split
      · rename_i hfit
        split
        · obtain ⟨f1, f2, f3, f4⟩ := hfit
          rw [over_len (by rw [leB8_len]; omega)]
        · rfl
      · rfl
    have hP : Rd w5 (some ⟨b2, 0, none⟩) (bvs ((putR B o.at_ o.size o.n).1 ++ marks)) := by
      refine Rd.of_blk hb5 fun i v hv => ?_
      by_cases hi : i < B.length
      · rw [bvs_app, List.getElem?_append_left (by rw [bvs_len, hPl]; exact hi)] at hv
        exact hcur3 i v hv
      · rw [hrest3 _ (by omega), Nat.zero_add]
        have hv2 : (bvs (B ++ marks))[i]? = some v := by
          rw [bvs_app, List.getElem?_append_right (by rw [bvs_len]; omega), bvs_len]
          rw [bvs_app, List.getElem?_append_right (by rw [bvs_len, hPl]; omega), bvs_len, hPl] at hv
          exact hv
        rw [← htk, List.getElem?_take] at hv2
        split at hv2
        · rw [← Array.getElem?_toList]; exact hv2
        · cases hv2
    refine kept_c hP (by rw [List.length_append, hPl, hBl]; rfl) (by omega) (by simp) hs5.rd (by rw [hPl, hBl]) (fun hh => by subst hh; exact hs5.zero.1) (by omega) fun w6 k6 => ⟨_, rfl, ?_⟩
    have : ((putR B o.at_ o.size o.n).1 ++ marks == (putR B o.at_ o.size o.n).1 ++ marks) = true := by simp
    rw [this]
    exact h _ (k05.trans0 k6)
end Go.Proofs.YtplfoedgekdjgaaDoor
