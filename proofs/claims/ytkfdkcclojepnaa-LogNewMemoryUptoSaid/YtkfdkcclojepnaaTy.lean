/- slices.Backward over pending writes: the iterator's contract. Conditions: none. -/
import Derived.Test.YtkfdkcclojepnaaTd
import Derived.Test.YtkfdkcclojepnaaChecked
import Derived.RangeFuncNested
import Derived.RangeFuncBound
import Derived.RangeFuncCalls
import Derived.RangeFuncLeaves
import Derived.RangeFuncBox
import Derived.Shelf.Abstract
import Derived.Shelf.RegionOpen
import Derived.WalkKit
import Derived.OwnWalkIn
import Derived.TacticsInMore
import Derived.LoopNIn
import Derived.LoopIn
set_option linter.unusedVariables false
set_option linter.unusedSimpArgs false
namespace Go.Proofs.Ytkfdkcclojepnaa
open Go Go.RowKit Go.Shelf
attribute [local go_sem] Oper.semAt_some

def pdAgg (x : PD) : Value := .agg #[.int .i64 x.sec, .slice x.a x.bs.length x.c]
set_option maxRecDepth 100000 in
set_option maxHeartbeats 2000000 in
theorem back1_in {α : Type} (ix : α → Nat) (pd : α → PD) (F : Fence) (n : Nat) (h7 : F.fn 94) (hro : F.round = none) (hn : 1 ≤ n) (l Bs n₀ b len cap : Nat) (xs : List α) (hxl : xs.length = len) (hreach : len * 32 ≤ 140737488351232) (hb : b < n₀) (hBn : Bs < n₀) (J Jx : List α → World → Prop)
    (hY : ∀ pre x W, J pre W → pre.length < len → YieldAt F (n - 1) Try.prog l #[.int .i64 (ix x : Int), pdAgg (pd x)] W fun e W' =>
      (e = .returned (.bool true) ∧ J (pre ++ [x]) W' ∧ Below n₀ W W') ∨ (e = .returned (.bool false) ∧ Jx (pre ++ [x]) W'))
    (W : World) (hBs : W.cell? ⟨Bs, 0, none⟩ = some (.slice (some ⟨b, 0, none⟩) len cap))
    (hc : ∀ k (h : k < xs.length), ix xs[k] = len - 1 - k ∧ W.cell? ⟨b, (len - 1 - k) * 2, none⟩ = some (.int .i64 (pd xs[k]).sec) ∧ W.cell? ⟨b, (len - 1 - k) * 2 + 1, none⟩ = some (.slice (pd xs[k]).a (pd xs[k]).bs.length (pd xs[k]).c)) (h0 : J [] W) :
    CallsIn F n Try.prog 94 #[.func (.yield l) #[] #[], .pointer (some ⟨Bs, 0, none⟩)] W fun e W' => (∃ v, e = .returned v) ∧
      ((∃ ys, ys = xs ∧ J ys W') ∨ (∃ pre, (∃ k, k ≤ len ∧ pre = xs.take k) ∧ Jx pre W')) := by
  refine callsIn_of_wp Try.func94 rfl h7 ?_ hro
  simp only [Try.ntmps94, List.size_toArray, List.length_cons, List.length_nil, Nat.reduceAdd, Nat.reduceSub, Array.replicate_succ, Array.replicate_zero, List.push_toArray, List.append_toArray, List.nil_append, List.cons_append]
  gi_wp2
  gi_loopw [3] (fun i wr => ∃ k : Nat, k ≤ len ∧ i = .int .i64 ((len : Int) - 1 - (k : Int)) ∧ J (xs.take k) wr ∧ Below n₀ W wr)
    (fun i _ => (intOf i + 1).toNat)
  case atStart => exact ⟨0, Nat.zero_le _, by simp, h0, Below.refl _ _⟩
  case round =>
    obtain ⟨k, hk, rfl, hJs, hnx⟩ := hrel
    by_cases hlt : k < len
    · have hkx : k < xs.length := by omega
      obtain ⟨fn, tmps, assign, body, hy, hR⟩ := hY _ (xs[k]'hkx) wr hJs (by rw [List.length_take]; omega)
      have e : (len : Int) - 1 - (k : Int) = ((len - 1 - k : Nat) : Int) := by omega
      obtain ⟨g0, g1, g2⟩ := hc k hkx
      have hc1 : wr.cell? ⟨b, (len - 1 - k) * 2, none⟩ = some (.int .i64 (pd (xs[k]'hkx)).sec) := (hnx.cell (p := ⟨b, (len - 1 - k) * 2, none⟩) hb).trans g1
      have hc2 : wr.cell? ⟨b, (len - 1 - k) * 2 + 1, none⟩ = some (.slice (pd (xs[k]'hkx)).a (pd (xs[k]'hkx)).bs.length (pd (xs[k]'hkx)).c) := (hnx.cell (p := ⟨b, (len - 1 - k) * 2 + 1, none⟩) hb).trans g2
      have hus : xs.take k ++ [xs[k]'hkx] = xs.take (k + 1) := (take_snoc_get xs k hkx).symm
      rw [e]
      rw [g0] at hy
      clear g0 g1 g2 e
      rw [hus] at hR
      generalize (xs[k]'hkx) = x at *
      have hBs' : wr.cell? ⟨Bs, 0, none⟩ = some (.slice (some ⟨b, 0, none⟩) len cap) := (hnx.cell (p := ⟨Bs, 0, none⟩) hBn).trans hBs
      dsimp only [pdAgg] at hy
      have hkk : k + 1 + (len - 1 - k) = len := by omega
      have hjl : len - 1 - k < len := by omega
      clear hus
      revert hkk
      generalize hj : len - 1 - k = j at *
      intro hkk
      clear hj
      gi_wp2
      refine hR.mono ?_
      rintro e W3 (⟨rfl, hJ3, hk3⟩ | ⟨rfl, hJx3⟩)
      · gi_wp2
        go_roundw
        case rel => exact ⟨k + 1, by omega, by (first | (congr 1; omega; done) | (congr 1; done)), hJ3, hnx.trans hk3⟩
        case measure => simp [intOf] <;> omega
      · gi_wp2
        refine bodyPost_ret (results_none rfl _ _ _) rfl ?_
        exact ⟨⟨_, rfl⟩, .inr ⟨_, ⟨k + 1, by omega, rfl⟩, hJx3⟩⟩
    · obtain rfl : k = len := by omega
      have e : (k : Int) - 1 - (k : Int) = -1 := by omega
      rw [e]
      rw [List.take_of_length_le (by omega)] at hJs
      clear e
      gi_wp2
      go_end0
      exact ⟨⟨_, rfl⟩, .inl ⟨_, rfl, hJs⟩⟩

/-- .. at the nil slice: no round. -/
theorem back1_nil_in {α : Type} (F : Fence) (n : Nat) (h7 : F.fn 94) (hro : F.round = none) (l Bs : Nat) (J : List α → World → Prop) (W : World) (hBs : W.cell? ⟨Bs, 0, none⟩ = some (.slice none 0 0)) (h0 : J [] W) :
    CallsIn F n Try.prog 94 #[.func (.yield l) #[] #[], .pointer (some ⟨Bs, 0, none⟩)] W fun e W' => (∃ v, e = .returned v) ∧ J [] W' := by
  refine callsIn_of_wp Try.func94 rfl h7 ?_ hro
  simp only [Try.ntmps94, List.size_toArray, List.length_cons, List.length_nil, Nat.reduceAdd, Nat.reduceSub, Array.replicate_succ, Array.replicate_zero, List.push_toArray, List.append_toArray, List.nil_append, List.cons_append]
  gi_wp2
  gi_loopw [3] (fun i wr => i = .int .i64 (-1) ∧ J [] wr) (fun _ _ => 0)
  case atStart => exact ⟨rfl, h0⟩
  case round =>
    obtain ⟨rfl, hJs⟩ := hrel
    gi_wp2
    go_end0
    exact ⟨⟨_, rfl⟩, hJs⟩

/-- slices.Backward: the slice value is boxed; the function value captures the box. -/
theorem backward_in (F : Fence) (n : Nat) (h5 : F.fn 82) (hro : F.round = none) (a : Option Addr) (len cap : Nat) (w : World) :
    CallsIn F n Try.prog 82 #[.slice a len cap] w fun e w' => e = .returned (.func (.func 94) #[] #[.pointer (some ⟨w.heap.size, 0, none⟩)]) ∧ w' = w.alloc (.cells #[.slice a len cap] 67) := by
  refine callsIn_of_wp Try.func82 rfl h5 ?_ hro
  simp only [Try.ntmps82, List.size_toArray, List.length_cons, List.length_nil, Nat.reduceAdd, Nat.reduceSub, Array.replicate_succ, Array.replicate_zero, List.push_toArray, List.append_toArray, List.nil_append, List.cons_append]
  gi_wp2
  go_ret
  exact ⟨rfl, rfl⟩

/-- The value handed back is an iterator: the pending writes, from the last to the first. -/
theorem back_stops {α : Type} (ix : α → Nat) (pd : α → PD) (F : Fence) (n : Nat) (h7 : F.fn 94) (hro : F.round = none) (hn : 1 ≤ n) (Bs n₀ : Nat) (a : Option Addr) (cap : Nat) (len : Nat) (xs : List α) (hxl : xs.length = len) (hreach : len * 32 ≤ 140737488351232) (w : World) (hBs : Bs < n₀) (hn₀ : n₀ ≤ w.heap.size)
    (hc : w.cell? ⟨Bs, 0, none⟩ = some (.slice a len cap)) (hI : (a = none ∧ len = 0 ∧ cap = 0) ∨ ∃ b, a = some ⟨b, 0, none⟩ ∧ b < n₀ ∧ ∀ k (h : k < xs.length), ix xs[k] = len - 1 - k ∧ w.cell? ⟨b, (len - 1 - k) * 2, none⟩ = some (.int .i64 (pd xs[k]).sec) ∧ w.cell? ⟨b, (len - 1 - k) * 2 + 1, none⟩ = some (.slice (pd xs[k]).a (pd xs[k]).bs.length (pd xs[k]).c)) :
    SeqStopsK F n Try.prog 94 #[.pointer (some ⟨Bs, 0, none⟩)] (fun x : α => #[Value.int .i64 (ix x : Int), pdAgg (pd x)]) (Below n₀) (fun ys => ys = xs) (fun pre => ∃ k, k ≤ len ∧ pre = xs.take k) len w := fun l J Jx W hW _ _ hY h0 => by
  have hW' := hW.mono hn₀
  have hc' := (hW'.cell (p := ⟨Bs, 0, none⟩) hBs).trans hc
  rcases hI with ⟨rfl, rfl, rfl⟩ | ⟨b, rfl, hb, hcs⟩
  · have hx0 : xs = [] := List.eq_nil_of_length_eq_zero hxl
    exact (back1_nil_in F n h7 hro l Bs J W hc' h0).mono fun e W' ⟨he, hj⟩ => ⟨he, .inl ⟨_, hx0.symm, hj⟩⟩
  · exact back1_in ix pd F n h7 hro hn l Bs n₀ b len cap xs hxl hreach hb hBs J Jx hY W hc' (fun k hk => ⟨(hcs k hk).1, (hW'.cell (p := ⟨b, (len - 1 - k) * 2, none⟩) hb).trans (hcs k hk).2.1, (hW'.cell (p := ⟨b, (len - 1 - k) * 2 + 1, none⟩) hb).trans (hcs k hk).2.2⟩) h0
end Go.Proofs.Ytkfdkcclojepnaa
