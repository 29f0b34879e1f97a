/- General: a new slice of bytes; Get at a given length. Conditions: lengths below 2^46. -/
import Derived.Test.YtnkdonpammdldaaDoorFe
import Derived.Laws.MakeOwn
set_option linter.unusedVariables false
namespace Go.Proofs.YtnkdonpammdldaaDoor
open Go Go.RowKit

theorem make_u8 {w : World} {n : Nat} (hn : n ≤ 70368744177664) {K : Value → World → Prop}
    (h : ∀ b w' cur, Blk w' b cur T_uint8 → cur.toList = bvs (List.replicate n 0) → Kp no w w' → b = w.heap.size → K (.slice (some ⟨b, 0, none⟩) n n) w') :
    RunF Tryd.prog (Instr.makeSlice T_s_uint8 (.int .i64 (n : Int)) (.int .i64 (n : Int))) w K := by
  obtain ⟨ht, i, hi, hz, hs, hb, _⟩ := er_u8
  have hrun := run_make (P := Tryd.prog) w T_s_uint8 T_uint8 i (.int .u8 0) ht hi hz .i64 .i64 (n : Int) (n : Int) (by omega) (Int.le_refl _) (by rw [hb]; omega) (by omega)
  rw [Int.toNat_natCast] at hrun
  refine ⟨_, _, hrun, AlF.intro (K := fun b w' => K (.slice (some ⟨b, 0, none⟩) n n) w') fun b w' hb hblk k _ => h b w' _ hblk ?_ k hb⟩
  rw [hs, Nat.mul_one]
  apply List.ext_getElem?
  intro j
  simp only [madeCells, Array.toList_map, Array.toList_range, List.getElem?_map, bvs, List.map_replicate, List.getElem?_replicate]
  by_cases hj : j < n
  · rw [List.getElem?_range hj, if_pos hj]
    simp [Value.cells, Nat.mod_one, bv]
  · rw [List.getElem?_eq_none (by simpa using hj), if_neg hj]
    rfl

theorem get_l {w : World} {a : Option Addr} {c l : Nat} {bs : List UInt8} {at_ size : Int} {x : Nat × Nat} {R : Ending → World → Prop} (hl : bs.length = l) (hx : getR bs at_ size = x) (hr : Rd w a (bvs bs)) (hb : bs.length < 70368744177664)
    (h : R (.returned (.tuple #[.int .u64 (x.1 : Int), .int .i64 (x.2 : Int)])) w) :
    GoC Tryd.prog F_field_Get #[.slice a l c, .int .i64 at_, .int .i64 size] w R := by
  subst hl hx
  exact get_c hr hb h

end Go.Proofs.YtnkdonpammdldaaDoor
