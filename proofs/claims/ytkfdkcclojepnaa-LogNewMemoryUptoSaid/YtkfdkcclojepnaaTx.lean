/- The disk's Read: what lies ahead of its range over a function, by the denotation; the rest by the kit's walk. Conditions: none. -/
import Derived.Test.YtkfdkcclojepnaaTy
set_option linter.unusedVariables false
set_option linter.unusedSimpArgs false
namespace Go.Proofs.Ytkfdkcclojepnaa
open Go Go.RowKit Go.Shelf
attribute [local go_sem] Oper.semAt_some

def sq1 : Code → Code
  | .seq a _ => a
  | c => c
def sq2 : Code → Code
  | .seq _ b => b
  | c => c
noncomputable def rdA : Code := sq1 (codeOf Try.f43)
noncomputable def rdB : Code := sq1 (sq2 (codeOf Try.f43))
noncomputable def rdC : Code := sq2 (sq2 (codeOf Try.f43))
theorem rd_split : codeOf Try.f43 = .seq rdA (.seq rdB rdC) := by kernel_rfl
def A_rd : Ann := { loops := fun _ => [], joins := fun _ => none, held := fun k => match k with | 3 => true | _ => false, tail := fun _ => none }
set_option maxRecDepth 1000000 in
def W_rd (p1 : Option Addr) (n1 : Int) (w : World) (R : Ending → World → Prop) (H : Value → Value → Value → Value → World → Prop) : Prop :=
  (AlF w (.cells #[(.int .i64 n1)] T_int) fun b1 w1 => (AlF w1 (.cells #[(.slice none 0 0)] T_s_uint8) fun b2 w2 => (AlF w2 (.cells #[(.int .i64 (0 : Int))] T_api_Errno) fun b3 w3 => (NilF p1 fun d1 => (∃ (q1 : Bool), w3.cell? (Addr.add d1 6) = some (.bool q1) ∧ (cond q1 (StF w3 ⟨b2, 0, none⟩ (.slice none 0 0) fun w4 => (StF w4 ⟨b3, 0, none⟩ (.int .i64 (40 : Int)) fun w5 => (∃ (a1 : Option Addr) (l1 c1 : Nat), w5.cell? ⟨b2, 0, none⟩ = some (.slice a1 l1 c1) ∧ (∃ (n2 : Int), w5.cell? ⟨b3, 0, none⟩ = some (.int .i64 n2) ∧ (R (.returned (.tuple #[(.slice a1 l1 c1), (.int .i64 n2)])) w5))))) (HeldF w3 fun S3 => (∃ (n3 : Int), (∀ w, S3 w → w.cell? ⟨b1, 0, none⟩ = some (.int .i64 n3)) ∧ (cond (decide (n3 < (0 : Int))) (StF w3.drew ⟨b2, 0, none⟩ (.slice none 0 0) fun w6 => (StF w6 ⟨b3, 0, none⟩ (.int .i64 (41 : Int)) fun w7 => (∃ (a2 : Option Addr) (l2 c2 : Nat), w7.cell? ⟨b2, 0, none⟩ = some (.slice a2 l2 c2) ∧ (∃ (n4 : Int), w7.cell? ⟨b3, 0, none⟩ = some (.int .i64 n4) ∧ (R (.returned (.tuple #[(.slice a2 l2 c2), (.int .i64 n4)])) w7))))) (∃ (n5 : Int), (∀ w, S3 w → w.cell? ⟨b1, 0, none⟩ = some (.int .i64 n5)) ∧ (CallF Try.prog F_sectors_Device_Sectors #[(.pointer p1)] w3.drew (fun r1 w8 => ∃ (n6 : Int), r1 = (.int .i64 n6) ∧ (S3 w8 ∧ (cond (decide (n5 ≥ n6)) (StF w8 ⟨b2, 0, none⟩ (.slice none 0 0) fun w9 => (StF w9 ⟨b3, 0, none⟩ (.int .i64 (41 : Int)) fun w10 => (∃ (a3 : Option Addr) (l3 c3 : Nat), w10.cell? ⟨b2, 0, none⟩ = some (.slice a3 l3 c3) ∧ (∃ (n7 : Int), w10.cell? ⟨b3, 0, none⟩ = some (.int .i64 n7) ∧ (R (.returned (.tuple #[(.slice a3 l3 c3), (.int .i64 n7)])) w10))))) (H (.pointer p1) (.pointer (some ⟨b1, 0, none⟩)) (.pointer (some ⟨b2, 0, none⟩)) (.pointer (some ⟨b3, 0, none⟩)) w8)))) (PanF R))))))))))))
set_option maxRecDepth 1000000 in
theorem E_rd (p1 : Option Addr) (n1 : Int) (w : World) (R : Ending → World → Prop) (H : Value → Value → Value → Value → World → Prop) :
    den Try.prog A_rd rdA (fun E w => den Try.prog A_rd rdB (fun E w => H (E 0) (E 3) (E 4) (E 5) w) (fun _ _ _ => False) (retE Try.prog [.cell 4 69, .cell 5 47] R) (fun _ => PanF R) E w) (fun _ _ _ => False) (retE Try.prog [.cell 4 69, .cell 5 47] R) (fun _ => PanF R) (fun t => List.getD [(.pointer p1), (.int .i64 n1)] t undef) w = W_rd p1 n1 w R H := by kernel_rfl

set_option maxRecDepth 1000000 in
theorem rd_head {p1 : Option Addr} {n1 : Int} {w : World} {R : Ending → World → Prop} {H : Value → Value → Value → Value → World → Prop} {n : Nat} (h : W_rd p1 n1 w R H)
    (hC : ∀ (a : Act) (w' : World), a.tmps.size = 40 → a.defers = [] → H (a.tmps.getD 0 undef) (a.tmps.getD 3 undef) (a.tmps.getD 4 undef) (a.tmps.getD 5 undef) w' → rdC.wpIn Fence.wide n Try.prog (bodyPostM Fence.wide n Try.prog Try.f43 R) a w') :
    CallsIn Fence.wide n Try.prog 43 #[.pointer p1, .int .i64 n1] w R := by
  refine callsIn_of_wp_marks (c := codeOf Try.f43) Try.func43 (by kernel_rfl) trivial ?_ rfl
  rw [rd_split]
  rw [← E_rd] at h
  have hs : St 40 { tmps := #[.pointer p1, .int .i64 n1] ++ Array.replicate (Try.f43.ntmps - (#[.pointer p1, .int .i64 n1] : Array Value).size) undef, defers := [] } (fun t => List.getD [(.pointer p1), (.int .i64 n1)] t undef) [] := by
    have hn : Try.f43.ntmps = 40 := by kernel_rfl
    rw [hn]
    refine ⟨by simp, fun t => ?_, rfl⟩
    simp only [Array.getD_eq_getD_getElem?, List.getD_eq_getElem?_getD, Array.getElem?_append, List.size_toArray]
    split
    · simp
    · rename_i ht
      rw [List.getElem?_eq_none (by simpa using ht)]
      simp only [Array.getElem?_replicate]
      split <;> rfl
  have fin : ∀ (N : Env → World → Prop) (K : Act → World → Prop) (E : Env) (m : Nat) (e : Exit) (a : Act) (w' : World), (∀ a w' E', St 40 a E' [] → N E' w' → K a w') → KPost 40 m E [] N (fun _ _ _ => False) (retE Try.prog [.cell 4 69, .cell 5 47] R) (fun _ => PanF R) e a w' → Exit.then K (bodyPostM Fence.wide n Try.prog Try.f43 R) e a w' := by
    intro N K E m e a w' hK hq
    cases e with
    | normal =>
      obtain ⟨E', h1, _, h3⟩ := hq
      exact hK a w' E' h1 h3
    | ret =>
      obtain ⟨E', h1, _, h3⟩ := hq
      obtain ⟨vs, hr, hk⟩ := results_run (fn := Try.f43) (l := [.cell 4 69, .cell 5 47]) (by kernel_rfl) h1.at_ h3
      show LeavesInM Fence.wide n Try.prog Try.f43 a.tmps R a.defers .returning w'
      rw [h1.defers]
      exact ⟨_, hr, hk⟩
    | panic ch =>
      show LeavesInM Fence.wide n Try.prog Try.f43 a.tmps R a.defers (.panicking ch) w'
      obtain ⟨E', h1, _, h3⟩ := hq
      rw [h1.defers]
      exact h3
    | exit i => obtain ⟨_, _, _, h3⟩ := hq; exact h3.elim
    | goto l => exact hq.elim
    | outgrown => exact hq.elim
  refine wpIn_seq (wpIn_wide.2 (wp_mono (den_wp (by kernel_rfl) rdA _ _ _ _ _ _ _ (by kernel_rfl) (by kernel_rfl) (okM_zero _) (fun _ _ _ => rfl) hs h) fun e a w' hq => fin _ _ _ _ e a w' (fun a w' E' h1 h3 => ?_) hq))
  refine wpIn_seq (wpIn_wide.2 (wp_mono (den_wp (by kernel_rfl) rdB _ _ _ _ _ _ _ (by kernel_rfl) (by kernel_rfl) (okM_zero _) (fun _ _ _ => rfl) h1 h3) fun e a w' hq => fin _ _ _ _ e a w' (fun a w' E' h1 h3 => hC a w' h1.size h1.defers ?_) hq))
  rw [h1.at_ 0, h1.at_ 3, h1.at_ 4, h1.at_ 5]
  exact h3
end Go.Proofs.Ytkfdkcclojepnaa
