/- The statement SectorsNames: its walk. Conditions: none. -/
import Derived.Test.YtkhdmbgcbogndaaTj
set_option linter.unusedVariables false
set_option linter.unusedSimpArgs false
namespace Go.Proofs.Ytkhdmbgcbogndaa
open Go Go.RowKit Go.Shelf
attribute [local go_sem] Oper.semAt_some

set_option maxRecDepth 100000 in
theorem sectorsNames_calls (w : World) : Calls Try.prog 3 #[] w fun e w' => e = .returned (.bool true) ∧ Kp no w w' := by
  have hawake : Calls Try.prog 9 #[] w fun e w' => e = .returned (.bool true) ∧ Kp no w w' := (awake_c fun w' k => ⟨rfl, k⟩).2
  refine (callsIn_wide (n := 8)).1 ?_
  refine callsIn_of_wp_marks Try.func3 rfl trivial ?_ rfl
  simp only [Try.ntmps3, List.size_toArray, List.length_cons, List.length_nil, Nat.reduceAdd, Nat.reduceSub, Array.replicate_succ, Array.replicate_zero, List.push_toArray, List.append_toArray, List.nil_append, List.cons_append]
  gi_wp2_with (refine ⟨trivial, ?_⟩; gi_at_call 9; refine (callsIn_wide.2 hawake).mono ?_; rintro e w' ⟨rfl, hk⟩)
  refine ⟨_, ?_, rfl, hk⟩
  simp [results, Try.f3, go_sem]
theorem sectorsNames_walk {W : World} : GoC Try.prog 3 #[] W fun e w' => e = .returned (.bool true) ∧ Kp no W w' := ⟨by kernel_rfl, sectorsNames_calls W⟩
end Go.Proofs.Ytkhdmbgcbogndaa
