/- Three functions by the kit's own walk: slices.Clip, slices.Backward, the disk's Read. Conditions: none. -/
import Derived.Test.YtkfdkcclojepnaaTd
import Derived.Test.YtkfdkcclojepnaaChecked
import Derived.WalkKit
set_option linter.unusedVariables false
set_option linter.unusedSimpArgs false
namespace Go.Proofs.Ytkfdkcclojepnaa
open Go Go.RowKit

theorem clip_calls (w : World) (a : Option Addr) (l c : Nat) (h : l ≤ c) : Calls Try.prog F_slices_Clip_s_byte_byte #[.slice a l c] w fun e w' => w' = w ∧ e = .returned (.slice a l l) := by
  go_enter Try.func56, Try.ntmps56
  go_wp2
  all_goals go_ret
  all_goals trivial
end Go.Proofs.Ytkfdkcclojepnaa
