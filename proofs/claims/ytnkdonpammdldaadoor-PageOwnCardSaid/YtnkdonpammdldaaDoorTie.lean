/-
  DERIVED. GIVEN WITH THE SEED: THE PROGRAM's TIES (one call each: nine closed facts by the kernel) AND EACH ROW's TIE, after the 31st guide's Derived/Test/Toyas{Tie, Card}.lean. No idea stands in it: it is a product of the set-up. Laid BY PROGRAM, IN A SANDBOX (cutbox-door.mjs). By AI agents, Wed Nov 11 2026. No macro, syntax, notation, axiom, sorry.
-/
import Derived.Test.YtnkdonpammdldaaDoorRows
import Derived.LaidByTextLater
import Derived.SevenTiedAt
import Derived.LaidSub
import Derived.LaidOnce
namespace Go.Proofs.YtnkdonpammdldaaDoor
open Go
set_option maxRecDepth 100000
theorem seatTie1 : Tryd.prog.laidByTextLater [("quota/field.nibbles", Rows.laid_quota_field_nibbles), ("quota/page.headSizes", Rows.laid_quota_page_headSizes), ("quota/page.counterSizes", Rows.laid_quota_page_counterSizes), ("quota/page.groupSizes", Rows.laid_quota_page_groupSizes), ("quota/quotalaw07.markCounter", Rows.laid_quota_quotalaw07_markCounter), ("quota/quotalaw07.markGroup", Rows.laid_quota_quotalaw07_markGroup)] [.data, .widerDeep, .widerDeep, .widerDeep, .data, .data] true :=
  Program.laidByTextLater_by_one 39 8 17 (by kernel_rfl) (by kernel_rfl) (by kernel_rfl) (by kernel_rfl) (by kernel_rfl) (by kernel_rfl) (fun _ _ => by kernel_rfl)
theorem noOwnUnsafe : Tryd.pinned.checked.prog.headLifts.contains "ownunsafe" = false := by kernel_rfl
theorem tie : Tryd.prog.laidByTextLater [("quota/field.nibbles", Rows.laid_quota_field_nibbles), ("quota/page.headSizes", Rows.laid_quota_page_headSizes), ("quota/page.counterSizes", Rows.laid_quota_page_counterSizes), ("quota/page.groupSizes", Rows.laid_quota_page_groupSizes), ("quota/quotalaw07.markCounter", Rows.laid_quota_quotalaw07_markCounter), ("quota/quotalaw07.markGroup", Rows.laid_quota_quotalaw07_markGroup)] [.data, .widerDeep, .widerDeep, .widerDeep, .data, .data] true :=
  Program.laidByTextLater.sub seatTie1 ["quota/field.nibbles", "quota/page.headSizes", "quota/page.counterSizes", "quota/page.groupSizes", "quota/quotalaw07.markCounter", "quota/quotalaw07.markGroup"] (by kernel_rfl) (by kernel_rfl)
theorem pagePacks_row_tie : Rows.pagePacksRow.laidByTextAt .later Tryd.pinned [.data, .widerDeep, .widerDeep, .widerDeep, .data, .data] true :=
  OpenClaim.laidByTextAt_later rfl rfl tie noOwnUnsafe
theorem tie2 : Tryd.prog.laidByTextLater [("quota/field.nibbles", Rows.laid_quota_field_nibbles), ("quota/page.headSizes", Rows.laid_quota_page_headSizes), ("quota/page.counterSizes", Rows.laid_quota_page_counterSizes), ("quota/page.groupSizes", Rows.laid_quota_page_groupSizes)] [.data, .widerDeep, .widerDeep, .widerDeep] true :=
  Program.laidByTextLater.sub seatTie1 ["quota/field.nibbles", "quota/page.headSizes", "quota/page.counterSizes", "quota/page.groupSizes"] (by kernel_rfl) (by kernel_rfl)
theorem pageReads_row_tie : Rows.pageReadsRow.laidByTextAt .later Tryd.pinned [.data, .widerDeep, .widerDeep, .widerDeep] true :=
  OpenClaim.laidByTextAt_later rfl rfl tie2 noOwnUnsafe
theorem pageFaults_row_tie : Rows.pageFaultsRow.laidByTextAt .later Tryd.pinned [.data, .widerDeep, .widerDeep, .widerDeep] true :=
  OpenClaim.laidByTextAt_later rfl rfl tie2 noOwnUnsafe
theorem pageBack_row_tie : Rows.pageBackRow.laidByTextAt .later Tryd.pinned [.data, .widerDeep, .widerDeep, .widerDeep] true :=
  OpenClaim.laidByTextAt_later rfl rfl tie2 noOwnUnsafe
theorem pageOneForm_row_tie : Rows.pageOneFormRow.laidByTextAt .later Tryd.pinned [.data, .widerDeep, .widerDeep, .widerDeep] true :=
  OpenClaim.laidByTextAt_later rfl rfl tie2 noOwnUnsafe
theorem pageBits_row_tie : Rows.pageBitsRow.laidByTextAt .later Tryd.pinned [.data, .widerDeep, .widerDeep, .widerDeep] true :=
  OpenClaim.laidByTextAt_later rfl rfl tie2 noOwnUnsafe
theorem pageOwn_row_tie : Rows.pageOwnRow.laidByTextAt .later Tryd.pinned [.data, .widerDeep, .widerDeep, .widerDeep] true :=
  OpenClaim.laidByTextAt_later rfl rfl tie2 noOwnUnsafe
theorem pagePacksUpto_row_tie : Rows.pagePacksUptoRow.laidByTextAt .later Tryd.pinned [.data, .widerDeep, .widerDeep, .widerDeep, .data, .data] true :=
  OpenClaim.laidByTextAt_later rfl rfl tie noOwnUnsafe
theorem pageReadsUpto_row_tie : Rows.pageReadsUptoRow.laidByTextAt .later Tryd.pinned [.data, .widerDeep, .widerDeep, .widerDeep] true :=
  OpenClaim.laidByTextAt_later rfl rfl tie2 noOwnUnsafe
theorem pageFaultsUpto_row_tie : Rows.pageFaultsUptoRow.laidByTextAt .later Tryd.pinned [.data, .widerDeep, .widerDeep, .widerDeep] true :=
  OpenClaim.laidByTextAt_later rfl rfl tie2 noOwnUnsafe
theorem pageBackUpto_row_tie : Rows.pageBackUptoRow.laidByTextAt .later Tryd.pinned [.data, .widerDeep, .widerDeep, .widerDeep] true :=
  OpenClaim.laidByTextAt_later rfl rfl tie2 noOwnUnsafe
theorem pageOneFormUpto_row_tie : Rows.pageOneFormUptoRow.laidByTextAt .later Tryd.pinned [.data, .widerDeep, .widerDeep, .widerDeep] true :=
  OpenClaim.laidByTextAt_later rfl rfl tie2 noOwnUnsafe
theorem pageBitsUpto_row_tie : Rows.pageBitsUptoRow.laidByTextAt .later Tryd.pinned [.data, .widerDeep, .widerDeep, .widerDeep] true :=
  OpenClaim.laidByTextAt_later rfl rfl tie2 noOwnUnsafe
theorem pageOwnUpto_row_tie : Rows.pageOwnUptoRow.laidByTextAt .later Tryd.pinned [.data, .widerDeep, .widerDeep, .widerDeep] true :=
  OpenClaim.laidByTextAt_later rfl rfl tie2 noOwnUnsafe
end Go.Proofs.YtnkdonpammdldaaDoor
