/-
  DERIVED. GIVEN WITH THE SEED: THE PROGRAM's TIES (one call each: nine closed facts by the kernel) AND EACH ROW's TIE, after the 31st guide's Derived/Test/Toyas{Tie, Card}.lean. No idea stands in it: it is a product of the set-up. Laid BY PROGRAM, IN A SANDBOX (cutbox-door.mjs). By AI agents, Wed Nov 11 2026. No macro, syntax, notation, axiom, sorry.
-/
import Derived.Test.YtcmnnggpeloanaaGreatDoorRows
import Derived.LaidByTextLater
import Derived.SevenTiedAt
import Derived.LaidSub
import Derived.LaidOnce
namespace Go.Proofs.YtcmnnggpeloanaaGreatDoor
open Go
set_option maxRecDepth 100000
theorem seatTie1 : Tryz.prog.laidByTextLater [("intrusion/digest.constants", Rows.laid_intrusion_digest_constants), ("bytes.ErrTooLarge", Rows.laid_bytes_ErrTooLarge), ("intrusion/inflate.order", Rows.laid_intrusion_inflate_order)] [.data, .sentinel, .widerDeep] true :=
  Program.laidByTextLater_by_one 38 8 65 (by kernel_rfl) (by kernel_rfl) (by kernel_rfl) (by kernel_rfl) (by kernel_rfl) (by kernel_rfl) (fun _ _ => by kernel_rfl)
theorem noOwnUnsafe : Tryz.pinned.checked.prog.headLifts.contains "ownunsafe" = false := by kernel_rfl
theorem tie : Tryz.prog.laidByTextLater [("bytes.ErrTooLarge", Rows.laid_bytes_ErrTooLarge), ("intrusion/inflate.order", Rows.laid_intrusion_inflate_order)] [.sentinel, .widerDeep] true :=
  Program.laidByTextLater.sub seatTie1 ["bytes.ErrTooLarge", "intrusion/inflate.order"] (by kernel_rfl) (by kernel_rfl)
theorem gzipFeeds_row_tie : Rows.gzipFeedsRow.laidByTextAt .later Tryz.pinned [.sentinel, .widerDeep] true :=
  OpenClaim.laidByTextAt_later rfl rfl tie noOwnUnsafe
theorem gzipAlls_row_tie : Rows.gzipAllsRow.laidByTextAt .later Tryz.pinned [.sentinel, .widerDeep] true :=
  OpenClaim.laidByTextAt_later rfl rfl tie noOwnUnsafe
theorem tie2 : Tryz.prog.laidByTextLater [("intrusion/digest.constants", Rows.laid_intrusion_digest_constants)] [.data] true :=
  Program.laidByTextLater.sub seatTie1 ["intrusion/digest.constants"] (by kernel_rfl) (by kernel_rfl)
theorem fileTypes_row_tie : Rows.fileTypesRow.laidByTextAt .later Tryz.pinned [.data] true :=
  OpenClaim.laidByTextAt_later rfl rfl tie2 noOwnUnsafe
theorem fileLong_row_tie : Rows.fileLongRow.laidByTextAt .later Tryz.pinned [.data] true :=
  OpenClaim.laidByTextAt_later rfl rfl tie2 noOwnUnsafe
theorem fileExtracts_row_tie : Rows.fileExtractsRow.laidByTextAt .later Tryz.pinned [.data] true :=
  OpenClaim.laidByTextAt_later rfl rfl tie2 noOwnUnsafe
theorem fileNested_row_tie : Rows.fileNestedRow.laidByTextAt .later Tryz.pinned [.data] true :=
  OpenClaim.laidByTextAt_later rfl rfl tie2 noOwnUnsafe
theorem gzipFeedsUpto_row_tie : Rows.gzipFeedsUptoRow.laidByTextAt .later Tryz.pinned [.sentinel, .widerDeep] true :=
  OpenClaim.laidByTextAt_later rfl rfl tie noOwnUnsafe
theorem gzipAllsUpto_row_tie : Rows.gzipAllsUptoRow.laidByTextAt .later Tryz.pinned [.sentinel, .widerDeep] true :=
  OpenClaim.laidByTextAt_later rfl rfl tie noOwnUnsafe
theorem fileTypesUpto_row_tie : Rows.fileTypesUptoRow.laidByTextAt .later Tryz.pinned [.data] true :=
  OpenClaim.laidByTextAt_later rfl rfl tie2 noOwnUnsafe
theorem fileLongUpto_row_tie : Rows.fileLongUptoRow.laidByTextAt .later Tryz.pinned [.data] true :=
  OpenClaim.laidByTextAt_later rfl rfl tie2 noOwnUnsafe
theorem fileExtractsUpto_row_tie : Rows.fileExtractsUptoRow.laidByTextAt .later Tryz.pinned [.data] true :=
  OpenClaim.laidByTextAt_later rfl rfl tie2 noOwnUnsafe
theorem fileNestedUpto_row_tie : Rows.fileNestedUptoRow.laidByTextAt .later Tryz.pinned [.data] true :=
  OpenClaim.laidByTextAt_later rfl rfl tie2 noOwnUnsafe
end Go.Proofs.YtcmnnggpeloanaaGreatDoor
