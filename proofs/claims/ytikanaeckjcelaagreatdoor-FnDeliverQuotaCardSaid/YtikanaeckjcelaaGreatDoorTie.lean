/-
  DERIVED. GIVEN WITH THE SEED: THE PROGRAM's TIES (one call each: nine closed facts by the kernel) AND EACH ROW's TIE, after the 31st guide's Derived/Test/Toyas{Tie, Card}.lean. No idea stands in it: it is a product of the set-up. Laid BY PROGRAM, IN A SANDBOX (cutbox-door.mjs). By AI agents, Wed Nov 11 2026. No macro, syntax, notation, axiom, sorry.
-/
import Derived.Test.YtikanaeckjcelaaGreatDoorRows
import Derived.LaidByTextLater
import Derived.SevenTiedAt
import Derived.LaidSub
import Derived.LaidOnce
namespace Go.Proofs.YtikanaeckjcelaaGreatDoor
open Go
set_option maxRecDepth 100000
theorem seatTie1 : Tryz.prog.laidByTextLater [("loop.example/mailhost/impl.errNone", Rows.laid_loop_example_mailhost_impl_errNone), ("loop.example/mailhost/impl.errRights", Rows.laid_loop_example_mailhost_impl_errRights), ("loop.example/mailhost/impl.errQuota", Rows.laid_loop_example_mailhost_impl_errQuota), ("loop.example/mailhost/impl.errFull", Rows.laid_loop_example_mailhost_impl_errFull)] [.sentinel, .sentinel, .sentinel, .sentinel] true :=
  Program.laidByTextLater_by_one 85 8 2 (by kernel_rfl) (by kernel_rfl) (by kernel_rfl) (by kernel_rfl) (by kernel_rfl) (by kernel_rfl) (fun _ _ => by kernel_rfl)
theorem noOwnUnsafe : Tryz.pinned.checked.prog.headLifts.contains "ownunsafe" = false := by kernel_rfl
theorem tie : Tryz.prog.laidByTextLater [("loop.example/mailhost/impl.errNone", Rows.laid_loop_example_mailhost_impl_errNone), ("loop.example/mailhost/impl.errRights", Rows.laid_loop_example_mailhost_impl_errRights), ("loop.example/mailhost/impl.errQuota", Rows.laid_loop_example_mailhost_impl_errQuota), ("loop.example/mailhost/impl.errFull", Rows.laid_loop_example_mailhost_impl_errFull)] [.sentinel, .sentinel, .sentinel, .sentinel] true :=
  Program.laidByTextLater.sub seatTie1 ["loop.example/mailhost/impl.errNone", "loop.example/mailhost/impl.errRights", "loop.example/mailhost/impl.errQuota", "loop.example/mailhost/impl.errFull"] (by kernel_rfl) (by kernel_rfl)
theorem fnDeliver_row_tie : Rows.fnDeliverRow.laidByTextAt .later Tryz.pinned [.sentinel, .sentinel, .sentinel, .sentinel] true :=
  OpenClaim.laidByTextAt_later rfl rfl tie noOwnUnsafe
theorem fnDeliverOnce_row_tie : Rows.fnDeliverOnceRow.laidByTextAt .later Tryz.pinned [.sentinel, .sentinel, .sentinel, .sentinel] true :=
  OpenClaim.laidByTextAt_later rfl rfl tie noOwnUnsafe
theorem fnDeliverQuota_row_tie : Rows.fnDeliverQuotaRow.laidByTextAt .later Tryz.pinned [.sentinel, .sentinel, .sentinel, .sentinel] true :=
  OpenClaim.laidByTextAt_later rfl rfl tie noOwnUnsafe
theorem fnDeliverWaits_row_tie : Rows.fnDeliverWaitsRow.laidByTextAt .later Tryz.pinned [.sentinel, .sentinel, .sentinel, .sentinel] true :=
  OpenClaim.laidByTextAt_later rfl rfl tie noOwnUnsafe
theorem fnDeliverUpto_row_tie : Rows.fnDeliverUptoRow.laidByTextAt .later Tryz.pinned [.sentinel, .sentinel, .sentinel, .sentinel] true :=
  OpenClaim.laidByTextAt_later rfl rfl tie noOwnUnsafe
theorem fnDeliverOnceUpto_row_tie : Rows.fnDeliverOnceUptoRow.laidByTextAt .later Tryz.pinned [.sentinel, .sentinel, .sentinel, .sentinel] true :=
  OpenClaim.laidByTextAt_later rfl rfl tie noOwnUnsafe
theorem fnDeliverQuotaUpto_row_tie : Rows.fnDeliverQuotaUptoRow.laidByTextAt .later Tryz.pinned [.sentinel, .sentinel, .sentinel, .sentinel] true :=
  OpenClaim.laidByTextAt_later rfl rfl tie noOwnUnsafe
theorem fnDeliverWaitsUpto_row_tie : Rows.fnDeliverWaitsUptoRow.laidByTextAt .later Tryz.pinned [.sentinel, .sentinel, .sentinel, .sentinel] true :=
  OpenClaim.laidByTextAt_later rfl rfl tie noOwnUnsafe
end Go.Proofs.YtikanaeckjcelaaGreatDoor
