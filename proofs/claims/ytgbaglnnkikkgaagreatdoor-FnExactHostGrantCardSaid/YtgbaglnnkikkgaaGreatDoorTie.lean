/-
  DERIVED. GIVEN WITH THE SEED: THE PROGRAM's TIES (one call each: nine closed facts by the kernel) AND EACH ROW's TIE, after the 31st guide's Derived/Test/Toyas{Tie, Card}.lean. No idea stands in it: it is a product of the set-up. Laid BY PROGRAM, IN A SANDBOX (cutbox-door.mjs). By AI agents, Wed Nov 11 2026. No macro, syntax, notation, axiom, sorry.
-/
import Derived.Test.YtgbaglnnkikkgaaGreatDoorRows
import Derived.LaidByTextLater
import Derived.SevenTiedAt
import Derived.LaidSub
import Derived.LaidOnce
namespace Go.Proofs.YtgbaglnnkikkgaaGreatDoor
open Go
set_option maxRecDepth 100000
theorem seatTie1 : Tryz.prog.laidByTextLater [("loop.example/mailhost/impl.errNone", Rows.laid_loop_example_mailhost_impl_errNone), ("loop.example/mailhost/impl.errRights", Rows.laid_loop_example_mailhost_impl_errRights), ("loop.example/mailhost/impl.errQuota", Rows.laid_loop_example_mailhost_impl_errQuota), ("loop.example/mailhost/impl.errFull", Rows.laid_loop_example_mailhost_impl_errFull)] [.sentinel, .sentinel, .sentinel, .sentinel] true :=
  Program.laidByTextLater_by_one 85 8 2 (by kernel_rfl) (by kernel_rfl) (by kernel_rfl) (by kernel_rfl) (by kernel_rfl) (by kernel_rfl) (fun _ _ => by kernel_rfl)
theorem noOwnUnsafe : Tryz.pinned.checked.prog.headLifts.contains "ownunsafe" = false := by kernel_rfl
theorem tie : Tryz.prog.laidByTextLater [("loop.example/mailhost/impl.errNone", Rows.laid_loop_example_mailhost_impl_errNone), ("loop.example/mailhost/impl.errRights", Rows.laid_loop_example_mailhost_impl_errRights), ("loop.example/mailhost/impl.errQuota", Rows.laid_loop_example_mailhost_impl_errQuota), ("loop.example/mailhost/impl.errFull", Rows.laid_loop_example_mailhost_impl_errFull)] [.sentinel, .sentinel, .sentinel, .sentinel] true :=
  Program.laidByTextLater.sub seatTie1 ["loop.example/mailhost/impl.errNone", "loop.example/mailhost/impl.errRights", "loop.example/mailhost/impl.errQuota", "loop.example/mailhost/impl.errFull"] (by kernel_rfl) (by kernel_rfl)
theorem fnExactHostGrant_row_tie : Rows.fnExactHostGrantRow.laidByTextAt .later Tryz.pinned [.sentinel, .sentinel, .sentinel, .sentinel] true :=
  OpenClaim.laidByTextAt_later rfl rfl tie noOwnUnsafe
theorem fnExactHostCreate_row_tie : Rows.fnExactHostCreateRow.laidByTextAt .later Tryz.pinned [.sentinel, .sentinel, .sentinel, .sentinel] true :=
  OpenClaim.laidByTextAt_later rfl rfl tie noOwnUnsafe
theorem fnExactHostGrantUpto_row_tie : Rows.fnExactHostGrantUptoRow.laidByTextAt .later Tryz.pinned [.sentinel, .sentinel, .sentinel, .sentinel] true :=
  OpenClaim.laidByTextAt_later rfl rfl tie noOwnUnsafe
theorem fnExactHostCreateUpto_row_tie : Rows.fnExactHostCreateUptoRow.laidByTextAt .later Tryz.pinned [.sentinel, .sentinel, .sentinel, .sentinel] true :=
  OpenClaim.laidByTextAt_later rfl rfl tie noOwnUnsafe
end Go.Proofs.YtgbaglnnkikkgaaGreatDoor
