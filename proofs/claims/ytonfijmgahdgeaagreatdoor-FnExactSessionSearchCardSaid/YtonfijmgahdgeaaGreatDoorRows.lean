/-
  NARROWER THAN 'FOR EVERY INPUT', by the rows' own cells (each row's printed sentence says how): FnExactSessionStore: ifaces, calm, laid · FnExactSessionSearch: loops, ifaces, calm, laid.
  DERIVED. THE GIVEN ROWS OF THIS SEAT. 2 by the template 'for every input the law returns true; each argument reads behind the call as it read before'; 0 by the template 'total and deterministic' (their statements: YtonfijmgahdgeaaGreatDoorTotals.lean).
  GIVEN WITH THE SEED: the statements are not yours to turn. If you find one false, say at which input.
  Laid BY PROGRAM, IN A SANDBOX (cutbox-rows.mjs): the forced cells as the released guide's own fill.sh prints them over the translation 491c344748b99d69… (all of the seat's roots in one cut). By AI agents, Wed Nov 11 2026. No macro, syntax, notation, axiom, sorry.
-/
import Derived.Test.YtonfijmgahdgeaaGreatDoorChecked
import GoSem.PinnedTables
import GoSem.Claim
import GoSem.ClaimJoined
import GoSem.ClaimMapViews
import Derived.JoinedTies
import Derived.KernelRfl
namespace Go.Proofs.YtonfijmgahdgeaaGreatDoor
/- THE CELL 'sum', in the pinned program and in every row, IS THE sha256 OF THE DUMP (.gsa) THAT YtonfijmgahdgeaaGreatDoorProg.lean LOADS. Nothing in Lean hashes anything: it is a label: what it is worth is what the hold of that sum in a sandbox is worth. -/
noncomputable def Tryz.pinned : Pinned := { name := "ytonfijmgahdgeaagreatdoor", sum := "491c344748b99d695e07e9d82b096743947813513abea002645555e0ea3937ee", checked := Tryz.checked }
namespace Rows
def none {H : Type} : Left H := { results := [], args := [] }

/- WHAT THE LISTED PACKAGE-LEVEL VARIABLES READ AS WHEN THE CALL BEGINS. Each datum BY PROGRAM (the guide's laid-datum.mjs) off the statement by which the dump's own 'gosem.cut.vars' lays the variable. In a bare row this is a premise. The card (YtonfijmgahdgeaaGreatDoorCards.lean) ties it to the program's text. -/
def laid_loop_example_mailhost_impl_errNone {H : Type} : DataW H := .iface "*errors.errorString" (.ptr (.agg [.lit (.string [110, 111, 32, 115, 117, 99, 104, 32, 117, 115, 101, 114, 44, 32, 109, 97, 105, 108, 98, 111, 120, 32, 111, 114, 32, 108, 101, 116, 116, 101, 114])]))
def laid_loop_example_mailhost_impl_errRights {H : Type} : DataW H := .iface "*errors.errorString" (.ptr (.agg [.lit (.string [116, 104, 101, 32, 114, 105, 103, 104, 116, 115, 32, 100, 111, 32, 110, 111, 116, 32, 115, 117, 102, 102, 105, 99, 101])]))
def laid_loop_example_mailhost_impl_errQuota {H : Type} : DataW H := .iface "*errors.errorString" (.ptr (.agg [.lit (.string [116, 111, 111, 32, 109, 97, 110, 121, 32, 98, 121, 116, 101, 115])]))
def laid_loop_example_mailhost_impl_errFull {H : Type} : DataW H := .iface "*errors.errorString" (.ptr (.agg [.lit (.string [110, 111, 32, 115, 112, 97, 99, 101])]))
def laid_unicode_utf8_acceptRanges {H : Type} : DataW H := .agg [.agg [.lit (.int .u8 128), .lit (.int .u8 191)], .agg [.lit (.int .u8 160), .lit (.int .u8 191)], .agg [.lit (.int .u8 128), .lit (.int .u8 159)], .agg [.lit (.int .u8 144), .lit (.int .u8 191)], .agg [.lit (.int .u8 128), .lit (.int .u8 143)], .agg [.lit (.int .u8 0), .lit (.int .u8 0)], .agg [.lit (.int .u8 0), .lit (.int .u8 0)], .agg [.lit (.int .u8 0), .lit (.int .u8 0)], .agg [.lit (.int .u8 0), .lit (.int .u8 0)], .agg [.lit (.int .u8 0), .lit (.int .u8 0)], .agg [.lit (.int .u8 0), .lit (.int .u8 0)], .agg [.lit (.int .u8 0), .lit (.int .u8 0)], .agg [.lit (.int .u8 0), .lit (.int .u8 0)], .agg [.lit (.int .u8 0), .lit (.int .u8 0)], .agg [.lit (.int .u8 0), .lit (.int .u8 0)], .agg [.lit (.int .u8 0), .lit (.int .u8 0)]]
def laid_loop_example_mailhost_impl_flagNames {H : Type} : DataW H := .agg [.lit (.string [83, 101, 101, 110]), .lit (.string [65, 110, 115, 119, 101, 114, 101, 100]), .lit (.string [70, 108, 97, 103, 103, 101, 100]), .lit (.string [68, 101, 108, 101, 116, 101, 100]), .lit (.string [68, 114, 97, 102, 116])]
/-- One of Go's own tables, pinned by name: the form's constant. -/
def laid_unicode_CaseRanges : DataW Unit := Go.Pinned.caseRanges
/-- One of Go's own tables, pinned by name: the form's constant. -/
def laid_unicode_utf8_first : DataW Unit := Go.Pinned.utf8First

/-- 'laws.FnExactSessionStore': WHATEVER THE INPUT: true; the input reads as it did. -/
def fnExactSessionStoreSpec : ChangeSpec := { name := "fnExactSessionStore", vars := ["loop.example/mailhost/impl.errNone", "loop.example/mailhost/impl.errRights", "loop.example/mailhost/impl.errQuota", "loop.example/mailhost/impl.errFull"], fn := fun _ => fun
  | [d1, d2, d3, d4, d5, g1, g2, g3, g4] => { results := [.lit (.bool true)], args := [d1, d2, d3, d4, d5], vars := [g1, g2, g3, g4] }
  | _ => none }
def fnExactSessionStoreRow : OpenClaim := { program := "ytonfijmgahdgeaagreatdoor", sum := "491c344748b99d695e07e9d82b096743947813513abea002645555e0ea3937ee", func := "loop.example/mailhost/laws.FnExactSessionStore", spec := "fnExactSessionStore", inPlace := ["internal/bytealg.abigen_runtime_cmpstring", "(*sync.WaitGroup).Add", "internal/race.ReleaseMerge", "internal/race.Disable", "internal/race.Enable", "internal/synctest.IsInBubble", "internal/synctest.Associate[sync.WaitGroup]", "sync.fatal", "sync/atomic.OrUint64", "sync/atomic.AddUint64", "internal/race.Read", "sync/atomic.LoadUint64", "sync/atomic.StoreUint64", "internal/synctest.Disassociate[sync.WaitGroup]", "sync.runtime_Semrelease", "(*sync.WaitGroup).Done", "(*sync.WaitGroup).Wait", "internal/race.Acquire", "internal/synctest.IsAssociated[sync.WaitGroup]", "sync/atomic.CompareAndSwapUint64", "internal/race.Write", "sync.runtime_SemacquireWaitGroup", "(*internal/sync.Mutex).Lock", "sync/atomic.CompareAndSwapInt32", "(*internal/sync.Mutex).lockSlow", "internal/sync.runtime_canSpin", "internal/sync.runtime_doSpin", "internal/sync.throw", "internal/sync.runtime_nanotime", "internal/sync.runtime_SemacquireMutex", "sync/atomic.AddInt32", "(*internal/sync.Mutex).Unlock", "(*internal/sync.Mutex).unlockSlow", "internal/sync.fatal", "internal/sync.runtime_Semrelease", "internal/reflectlite.TypeOf"], unfollowed := true, recurses := true, named := ["loop.example/mailhost/impl.errNone", "loop.example/mailhost/impl.errRights", "loop.example/mailhost/impl.errQuota", "loop.example/mailhost/impl.errFull"], ifaces := true, leaving := true, apart := false, calm := true, outside := [.timePasses], laid := [("loop.example/mailhost/impl.errNone", laid_loop_example_mailhost_impl_errNone), ("loop.example/mailhost/impl.errRights", laid_loop_example_mailhost_impl_errRights), ("loop.example/mailhost/impl.errQuota", laid_loop_example_mailhost_impl_errQuota), ("loop.example/mailhost/impl.errFull", laid_loop_example_mailhost_impl_errFull)] }
def FnExactSessionStoreSaid : Prop := fnExactSessionStoreRow.holds Tryz.pinned (OpenSpec.ofChange fnExactSessionStoreSpec)

/-- ITS FALSE NEIGHBOUR: 'it returns false'. Refute it at one input. -/
def fnExactSessionStoreWrong : ChangeSpec := { name := "fnExactSessionStore", vars := ["loop.example/mailhost/impl.errNone", "loop.example/mailhost/impl.errRights", "loop.example/mailhost/impl.errQuota", "loop.example/mailhost/impl.errFull"], fn := fun _ => fun
  | [d1, d2, d3, d4, d5, g1, g2, g3, g4] => { results := [.lit (.bool false)], args := [d1, d2, d3, d4, d5], vars := [g1, g2, g3, g4] }
  | _ => none }
def FnExactSessionStoreWrongFalsely : Prop := fnExactSessionStoreRow.holds Tryz.pinned (OpenSpec.ofChange fnExactSessionStoreWrong)

/-- 'laws.FnExactSessionSearch': WHATEVER THE INPUT: true; the input reads as it did. -/
def fnExactSessionSearchSpec : ChangeSpec := { name := "fnExactSessionSearch", vars := ["loop.example/mailhost/impl.flagNames", "loop.example/mailhost/impl.errNone", "loop.example/mailhost/impl.errRights", "loop.example/mailhost/impl.errQuota", "loop.example/mailhost/impl.errFull"], fn := fun _ => fun
  | [d1, d2, d3, g1, g2, g3, g4, g5] => { results := [.lit (.bool true)], args := [d1, d2, d3], vars := [g1, g2, g3, g4, g5] }
  | _ => none }
def fnExactSessionSearchRow : OpenClaim := { program := "ytonfijmgahdgeaagreatdoor", sum := "491c344748b99d695e07e9d82b096743947813513abea002645555e0ea3937ee", func := "loop.example/mailhost/laws.FnExactSessionSearch", spec := "fnExactSessionSearch", inPlace := ["internal/abi.NoEscape", "internal/bytealg.MakeNoZero", "internal/bytealg.IndexByteString", "internal/bytealg.IndexString", "internal/bytealg.abigen_runtime_cmpstring", "(*sync.WaitGroup).Add", "internal/race.ReleaseMerge", "internal/race.Disable", "internal/race.Enable", "internal/synctest.IsInBubble", "internal/synctest.Associate[sync.WaitGroup]", "sync.fatal", "sync/atomic.OrUint64", "sync/atomic.AddUint64", "internal/race.Read", "sync/atomic.LoadUint64", "sync/atomic.StoreUint64", "internal/synctest.Disassociate[sync.WaitGroup]", "sync.runtime_Semrelease", "(*sync.WaitGroup).Done", "(*sync.WaitGroup).Wait", "internal/race.Acquire", "internal/synctest.IsAssociated[sync.WaitGroup]", "sync/atomic.CompareAndSwapUint64", "internal/race.Write", "sync.runtime_SemacquireWaitGroup", "(*internal/sync.Mutex).Lock", "sync/atomic.CompareAndSwapInt32", "(*internal/sync.Mutex).lockSlow", "internal/sync.runtime_canSpin", "internal/sync.runtime_doSpin", "internal/sync.throw", "internal/sync.runtime_nanotime", "internal/sync.runtime_SemacquireMutex", "sync/atomic.AddInt32", "(*internal/sync.Mutex).Unlock", "(*internal/sync.Mutex).unlockSlow", "internal/sync.fatal", "internal/sync.runtime_Semrelease", "internal/reflectlite.TypeOf"], unfollowed := true, recurses := true, named := ["loop.example/mailhost/impl.flagNames", "unicode/utf8.first", "unicode/utf8.acceptRanges", "unicode.CaseRanges", "internal/bytealg.MaxLen", "loop.example/mailhost/impl.errNone", "loop.example/mailhost/impl.errRights", "loop.example/mailhost/impl.errQuota", "loop.example/mailhost/impl.errFull"], ifaces := true, loops := true, leaving := true, apart := false, calm := true, outside := [.timePasses], laid := [("unicode/utf8.acceptRanges", laid_unicode_utf8_acceptRanges), ("loop.example/mailhost/impl.errNone", laid_loop_example_mailhost_impl_errNone), ("loop.example/mailhost/impl.errRights", laid_loop_example_mailhost_impl_errRights), ("loop.example/mailhost/impl.errQuota", laid_loop_example_mailhost_impl_errQuota), ("loop.example/mailhost/impl.errFull", laid_loop_example_mailhost_impl_errFull), ("loop.example/mailhost/impl.flagNames", laid_loop_example_mailhost_impl_flagNames), ("unicode.CaseRanges", laid_unicode_CaseRanges), ("unicode/utf8.first", laid_unicode_utf8_first)] }
def FnExactSessionSearchSaid : Prop := fnExactSessionSearchRow.holds Tryz.pinned (OpenSpec.ofChange fnExactSessionSearchSpec)

/-- ITS FALSE NEIGHBOUR: 'it returns false'. Refute it at one input. -/
def fnExactSessionSearchWrong : ChangeSpec := { name := "fnExactSessionSearch", vars := ["loop.example/mailhost/impl.flagNames", "loop.example/mailhost/impl.errNone", "loop.example/mailhost/impl.errRights", "loop.example/mailhost/impl.errQuota", "loop.example/mailhost/impl.errFull"], fn := fun _ => fun
  | [d1, d2, d3, g1, g2, g3, g4, g5] => { results := [.lit (.bool false)], args := [d1, d2, d3], vars := [g1, g2, g3, g4, g5] }
  | _ => none }
def FnExactSessionSearchWrongFalsely : Prop := fnExactSessionSearchRow.holds Tryz.pinned (OpenSpec.ofChange fnExactSessionSearchWrong)

end Rows
end Go.Proofs.YtonfijmgahdgeaaGreatDoor
