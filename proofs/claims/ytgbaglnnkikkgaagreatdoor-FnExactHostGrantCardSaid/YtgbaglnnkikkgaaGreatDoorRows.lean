/-
  NARROWER THAN 'FOR EVERY INPUT', by the rows' own cells (each row's printed sentence says how): FnExactHostGrant: ifaces, laid · FnExactHostCreate: ifaces, laid.
  DERIVED. THE GIVEN ROWS OF THIS SEAT. 2 by the template 'for every input the law returns true; each argument reads behind the call as it read before'; 0 by the template 'total and deterministic' (their statements: YtgbaglnnkikkgaaGreatDoorTotals.lean).
  GIVEN WITH THE SEED: the statements are not yours to turn. If you find one false, say at which input.
  Laid BY PROGRAM, IN A SANDBOX (cutbox-rows.mjs): the forced cells as the released guide's own fill.sh prints them over the translation de651bf07dc0a105… (all of the seat's roots in one cut). By AI agents, Wed Nov 11 2026. No macro, syntax, notation, axiom, sorry.
-/
import Derived.Test.YtgbaglnnkikkgaaGreatDoorChecked
import GoSem.Claim
import GoSem.ClaimJoined
import GoSem.ClaimMapViews
import Derived.JoinedTies
import Derived.KernelRfl
namespace Go.Proofs.YtgbaglnnkikkgaaGreatDoor
/- THE CELL 'sum', in the pinned program and in every row, IS THE sha256 OF THE DUMP (.gsa) THAT YtgbaglnnkikkgaaGreatDoorProg.lean LOADS. Nothing in Lean hashes anything: it is a label: what it is worth is what the hold of that sum in a sandbox is worth. -/
noncomputable def Tryz.pinned : Pinned := { name := "ytgbaglnnkikkgaagreatdoor", sum := "de651bf07dc0a105390a842884fd99310adcfc07cae1312806be396ff9e131dd", checked := Tryz.checked }
namespace Rows
def none {H : Type} : Left H := { results := [], args := [] }

/- WHAT THE LISTED PACKAGE-LEVEL VARIABLES READ AS WHEN THE CALL BEGINS. Each datum BY PROGRAM (the guide's laid-datum.mjs) off the statement by which the dump's own 'gosem.cut.vars' lays the variable. In a bare row this is a premise. The card (YtgbaglnnkikkgaaGreatDoorCards.lean) ties it to the program's text. -/
def laid_loop_example_mailhost_impl_errNone {H : Type} : DataW H := .iface "*errors.errorString" (.ptr (.agg [.lit (.string [110, 111, 32, 115, 117, 99, 104, 32, 117, 115, 101, 114, 44, 32, 109, 97, 105, 108, 98, 111, 120, 32, 111, 114, 32, 108, 101, 116, 116, 101, 114])]))
def laid_loop_example_mailhost_impl_errRights {H : Type} : DataW H := .iface "*errors.errorString" (.ptr (.agg [.lit (.string [116, 104, 101, 32, 114, 105, 103, 104, 116, 115, 32, 100, 111, 32, 110, 111, 116, 32, 115, 117, 102, 102, 105, 99, 101])]))
def laid_loop_example_mailhost_impl_errQuota {H : Type} : DataW H := .iface "*errors.errorString" (.ptr (.agg [.lit (.string [116, 111, 111, 32, 109, 97, 110, 121, 32, 98, 121, 116, 101, 115])]))
def laid_loop_example_mailhost_impl_errFull {H : Type} : DataW H := .iface "*errors.errorString" (.ptr (.agg [.lit (.string [110, 111, 32, 115, 112, 97, 99, 101])]))

/-- 'laws.FnExactHostGrant': WHATEVER THE INPUT: true; the input reads as it did. -/
def fnExactHostGrantSpec : ChangeSpec := { name := "fnExactHostGrant", vars := ["loop.example/mailhost/impl.errNone", "loop.example/mailhost/impl.errFull", "loop.example/mailhost/impl.errRights", "loop.example/mailhost/impl.errQuota"], fn := fun _ => fun
  | [d1, d2, d3, d4, d5, d6, g1, g2, g3, g4] => { results := [.lit (.bool true)], args := [d1, d2, d3, d4, d5, d6], vars := [g1, g2, g3, g4] }
  | _ => none }
def fnExactHostGrantRow : OpenClaim := { program := "ytgbaglnnkikkgaagreatdoor", sum := "de651bf07dc0a105390a842884fd99310adcfc07cae1312806be396ff9e131dd", func := "loop.example/mailhost/laws.FnExactHostGrant", spec := "fnExactHostGrant", inPlace := ["internal/bytealg.abigen_runtime_cmpstring", "(*sync.WaitGroup).Add", "internal/race.ReleaseMerge", "internal/race.Disable", "internal/race.Enable", "internal/synctest.IsInBubble", "internal/synctest.Associate[sync.WaitGroup]", "sync.fatal", "sync/atomic.OrUint64", "sync/atomic.AddUint64", "internal/race.Read", "sync/atomic.LoadUint64", "sync/atomic.StoreUint64", "internal/synctest.Disassociate[sync.WaitGroup]", "sync.runtime_Semrelease", "(*sync.WaitGroup).Done", "(*sync.WaitGroup).Wait", "internal/race.Acquire", "internal/synctest.IsAssociated[sync.WaitGroup]", "sync/atomic.CompareAndSwapUint64", "internal/race.Write", "sync.runtime_SemacquireWaitGroup", "internal/reflectlite.TypeOf"], unfollowed := true, recurses := true, named := ["loop.example/mailhost/impl.errNone", "loop.example/mailhost/impl.errFull", "loop.example/mailhost/impl.errRights", "loop.example/mailhost/impl.errQuota"], ifaces := true, leaving := true, apart := false, laid := [("loop.example/mailhost/impl.errNone", laid_loop_example_mailhost_impl_errNone), ("loop.example/mailhost/impl.errRights", laid_loop_example_mailhost_impl_errRights), ("loop.example/mailhost/impl.errQuota", laid_loop_example_mailhost_impl_errQuota), ("loop.example/mailhost/impl.errFull", laid_loop_example_mailhost_impl_errFull)] }
def FnExactHostGrantSaid : Prop := fnExactHostGrantRow.holds Tryz.pinned (OpenSpec.ofChange fnExactHostGrantSpec)

/-- ITS FALSE NEIGHBOUR: 'it returns false'. Refute it at one input. -/
def fnExactHostGrantWrong : ChangeSpec := { name := "fnExactHostGrant", vars := ["loop.example/mailhost/impl.errNone", "loop.example/mailhost/impl.errFull", "loop.example/mailhost/impl.errRights", "loop.example/mailhost/impl.errQuota"], fn := fun _ => fun
  | [d1, d2, d3, d4, d5, d6, g1, g2, g3, g4] => { results := [.lit (.bool false)], args := [d1, d2, d3, d4, d5, d6], vars := [g1, g2, g3, g4] }
  | _ => none }
def FnExactHostGrantWrongFalsely : Prop := fnExactHostGrantRow.holds Tryz.pinned (OpenSpec.ofChange fnExactHostGrantWrong)

/-- 'laws.FnExactHostCreate': WHATEVER THE INPUT: true; the input reads as it did. -/
def fnExactHostCreateSpec : ChangeSpec := { name := "fnExactHostCreate", vars := ["loop.example/mailhost/impl.errNone", "loop.example/mailhost/impl.errFull", "loop.example/mailhost/impl.errRights", "loop.example/mailhost/impl.errQuota"], fn := fun _ => fun
  | [d1, d2, d3, g1, g2, g3, g4] => { results := [.lit (.bool true)], args := [d1, d2, d3], vars := [g1, g2, g3, g4] }
  | _ => none }
def fnExactHostCreateRow : OpenClaim := { program := "ytgbaglnnkikkgaagreatdoor", sum := "de651bf07dc0a105390a842884fd99310adcfc07cae1312806be396ff9e131dd", func := "loop.example/mailhost/laws.FnExactHostCreate", spec := "fnExactHostCreate", inPlace := ["internal/bytealg.abigen_runtime_cmpstring", "slices.overlaps[loop.example/mailhost/impl.Folder]", "(*sync.WaitGroup).Add", "internal/race.ReleaseMerge", "internal/race.Disable", "internal/race.Enable", "internal/synctest.IsInBubble", "internal/synctest.Associate[sync.WaitGroup]", "sync.fatal", "sync/atomic.OrUint64", "sync/atomic.AddUint64", "internal/race.Read", "sync/atomic.LoadUint64", "sync/atomic.StoreUint64", "internal/synctest.Disassociate[sync.WaitGroup]", "sync.runtime_Semrelease", "(*sync.WaitGroup).Done", "(*sync.WaitGroup).Wait", "internal/race.Acquire", "internal/synctest.IsAssociated[sync.WaitGroup]", "sync/atomic.CompareAndSwapUint64", "internal/race.Write", "sync.runtime_SemacquireWaitGroup", "internal/reflectlite.TypeOf"], unfollowed := true, recurses := true, named := ["loop.example/mailhost/impl.errNone", "loop.example/mailhost/impl.errFull", "loop.example/mailhost/impl.errRights", "loop.example/mailhost/impl.errQuota"], ifaces := true, leaving := true, apart := false, laid := [("loop.example/mailhost/impl.errNone", laid_loop_example_mailhost_impl_errNone), ("loop.example/mailhost/impl.errRights", laid_loop_example_mailhost_impl_errRights), ("loop.example/mailhost/impl.errQuota", laid_loop_example_mailhost_impl_errQuota), ("loop.example/mailhost/impl.errFull", laid_loop_example_mailhost_impl_errFull)] }
def FnExactHostCreateSaid : Prop := fnExactHostCreateRow.holds Tryz.pinned (OpenSpec.ofChange fnExactHostCreateSpec)

/-- ITS FALSE NEIGHBOUR: 'it returns false'. Refute it at one input. -/
def fnExactHostCreateWrong : ChangeSpec := { name := "fnExactHostCreate", vars := ["loop.example/mailhost/impl.errNone", "loop.example/mailhost/impl.errFull", "loop.example/mailhost/impl.errRights", "loop.example/mailhost/impl.errQuota"], fn := fun _ => fun
  | [d1, d2, d3, g1, g2, g3, g4] => { results := [.lit (.bool false)], args := [d1, d2, d3], vars := [g1, g2, g3, g4] }
  | _ => none }
def FnExactHostCreateWrongFalsely : Prop := fnExactHostCreateRow.holds Tryz.pinned (OpenSpec.ofChange fnExactHostCreateWrong)

/- THE SECOND FORM. 'bulk': how many values and letters a reading holds, each counted each time it is reached (what is shared counts as often as it is met; a slice's spare places count too). A statement '..UptoSaid' is the law's where the arguments, and the package variables that the reading takes, are together of bulk at most 1048576: NARROWER than '..Said'. Prove '..Said' where nothing that the law and all that it calls make is longer than what came in: it says more and counts as full. Else prove '..UptoSaid'. A law counts once. -/
mutual
def uptoBulk {H : Type} : DataW H → Nat
  | .lit (.string bytes) => bytes.length + 1
  | .lit _ => 1
  | .nil => 1
  | .ptr d => uptoBulk d + 1
  | .slice elems spare => uptoBulkAll elems + uptoBulkAll spare + 1
  | .agg parts => uptoBulkAll parts + 1
  | .iface _ d => uptoBulk d + 1
  | .map entries => uptoBulkEntries entries + 1
  | .held _ => 1
def uptoBulkAll {H : Type} : List (DataW H) → Nat
  | [] => 0
  | d :: r => uptoBulk d + uptoBulkAll r
def uptoBulkEntries {H : Type} : List (Lit × DataW H) → Nat
  | [] => 0
  | x :: r => uptoBulkEntry x + uptoBulkEntries r
def uptoBulkEntry {H : Type} : Lit × DataW H → Nat
  | (.string bytes, d) => bytes.length + uptoBulk d + 1
  | (_, d) => uptoBulk d + 1
 end
def uptoSmall : (H : Type) → List (DataW H) → Bool := fun _ ds => decide (uptoBulkAll ds ≤ 1048576)
def OpenSpec.upto (s : _root_.Go.ChangeSpec) : _root_.Go.OpenSpec := { _root_.Go.OpenSpec.ofChange s with cond := some uptoSmall }

/-- 'laws.FnExactHostGrant', WHERE WHAT IT READS IS OF BULK AT MOST 1048576: true; the input reads as it did. -/
def fnExactHostGrantUptoRow : OpenClaim := { program := "ytgbaglnnkikkgaagreatdoor", sum := "de651bf07dc0a105390a842884fd99310adcfc07cae1312806be396ff9e131dd", func := "loop.example/mailhost/laws.FnExactHostGrant", spec := "fnExactHostGrant", inPlace := ["internal/bytealg.abigen_runtime_cmpstring", "(*sync.WaitGroup).Add", "internal/race.ReleaseMerge", "internal/race.Disable", "internal/race.Enable", "internal/synctest.IsInBubble", "internal/synctest.Associate[sync.WaitGroup]", "sync.fatal", "sync/atomic.OrUint64", "sync/atomic.AddUint64", "internal/race.Read", "sync/atomic.LoadUint64", "sync/atomic.StoreUint64", "internal/synctest.Disassociate[sync.WaitGroup]", "sync.runtime_Semrelease", "(*sync.WaitGroup).Done", "(*sync.WaitGroup).Wait", "internal/race.Acquire", "internal/synctest.IsAssociated[sync.WaitGroup]", "sync/atomic.CompareAndSwapUint64", "internal/race.Write", "sync.runtime_SemacquireWaitGroup", "internal/reflectlite.TypeOf"], unfollowed := true, recurses := true, named := ["loop.example/mailhost/impl.errNone", "loop.example/mailhost/impl.errFull", "loop.example/mailhost/impl.errRights", "loop.example/mailhost/impl.errQuota"], ifaces := true, leaving := true, apart := false, laid := [("loop.example/mailhost/impl.errNone", laid_loop_example_mailhost_impl_errNone), ("loop.example/mailhost/impl.errRights", laid_loop_example_mailhost_impl_errRights), ("loop.example/mailhost/impl.errQuota", laid_loop_example_mailhost_impl_errQuota), ("loop.example/mailhost/impl.errFull", laid_loop_example_mailhost_impl_errFull)], narrowed := true }
def FnExactHostGrantUptoSaid : Prop := fnExactHostGrantUptoRow.holds Tryz.pinned (OpenSpec.upto fnExactHostGrantSpec)

/-- 'laws.FnExactHostCreate', WHERE WHAT IT READS IS OF BULK AT MOST 1048576: true; the input reads as it did. -/
def fnExactHostCreateUptoRow : OpenClaim := { program := "ytgbaglnnkikkgaagreatdoor", sum := "de651bf07dc0a105390a842884fd99310adcfc07cae1312806be396ff9e131dd", func := "loop.example/mailhost/laws.FnExactHostCreate", spec := "fnExactHostCreate", inPlace := ["internal/bytealg.abigen_runtime_cmpstring", "slices.overlaps[loop.example/mailhost/impl.Folder]", "(*sync.WaitGroup).Add", "internal/race.ReleaseMerge", "internal/race.Disable", "internal/race.Enable", "internal/synctest.IsInBubble", "internal/synctest.Associate[sync.WaitGroup]", "sync.fatal", "sync/atomic.OrUint64", "sync/atomic.AddUint64", "internal/race.Read", "sync/atomic.LoadUint64", "sync/atomic.StoreUint64", "internal/synctest.Disassociate[sync.WaitGroup]", "sync.runtime_Semrelease", "(*sync.WaitGroup).Done", "(*sync.WaitGroup).Wait", "internal/race.Acquire", "internal/synctest.IsAssociated[sync.WaitGroup]", "sync/atomic.CompareAndSwapUint64", "internal/race.Write", "sync.runtime_SemacquireWaitGroup", "internal/reflectlite.TypeOf"], unfollowed := true, recurses := true, named := ["loop.example/mailhost/impl.errNone", "loop.example/mailhost/impl.errFull", "loop.example/mailhost/impl.errRights", "loop.example/mailhost/impl.errQuota"], ifaces := true, leaving := true, apart := false, laid := [("loop.example/mailhost/impl.errNone", laid_loop_example_mailhost_impl_errNone), ("loop.example/mailhost/impl.errRights", laid_loop_example_mailhost_impl_errRights), ("loop.example/mailhost/impl.errQuota", laid_loop_example_mailhost_impl_errQuota), ("loop.example/mailhost/impl.errFull", laid_loop_example_mailhost_impl_errFull)], narrowed := true }
def FnExactHostCreateUptoSaid : Prop := fnExactHostCreateUptoRow.holds Tryz.pinned (OpenSpec.upto fnExactHostCreateSpec)

end Rows
end Go.Proofs.YtgbaglnnkikkgaaGreatDoor
