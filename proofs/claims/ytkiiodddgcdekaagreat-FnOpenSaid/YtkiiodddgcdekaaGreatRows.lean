/-
  No cell of these rows narrows 'for every input' (looked for: loops, veiled, ifaces, maps, wideKeys, modest, calm, conditions, laid).
  DERIVED. THE GIVEN ROWS OF THIS SEAT. 7 by the template 'for every input the law returns true; each argument reads behind the call as it read before'; 0 by the template 'total and deterministic' (their statements: YtkiiodddgcdekaaGreatTotals.lean).
  GIVEN WITH THE SEED: the statements are not yours to turn. If you find one false, say at which input.
  Laid BY PROGRAM, IN A SANDBOX (cutbox-rows.mjs): the forced cells as the released guide's own fill.sh prints them over the translation 13c9fd096cff70db… (all of the seat's roots in one cut). By AI agents, Wed Nov 11 2026. No macro, syntax, notation, axiom, sorry.
-/
import Derived.Test.YtkiiodddgcdekaaGreatChecked
import GoSem.Claim
import GoSem.ClaimJoined
import GoSem.ClaimMapViews
import Derived.JoinedTies
import Derived.KernelRfl
namespace Go.Proofs.YtkiiodddgcdekaaGreat
/- THE CELL 'sum', in the pinned program and in every row, IS THE sha256 OF THE DUMP (.gsa) THAT YtkiiodddgcdekaaGreatProg.lean LOADS. Nothing in Lean hashes anything: it is a label: what it is worth is what the hold of that sum in a sandbox is worth. -/
noncomputable def Tryz.pinned : Pinned := { name := "ytkiiodddgcdekaagreat", sum := "13c9fd096cff70db6e2d61368d8e673b5f01a87c27826020dbdf3d49dd07b851", checked := Tryz.checked }
namespace Rows
def none {H : Type} : Left H := { results := [], args := [] }

/-- 'laws.FnUsed': WHATEVER THE INPUT: true; the input reads as it did. -/
def fnUsedSpec : ChangeSpec := { name := "fnUsed", fn := fun _ => fun
  | [d] => { results := [.lit (.bool true)], args := [d] }
  | _ => none }
def fnUsedRow : OpenClaim := { program := "ytkiiodddgcdekaagreat", sum := "13c9fd096cff70db6e2d61368d8e673b5f01a87c27826020dbdf3d49dd07b851", func := "loop.example/mailhost/laws.FnUsed", spec := "fnUsed", inPlace := ["internal/bytealg.abigen_runtime_cmpstring", "(*sync.WaitGroup).Add", "internal/race.ReleaseMerge", "internal/race.Disable", "internal/race.Enable", "internal/synctest.IsInBubble", "internal/synctest.Associate[sync.WaitGroup]", "sync.fatal", "sync/atomic.OrUint64", "sync/atomic.AddUint64", "internal/race.Read", "sync/atomic.LoadUint64", "sync/atomic.StoreUint64", "internal/synctest.Disassociate[sync.WaitGroup]", "sync.runtime_Semrelease", "(*sync.WaitGroup).Done", "(*sync.WaitGroup).Wait", "internal/race.Acquire", "internal/synctest.IsAssociated[sync.WaitGroup]", "sync/atomic.CompareAndSwapUint64", "internal/race.Write", "sync.runtime_SemacquireWaitGroup"], unfollowed := true, recurses := true, leaving := true, apart := false }
def FnUsedSaid : Prop := fnUsedRow.holds Tryz.pinned (OpenSpec.ofChange fnUsedSpec)

/-- ITS FALSE NEIGHBOUR: 'it returns false'. Refute it at one input. -/
def fnUsedWrong : ChangeSpec := { name := "fnUsed", fn := fun _ => fun
  | [d] => { results := [.lit (.bool false)], args := [d] }
  | _ => none }
def FnUsedWrongFalsely : Prop := fnUsedRow.holds Tryz.pinned (OpenSpec.ofChange fnUsedWrong)

/-- 'laws.FnHostPart': WHATEVER THE INPUT: true; the input reads as it did. -/
def fnHostPartSpec : ChangeSpec := { name := "fnHostPart", fn := fun _ => fun
  | [d1, d2] => { results := [.lit (.bool true)], args := [d1, d2] }
  | _ => none }
def fnHostPartRow : OpenClaim := { program := "ytkiiodddgcdekaagreat", sum := "13c9fd096cff70db6e2d61368d8e673b5f01a87c27826020dbdf3d49dd07b851", func := "loop.example/mailhost/laws.FnHostPart", spec := "fnHostPart", inPlace := ["internal/bytealg.abigen_runtime_cmpstring", "(*sync.WaitGroup).Add", "internal/race.ReleaseMerge", "internal/race.Disable", "internal/race.Enable", "internal/synctest.IsInBubble", "internal/synctest.Associate[sync.WaitGroup]", "sync.fatal", "sync/atomic.OrUint64", "sync/atomic.AddUint64", "internal/race.Read", "sync/atomic.LoadUint64", "sync/atomic.StoreUint64", "internal/synctest.Disassociate[sync.WaitGroup]", "sync.runtime_Semrelease", "(*sync.WaitGroup).Done", "(*sync.WaitGroup).Wait", "internal/race.Acquire", "internal/synctest.IsAssociated[sync.WaitGroup]", "sync/atomic.CompareAndSwapUint64", "internal/race.Write", "sync.runtime_SemacquireWaitGroup"], unfollowed := true, recurses := true, leaving := true, apart := false }
def FnHostPartSaid : Prop := fnHostPartRow.holds Tryz.pinned (OpenSpec.ofChange fnHostPartSpec)

/-- ITS FALSE NEIGHBOUR: 'it returns false'. Refute it at one input. -/
def fnHostPartWrong : ChangeSpec := { name := "fnHostPart", fn := fun _ => fun
  | [d1, d2] => { results := [.lit (.bool false)], args := [d1, d2] }
  | _ => none }
def FnHostPartWrongFalsely : Prop := fnHostPartRow.holds Tryz.pinned (OpenSpec.ofChange fnHostPartWrong)

/-- 'laws.FnHostQuota': WHATEVER THE INPUT: true; the input reads as it did. -/
def fnHostQuotaSpec : ChangeSpec := { name := "fnHostQuota", fn := fun _ => fun
  | [d1, d2] => { results := [.lit (.bool true)], args := [d1, d2] }
  | _ => none }
def fnHostQuotaRow : OpenClaim := { program := "ytkiiodddgcdekaagreat", sum := "13c9fd096cff70db6e2d61368d8e673b5f01a87c27826020dbdf3d49dd07b851", func := "loop.example/mailhost/laws.FnHostQuota", spec := "fnHostQuota", inPlace := ["internal/bytealg.abigen_runtime_cmpstring", "(*sync.WaitGroup).Add", "internal/race.ReleaseMerge", "internal/race.Disable", "internal/race.Enable", "internal/synctest.IsInBubble", "internal/synctest.Associate[sync.WaitGroup]", "sync.fatal", "sync/atomic.OrUint64", "sync/atomic.AddUint64", "internal/race.Read", "sync/atomic.LoadUint64", "sync/atomic.StoreUint64", "internal/synctest.Disassociate[sync.WaitGroup]", "sync.runtime_Semrelease", "(*sync.WaitGroup).Done", "(*sync.WaitGroup).Wait", "internal/race.Acquire", "internal/synctest.IsAssociated[sync.WaitGroup]", "sync/atomic.CompareAndSwapUint64", "internal/race.Write", "sync.runtime_SemacquireWaitGroup"], unfollowed := true, recurses := true, leaving := true, apart := false }
def FnHostQuotaSaid : Prop := fnHostQuotaRow.holds Tryz.pinned (OpenSpec.ofChange fnHostQuotaSpec)

/-- ITS FALSE NEIGHBOUR: 'it returns false'. Refute it at one input. -/
def fnHostQuotaWrong : ChangeSpec := { name := "fnHostQuota", fn := fun _ => fun
  | [d1, d2] => { results := [.lit (.bool false)], args := [d1, d2] }
  | _ => none }
def FnHostQuotaWrongFalsely : Prop := fnHostQuotaRow.holds Tryz.pinned (OpenSpec.ofChange fnHostQuotaWrong)

/-- 'laws.FnFolderAll': WHATEVER THE INPUT: true; the input reads as it did. -/
def fnFolderAllSpec : ChangeSpec := { name := "fnFolderAll", fn := fun _ => fun
  | [d] => { results := [.lit (.bool true)], args := [d] }
  | _ => none }
def fnFolderAllRow : OpenClaim := { program := "ytkiiodddgcdekaagreat", sum := "13c9fd096cff70db6e2d61368d8e673b5f01a87c27826020dbdf3d49dd07b851", func := "loop.example/mailhost/laws.FnFolderAll", spec := "fnFolderAll", inPlace := ["internal/bytealg.abigen_runtime_cmpstring", "(*sync.WaitGroup).Add", "internal/race.ReleaseMerge", "internal/race.Disable", "internal/race.Enable", "internal/synctest.IsInBubble", "internal/synctest.Associate[sync.WaitGroup]", "sync.fatal", "sync/atomic.OrUint64", "sync/atomic.AddUint64", "internal/race.Read", "sync/atomic.LoadUint64", "sync/atomic.StoreUint64", "internal/synctest.Disassociate[sync.WaitGroup]", "sync.runtime_Semrelease", "(*sync.WaitGroup).Done", "(*sync.WaitGroup).Wait", "internal/race.Acquire", "internal/synctest.IsAssociated[sync.WaitGroup]", "sync/atomic.CompareAndSwapUint64", "internal/race.Write", "sync.runtime_SemacquireWaitGroup"], unfollowed := true, recurses := true, leaving := true, apart := false }
def FnFolderAllSaid : Prop := fnFolderAllRow.holds Tryz.pinned (OpenSpec.ofChange fnFolderAllSpec)

/-- ITS FALSE NEIGHBOUR: 'it returns false'. Refute it at one input. -/
def fnFolderAllWrong : ChangeSpec := { name := "fnFolderAll", fn := fun _ => fun
  | [d] => { results := [.lit (.bool false)], args := [d] }
  | _ => none }
def FnFolderAllWrongFalsely : Prop := fnFolderAllRow.holds Tryz.pinned (OpenSpec.ofChange fnFolderAllWrong)

/-- 'laws.FnFolder': WHATEVER THE INPUT: true; the input reads as it did. -/
def fnFolderSpec : ChangeSpec := { name := "fnFolder", fn := fun _ => fun
  | [d] => { results := [.lit (.bool true)], args := [d] }
  | _ => none }
def fnFolderRow : OpenClaim := { program := "ytkiiodddgcdekaagreat", sum := "13c9fd096cff70db6e2d61368d8e673b5f01a87c27826020dbdf3d49dd07b851", func := "loop.example/mailhost/laws.FnFolder", spec := "fnFolder", inPlace := ["internal/bytealg.abigen_runtime_cmpstring", "(*sync.WaitGroup).Add", "internal/race.ReleaseMerge", "internal/race.Disable", "internal/race.Enable", "internal/synctest.IsInBubble", "internal/synctest.Associate[sync.WaitGroup]", "sync.fatal", "sync/atomic.OrUint64", "sync/atomic.AddUint64", "internal/race.Read", "sync/atomic.LoadUint64", "sync/atomic.StoreUint64", "internal/synctest.Disassociate[sync.WaitGroup]", "sync.runtime_Semrelease", "(*sync.WaitGroup).Done", "(*sync.WaitGroup).Wait", "internal/race.Acquire", "internal/synctest.IsAssociated[sync.WaitGroup]", "sync/atomic.CompareAndSwapUint64", "internal/race.Write", "sync.runtime_SemacquireWaitGroup"], unfollowed := true, recurses := true, leaving := true, apart := false }
def FnFolderSaid : Prop := fnFolderRow.holds Tryz.pinned (OpenSpec.ofChange fnFolderSpec)

/-- ITS FALSE NEIGHBOUR: 'it returns false'. Refute it at one input. -/
def fnFolderWrong : ChangeSpec := { name := "fnFolder", fn := fun _ => fun
  | [d] => { results := [.lit (.bool false)], args := [d] }
  | _ => none }
def FnFolderWrongFalsely : Prop := fnFolderRow.holds Tryz.pinned (OpenSpec.ofChange fnFolderWrong)

/-- 'laws.FnOpen': WHATEVER THE INPUT: true; the input reads as it did. -/
def fnOpenSpec : ChangeSpec := { name := "fnOpen", fn := fun _ => fun
  | [d] => { results := [.lit (.bool true)], args := [d] }
  | _ => none }
def fnOpenRow : OpenClaim := { program := "ytkiiodddgcdekaagreat", sum := "13c9fd096cff70db6e2d61368d8e673b5f01a87c27826020dbdf3d49dd07b851", func := "loop.example/mailhost/laws.FnOpen", spec := "fnOpen", inPlace := ["internal/bytealg.abigen_runtime_cmpstring", "(*sync.WaitGroup).Add", "internal/race.ReleaseMerge", "internal/race.Disable", "internal/race.Enable", "internal/synctest.IsInBubble", "internal/synctest.Associate[sync.WaitGroup]", "sync.fatal", "sync/atomic.OrUint64", "sync/atomic.AddUint64", "internal/race.Read", "sync/atomic.LoadUint64", "sync/atomic.StoreUint64", "internal/synctest.Disassociate[sync.WaitGroup]", "sync.runtime_Semrelease", "(*sync.WaitGroup).Done", "(*sync.WaitGroup).Wait", "internal/race.Acquire", "internal/synctest.IsAssociated[sync.WaitGroup]", "sync/atomic.CompareAndSwapUint64", "internal/race.Write", "sync.runtime_SemacquireWaitGroup"], unfollowed := true, recurses := true, leaving := true, apart := false }
def FnOpenSaid : Prop := fnOpenRow.holds Tryz.pinned (OpenSpec.ofChange fnOpenSpec)

/-- ITS FALSE NEIGHBOUR: 'it returns false'. Refute it at one input. -/
def fnOpenWrong : ChangeSpec := { name := "fnOpen", fn := fun _ => fun
  | [d] => { results := [.lit (.bool false)], args := [d] }
  | _ => none }
def FnOpenWrongFalsely : Prop := fnOpenRow.holds Tryz.pinned (OpenSpec.ofChange fnOpenWrong)

/-- 'laws.FnOpenProve': WHATEVER THE INPUT: true; the input reads as it did. -/
def fnOpenProveSpec : ChangeSpec := { name := "fnOpenProve", fn := fun _ => fun
  | [d] => { results := [.lit (.bool true)], args := [d] }
  | _ => none }
def fnOpenProveRow : OpenClaim := { program := "ytkiiodddgcdekaagreat", sum := "13c9fd096cff70db6e2d61368d8e673b5f01a87c27826020dbdf3d49dd07b851", func := "loop.example/mailhost/laws.FnOpenProve", spec := "fnOpenProve", inPlace := ["internal/bytealg.abigen_runtime_cmpstring", "(*sync.WaitGroup).Add", "internal/race.ReleaseMerge", "internal/race.Disable", "internal/race.Enable", "internal/synctest.IsInBubble", "internal/synctest.Associate[sync.WaitGroup]", "sync.fatal", "sync/atomic.OrUint64", "sync/atomic.AddUint64", "internal/race.Read", "sync/atomic.LoadUint64", "sync/atomic.StoreUint64", "internal/synctest.Disassociate[sync.WaitGroup]", "sync.runtime_Semrelease", "(*sync.WaitGroup).Done", "(*sync.WaitGroup).Wait", "internal/race.Acquire", "internal/synctest.IsAssociated[sync.WaitGroup]", "sync/atomic.CompareAndSwapUint64", "internal/race.Write", "sync.runtime_SemacquireWaitGroup"], unfollowed := true, recurses := true, leaving := true, apart := false }
def FnOpenProveSaid : Prop := fnOpenProveRow.holds Tryz.pinned (OpenSpec.ofChange fnOpenProveSpec)

/-- ITS FALSE NEIGHBOUR: 'it returns false'. Refute it at one input. -/
def fnOpenProveWrong : ChangeSpec := { name := "fnOpenProve", fn := fun _ => fun
  | [d] => { results := [.lit (.bool false)], args := [d] }
  | _ => none }
def FnOpenProveWrongFalsely : Prop := fnOpenProveRow.holds Tryz.pinned (OpenSpec.ofChange fnOpenProveWrong)

/- THE SECOND FORM. 'bulk': how many values and letters a reading holds, each counted each time it is reached (what is shared counts as often as it is met; a slice's spare places count too). A statement '..UptoSaid' is the law's where the arguments, and the package variables that the reading takes, are together of bulk at most 1048576: NARROWER than '..Said'. Prove '..Said' where nothing that the law and all that it calls make is longer than what came in: it says more and counts as full. Else prove '..UptoSaid'. A law counts once. -/
mutual
def uptoBulk {H : Type} : DataW H → Nat
  | .lit (.string bytes) => bytes.length + 1
  | .lit _ => 1
  | .nil => 1
  | .ptr d => uptoBulk d + 1
  | .slice elems spare => uptoBulkAll elems + uptoBulkAll spare + 1
  | .agg parts => uptoBulkAll parts + 1
  | .iface _ d => uptoBulk d + 1
  | .map entries => uptoBulkEntries entries + 1
  | .held _ => 1
def uptoBulkAll {H : Type} : List (DataW H) → Nat
  | [] => 0
  | d :: r => uptoBulk d + uptoBulkAll r
def uptoBulkEntries {H : Type} : List (Lit × DataW H) → Nat
  | [] => 0
  | x :: r => uptoBulkEntry x + uptoBulkEntries r
def uptoBulkEntry {H : Type} : Lit × DataW H → Nat
  | (.string bytes, d) => bytes.length + uptoBulk d + 1
  | (_, d) => uptoBulk d + 1
 end
def uptoSmall : (H : Type) → List (DataW H) → Bool := fun _ ds => decide (uptoBulkAll ds ≤ 1048576)
def OpenSpec.upto (s : _root_.Go.ChangeSpec) : _root_.Go.OpenSpec := { _root_.Go.OpenSpec.ofChange s with cond := some uptoSmall }

/-- 'laws.FnUsed', WHERE WHAT IT READS IS OF BULK AT MOST 1048576: true; the input reads as it did. -/
def fnUsedUptoRow : OpenClaim := { program := "ytkiiodddgcdekaagreat", sum := "13c9fd096cff70db6e2d61368d8e673b5f01a87c27826020dbdf3d49dd07b851", func := "loop.example/mailhost/laws.FnUsed", spec := "fnUsed", inPlace := ["internal/bytealg.abigen_runtime_cmpstring", "(*sync.WaitGroup).Add", "internal/race.ReleaseMerge", "internal/race.Disable", "internal/race.Enable", "internal/synctest.IsInBubble", "internal/synctest.Associate[sync.WaitGroup]", "sync.fatal", "sync/atomic.OrUint64", "sync/atomic.AddUint64", "internal/race.Read", "sync/atomic.LoadUint64", "sync/atomic.StoreUint64", "internal/synctest.Disassociate[sync.WaitGroup]", "sync.runtime_Semrelease", "(*sync.WaitGroup).Done", "(*sync.WaitGroup).Wait", "internal/race.Acquire", "internal/synctest.IsAssociated[sync.WaitGroup]", "sync/atomic.CompareAndSwapUint64", "internal/race.Write", "sync.runtime_SemacquireWaitGroup"], unfollowed := true, recurses := true, leaving := true, apart := false, narrowed := true }
def FnUsedUptoSaid : Prop := fnUsedUptoRow.holds Tryz.pinned (OpenSpec.upto fnUsedSpec)

/-- 'laws.FnHostPart', WHERE WHAT IT READS IS OF BULK AT MOST 1048576: true; the input reads as it did. -/
def fnHostPartUptoRow : OpenClaim := { program := "ytkiiodddgcdekaagreat", sum := "13c9fd096cff70db6e2d61368d8e673b5f01a87c27826020dbdf3d49dd07b851", func := "loop.example/mailhost/laws.FnHostPart", spec := "fnHostPart", inPlace := ["internal/bytealg.abigen_runtime_cmpstring", "(*sync.WaitGroup).Add", "internal/race.ReleaseMerge", "internal/race.Disable", "internal/race.Enable", "internal/synctest.IsInBubble", "internal/synctest.Associate[sync.WaitGroup]", "sync.fatal", "sync/atomic.OrUint64", "sync/atomic.AddUint64", "internal/race.Read", "sync/atomic.LoadUint64", "sync/atomic.StoreUint64", "internal/synctest.Disassociate[sync.WaitGroup]", "sync.runtime_Semrelease", "(*sync.WaitGroup).Done", "(*sync.WaitGroup).Wait", "internal/race.Acquire", "internal/synctest.IsAssociated[sync.WaitGroup]", "sync/atomic.CompareAndSwapUint64", "internal/race.Write", "sync.runtime_SemacquireWaitGroup"], unfollowed := true, recurses := true, leaving := true, apart := false, narrowed := true }
def FnHostPartUptoSaid : Prop := fnHostPartUptoRow.holds Tryz.pinned (OpenSpec.upto fnHostPartSpec)

/-- 'laws.FnHostQuota', WHERE WHAT IT READS IS OF BULK AT MOST 1048576: true; the input reads as it did. -/
def fnHostQuotaUptoRow : OpenClaim := { program := "ytkiiodddgcdekaagreat", sum := "13c9fd096cff70db6e2d61368d8e673b5f01a87c27826020dbdf3d49dd07b851", func := "loop.example/mailhost/laws.FnHostQuota", spec := "fnHostQuota", inPlace := ["internal/bytealg.abigen_runtime_cmpstring", "(*sync.WaitGroup).Add", "internal/race.ReleaseMerge", "internal/race.Disable", "internal/race.Enable", "internal/synctest.IsInBubble", "internal/synctest.Associate[sync.WaitGroup]", "sync.fatal", "sync/atomic.OrUint64", "sync/atomic.AddUint64", "internal/race.Read", "sync/atomic.LoadUint64", "sync/atomic.StoreUint64", "internal/synctest.Disassociate[sync.WaitGroup]", "sync.runtime_Semrelease", "(*sync.WaitGroup).Done", "(*sync.WaitGroup).Wait", "internal/race.Acquire", "internal/synctest.IsAssociated[sync.WaitGroup]", "sync/atomic.CompareAndSwapUint64", "internal/race.Write", "sync.runtime_SemacquireWaitGroup"], unfollowed := true, recurses := true, leaving := true, apart := false, narrowed := true }
def FnHostQuotaUptoSaid : Prop := fnHostQuotaUptoRow.holds Tryz.pinned (OpenSpec.upto fnHostQuotaSpec)

/-- 'laws.FnFolderAll', WHERE WHAT IT READS IS OF BULK AT MOST 1048576: true; the input reads as it did. -/
def fnFolderAllUptoRow : OpenClaim := { program := "ytkiiodddgcdekaagreat", sum := "13c9fd096cff70db6e2d61368d8e673b5f01a87c27826020dbdf3d49dd07b851", func := "loop.example/mailhost/laws.FnFolderAll", spec := "fnFolderAll", inPlace := ["internal/bytealg.abigen_runtime_cmpstring", "(*sync.WaitGroup).Add", "internal/race.ReleaseMerge", "internal/race.Disable", "internal/race.Enable", "internal/synctest.IsInBubble", "internal/synctest.Associate[sync.WaitGroup]", "sync.fatal", "sync/atomic.OrUint64", "sync/atomic.AddUint64", "internal/race.Read", "sync/atomic.LoadUint64", "sync/atomic.StoreUint64", "internal/synctest.Disassociate[sync.WaitGroup]", "sync.runtime_Semrelease", "(*sync.WaitGroup).Done", "(*sync.WaitGroup).Wait", "internal/race.Acquire", "internal/synctest.IsAssociated[sync.WaitGroup]", "sync/atomic.CompareAndSwapUint64", "internal/race.Write", "sync.runtime_SemacquireWaitGroup"], unfollowed := true, recurses := true, leaving := true, apart := false, narrowed := true }
def FnFolderAllUptoSaid : Prop := fnFolderAllUptoRow.holds Tryz.pinned (OpenSpec.upto fnFolderAllSpec)

/-- 'laws.FnFolder', WHERE WHAT IT READS IS OF BULK AT MOST 1048576: true; the input reads as it did. -/
def fnFolderUptoRow : OpenClaim := { program := "ytkiiodddgcdekaagreat", sum := "13c9fd096cff70db6e2d61368d8e673b5f01a87c27826020dbdf3d49dd07b851", func := "loop.example/mailhost/laws.FnFolder", spec := "fnFolder", inPlace := ["internal/bytealg.abigen_runtime_cmpstring", "(*sync.WaitGroup).Add", "internal/race.ReleaseMerge", "internal/race.Disable", "internal/race.Enable", "internal/synctest.IsInBubble", "internal/synctest.Associate[sync.WaitGroup]", "sync.fatal", "sync/atomic.OrUint64", "sync/atomic.AddUint64", "internal/race.Read", "sync/atomic.LoadUint64", "sync/atomic.StoreUint64", "internal/synctest.Disassociate[sync.WaitGroup]", "sync.runtime_Semrelease", "(*sync.WaitGroup).Done", "(*sync.WaitGroup).Wait", "internal/race.Acquire", "internal/synctest.IsAssociated[sync.WaitGroup]", "sync/atomic.CompareAndSwapUint64", "internal/race.Write", "sync.runtime_SemacquireWaitGroup"], unfollowed := true, recurses := true, leaving := true, apart := false, narrowed := true }
def FnFolderUptoSaid : Prop := fnFolderUptoRow.holds Tryz.pinned (OpenSpec.upto fnFolderSpec)

/-- 'laws.FnOpen', WHERE WHAT IT READS IS OF BULK AT MOST 1048576: true; the input reads as it did. -/
def fnOpenUptoRow : OpenClaim := { program := "ytkiiodddgcdekaagreat", sum := "13c9fd096cff70db6e2d61368d8e673b5f01a87c27826020dbdf3d49dd07b851", func := "loop.example/mailhost/laws.FnOpen", spec := "fnOpen", inPlace := ["internal/bytealg.abigen_runtime_cmpstring", "(*sync.WaitGroup).Add", "internal/race.ReleaseMerge", "internal/race.Disable", "internal/race.Enable", "internal/synctest.IsInBubble", "internal/synctest.Associate[sync.WaitGroup]", "sync.fatal", "sync/atomic.OrUint64", "sync/atomic.AddUint64", "internal/race.Read", "sync/atomic.LoadUint64", "sync/atomic.StoreUint64", "internal/synctest.Disassociate[sync.WaitGroup]", "sync.runtime_Semrelease", "(*sync.WaitGroup).Done", "(*sync.WaitGroup).Wait", "internal/race.Acquire", "internal/synctest.IsAssociated[sync.WaitGroup]", "sync/atomic.CompareAndSwapUint64", "internal/race.Write", "sync.runtime_SemacquireWaitGroup"], unfollowed := true, recurses := true, leaving := true, apart := false, narrowed := true }
def FnOpenUptoSaid : Prop := fnOpenUptoRow.holds Tryz.pinned (OpenSpec.upto fnOpenSpec)

/-- 'laws.FnOpenProve', WHERE WHAT IT READS IS OF BULK AT MOST 1048576: true; the input reads as it did. -/
def fnOpenProveUptoRow : OpenClaim := { program := "ytkiiodddgcdekaagreat", sum := "13c9fd096cff70db6e2d61368d8e673b5f01a87c27826020dbdf3d49dd07b851", func := "loop.example/mailhost/laws.FnOpenProve", spec := "fnOpenProve", inPlace := ["internal/bytealg.abigen_runtime_cmpstring", "(*sync.WaitGroup).Add", "internal/race.ReleaseMerge", "internal/race.Disable", "internal/race.Enable", "internal/synctest.IsInBubble", "internal/synctest.Associate[sync.WaitGroup]", "sync.fatal", "sync/atomic.OrUint64", "sync/atomic.AddUint64", "internal/race.Read", "sync/atomic.LoadUint64", "sync/atomic.StoreUint64", "internal/synctest.Disassociate[sync.WaitGroup]", "sync.runtime_Semrelease", "(*sync.WaitGroup).Done", "(*sync.WaitGroup).Wait", "internal/race.Acquire", "internal/synctest.IsAssociated[sync.WaitGroup]", "sync/atomic.CompareAndSwapUint64", "internal/race.Write", "sync.runtime_SemacquireWaitGroup"], unfollowed := true, recurses := true, leaving := true, apart := false, narrowed := true }
def FnOpenProveUptoSaid : Prop := fnOpenProveUptoRow.holds Tryz.pinned (OpenSpec.upto fnOpenProveSpec)

end Rows
end Go.Proofs.YtkiiodddgcdekaaGreat
