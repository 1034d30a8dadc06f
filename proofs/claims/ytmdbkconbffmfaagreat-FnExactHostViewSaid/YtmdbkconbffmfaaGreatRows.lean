/-
  No cell of these rows narrows 'for every input' (looked for: loops, veiled, ifaces, maps, wideKeys, modest, calm, conditions, laid).
  DERIVED. THE GIVEN ROWS OF THIS SEAT. 3 by the template 'for every input the law returns true; each argument reads behind the call as it read before'; 0 by the template 'total and deterministic' (their statements: YtmdbkconbffmfaaGreatTotals.lean).
  GIVEN WITH THE SEED: the statements are not yours to turn. If you find one false, say at which input.
  Laid BY PROGRAM, IN A SANDBOX (cutbox-rows.mjs): the forced cells as the released guide's own fill.sh prints them over the translation d7efd3cc1826df12… (all of the seat's roots in one cut). By AI agents, Wed Nov 11 2026. No macro, syntax, notation, axiom, sorry.
-/
import Derived.Test.YtmdbkconbffmfaaGreatChecked
import GoSem.Claim
import GoSem.ClaimJoined
import GoSem.ClaimMapViews
import Derived.JoinedTies
import Derived.KernelRfl
namespace Go.Proofs.YtmdbkconbffmfaaGreat
/- THE CELL 'sum', in the pinned program and in every row, IS THE sha256 OF THE DUMP (.gsa) THAT YtmdbkconbffmfaaGreatProg.lean LOADS. Nothing in Lean hashes anything: it is a label: what it is worth is what the hold of that sum in a sandbox is worth. -/
noncomputable def Tryz.pinned : Pinned := { name := "ytmdbkconbffmfaagreat", sum := "d7efd3cc1826df127104c29e4799d911805b2907dd44ee63da0e2ff47bc27f1c", checked := Tryz.checked }
namespace Rows
def none {H : Type} : Left H := { results := [], args := [] }

/-- 'laws.FnExactHostFolder': WHATEVER THE INPUT: true; the input reads as it did. -/
def fnExactHostFolderSpec : ChangeSpec := { name := "fnExactHostFolder", fn := fun _ => fun
  | [d1, d2, d3] => { results := [.lit (.bool true)], args := [d1, d2, d3] }
  | _ => none }
def fnExactHostFolderRow : OpenClaim := { program := "ytmdbkconbffmfaagreat", sum := "d7efd3cc1826df127104c29e4799d911805b2907dd44ee63da0e2ff47bc27f1c", func := "loop.example/mailhost/laws.FnExactHostFolder", spec := "fnExactHostFolder", inPlace := ["internal/bytealg.abigen_runtime_cmpstring", "(*sync.WaitGroup).Add", "internal/race.ReleaseMerge", "internal/race.Disable", "internal/race.Enable", "internal/synctest.IsInBubble", "internal/synctest.Associate[sync.WaitGroup]", "sync.fatal", "sync/atomic.OrUint64", "sync/atomic.AddUint64", "internal/race.Read", "sync/atomic.LoadUint64", "sync/atomic.StoreUint64", "internal/synctest.Disassociate[sync.WaitGroup]", "sync.runtime_Semrelease", "(*sync.WaitGroup).Done", "(*sync.WaitGroup).Wait", "internal/race.Acquire", "internal/synctest.IsAssociated[sync.WaitGroup]", "sync/atomic.CompareAndSwapUint64", "internal/race.Write", "sync.runtime_SemacquireWaitGroup"], unfollowed := true, recurses := true, leaving := true, apart := false }
def FnExactHostFolderSaid : Prop := fnExactHostFolderRow.holds Tryz.pinned (OpenSpec.ofChange fnExactHostFolderSpec)

/-- ITS FALSE NEIGHBOUR: 'it returns false'. Refute it at one input. -/
def fnExactHostFolderWrong : ChangeSpec := { name := "fnExactHostFolder", fn := fun _ => fun
  | [d1, d2, d3] => { results := [.lit (.bool false)], args := [d1, d2, d3] }
  | _ => none }
def FnExactHostFolderWrongFalsely : Prop := fnExactHostFolderRow.holds Tryz.pinned (OpenSpec.ofChange fnExactHostFolderWrong)

/-- 'laws.FnExactSessionList': WHATEVER THE INPUT: true; the input reads as it did. -/
def fnExactSessionListSpec : ChangeSpec := { name := "fnExactSessionList", fn := fun _ => fun
  | [d1, d2] => { results := [.lit (.bool true)], args := [d1, d2] }
  | _ => none }
def fnExactSessionListRow : OpenClaim := { program := "ytmdbkconbffmfaagreat", sum := "d7efd3cc1826df127104c29e4799d911805b2907dd44ee63da0e2ff47bc27f1c", func := "loop.example/mailhost/laws.FnExactSessionList", spec := "fnExactSessionList", inPlace := ["internal/bytealg.abigen_runtime_cmpstring", "(*sync.WaitGroup).Add", "internal/race.ReleaseMerge", "internal/race.Disable", "internal/race.Enable", "internal/synctest.IsInBubble", "internal/synctest.Associate[sync.WaitGroup]", "sync.fatal", "sync/atomic.OrUint64", "sync/atomic.AddUint64", "internal/race.Read", "sync/atomic.LoadUint64", "sync/atomic.StoreUint64", "internal/synctest.Disassociate[sync.WaitGroup]", "sync.runtime_Semrelease", "(*sync.WaitGroup).Done", "(*sync.WaitGroup).Wait", "internal/race.Acquire", "internal/synctest.IsAssociated[sync.WaitGroup]", "sync/atomic.CompareAndSwapUint64", "internal/race.Write", "sync.runtime_SemacquireWaitGroup"], unfollowed := true, recurses := true, leaving := true, apart := false }
def FnExactSessionListSaid : Prop := fnExactSessionListRow.holds Tryz.pinned (OpenSpec.ofChange fnExactSessionListSpec)

/-- ITS FALSE NEIGHBOUR: 'it returns false'. Refute it at one input. -/
def fnExactSessionListWrong : ChangeSpec := { name := "fnExactSessionList", fn := fun _ => fun
  | [d1, d2] => { results := [.lit (.bool false)], args := [d1, d2] }
  | _ => none }
def FnExactSessionListWrongFalsely : Prop := fnExactSessionListRow.holds Tryz.pinned (OpenSpec.ofChange fnExactSessionListWrong)

/-- 'laws.FnExactHostView': WHATEVER THE INPUT: true; the input reads as it did. -/
def fnExactHostViewSpec : ChangeSpec := { name := "fnExactHostView", fn := fun _ => fun
  | [d1, d2] => { results := [.lit (.bool true)], args := [d1, d2] }
  | _ => none }
def fnExactHostViewRow : OpenClaim := { program := "ytmdbkconbffmfaagreat", sum := "d7efd3cc1826df127104c29e4799d911805b2907dd44ee63da0e2ff47bc27f1c", func := "loop.example/mailhost/laws.FnExactHostView", spec := "fnExactHostView", inPlace := ["internal/bytealg.abigen_runtime_cmpstring", "(*sync.WaitGroup).Add", "internal/race.ReleaseMerge", "internal/race.Disable", "internal/race.Enable", "internal/synctest.IsInBubble", "internal/synctest.Associate[sync.WaitGroup]", "sync.fatal", "sync/atomic.OrUint64", "sync/atomic.AddUint64", "internal/race.Read", "sync/atomic.LoadUint64", "sync/atomic.StoreUint64", "internal/synctest.Disassociate[sync.WaitGroup]", "sync.runtime_Semrelease", "(*sync.WaitGroup).Done", "(*sync.WaitGroup).Wait", "internal/race.Acquire", "internal/synctest.IsAssociated[sync.WaitGroup]", "sync/atomic.CompareAndSwapUint64", "internal/race.Write", "sync.runtime_SemacquireWaitGroup"], unfollowed := true, recurses := true, leaving := true, apart := false }
def FnExactHostViewSaid : Prop := fnExactHostViewRow.holds Tryz.pinned (OpenSpec.ofChange fnExactHostViewSpec)

/-- ITS FALSE NEIGHBOUR: 'it returns false'. Refute it at one input. -/
def fnExactHostViewWrong : ChangeSpec := { name := "fnExactHostView", fn := fun _ => fun
  | [d1, d2] => { results := [.lit (.bool false)], args := [d1, d2] }
  | _ => none }
def FnExactHostViewWrongFalsely : Prop := fnExactHostViewRow.holds Tryz.pinned (OpenSpec.ofChange fnExactHostViewWrong)

/- THE SECOND FORM. 'bulk': how many values and letters a reading holds, each counted each time it is reached (what is shared counts as often as it is met; a slice's spare places count too). A statement '..UptoSaid' is the law's where the arguments, and the package variables that the reading takes, are together of bulk at most 1048576: NARROWER than '..Said'. Prove '..Said' where nothing that the law and all that it calls make is longer than what came in: it says more and counts as full. Else prove '..UptoSaid'. A law counts once. -/
mutual
def uptoBulk {H : Type} : DataW H → Nat
  | .lit (.string bytes) => bytes.length + 1
  | .lit _ => 1
  | .nil => 1
  | .ptr d => uptoBulk d + 1
  | .slice elems spare => uptoBulkAll elems + uptoBulkAll spare + 1
  | .agg parts => uptoBulkAll parts + 1
  | .iface _ d => uptoBulk d + 1
  | .map entries => uptoBulkEntries entries + 1
  | .held _ => 1
def uptoBulkAll {H : Type} : List (DataW H) → Nat
  | [] => 0
  | d :: r => uptoBulk d + uptoBulkAll r
def uptoBulkEntries {H : Type} : List (Lit × DataW H) → Nat
  | [] => 0
  | x :: r => uptoBulkEntry x + uptoBulkEntries r
def uptoBulkEntry {H : Type} : Lit × DataW H → Nat
  | (.string bytes, d) => bytes.length + uptoBulk d + 1
  | (_, d) => uptoBulk d + 1
 end
def uptoSmall : (H : Type) → List (DataW H) → Bool := fun _ ds => decide (uptoBulkAll ds ≤ 1048576)
def OpenSpec.upto (s : _root_.Go.ChangeSpec) : _root_.Go.OpenSpec := { _root_.Go.OpenSpec.ofChange s with cond := some uptoSmall }

/-- 'laws.FnExactHostFolder', WHERE WHAT IT READS IS OF BULK AT MOST 1048576: true; the input reads as it did. -/
def fnExactHostFolderUptoRow : OpenClaim := { program := "ytmdbkconbffmfaagreat", sum := "d7efd3cc1826df127104c29e4799d911805b2907dd44ee63da0e2ff47bc27f1c", func := "loop.example/mailhost/laws.FnExactHostFolder", spec := "fnExactHostFolder", inPlace := ["internal/bytealg.abigen_runtime_cmpstring", "(*sync.WaitGroup).Add", "internal/race.ReleaseMerge", "internal/race.Disable", "internal/race.Enable", "internal/synctest.IsInBubble", "internal/synctest.Associate[sync.WaitGroup]", "sync.fatal", "sync/atomic.OrUint64", "sync/atomic.AddUint64", "internal/race.Read", "sync/atomic.LoadUint64", "sync/atomic.StoreUint64", "internal/synctest.Disassociate[sync.WaitGroup]", "sync.runtime_Semrelease", "(*sync.WaitGroup).Done", "(*sync.WaitGroup).Wait", "internal/race.Acquire", "internal/synctest.IsAssociated[sync.WaitGroup]", "sync/atomic.CompareAndSwapUint64", "internal/race.Write", "sync.runtime_SemacquireWaitGroup"], unfollowed := true, recurses := true, leaving := true, apart := false, narrowed := true }
def FnExactHostFolderUptoSaid : Prop := fnExactHostFolderUptoRow.holds Tryz.pinned (OpenSpec.upto fnExactHostFolderSpec)

/-- 'laws.FnExactSessionList', WHERE WHAT IT READS IS OF BULK AT MOST 1048576: true; the input reads as it did. -/
def fnExactSessionListUptoRow : OpenClaim := { program := "ytmdbkconbffmfaagreat", sum := "d7efd3cc1826df127104c29e4799d911805b2907dd44ee63da0e2ff47bc27f1c", func := "loop.example/mailhost/laws.FnExactSessionList", spec := "fnExactSessionList", inPlace := ["internal/bytealg.abigen_runtime_cmpstring", "(*sync.WaitGroup).Add", "internal/race.ReleaseMerge", "internal/race.Disable", "internal/race.Enable", "internal/synctest.IsInBubble", "internal/synctest.Associate[sync.WaitGroup]", "sync.fatal", "sync/atomic.OrUint64", "sync/atomic.AddUint64", "internal/race.Read", "sync/atomic.LoadUint64", "sync/atomic.StoreUint64", "internal/synctest.Disassociate[sync.WaitGroup]", "sync.runtime_Semrelease", "(*sync.WaitGroup).Done", "(*sync.WaitGroup).Wait", "internal/race.Acquire", "internal/synctest.IsAssociated[sync.WaitGroup]", "sync/atomic.CompareAndSwapUint64", "internal/race.Write", "sync.runtime_SemacquireWaitGroup"], unfollowed := true, recurses := true, leaving := true, apart := false, narrowed := true }
def FnExactSessionListUptoSaid : Prop := fnExactSessionListUptoRow.holds Tryz.pinned (OpenSpec.upto fnExactSessionListSpec)

/-- 'laws.FnExactHostView', WHERE WHAT IT READS IS OF BULK AT MOST 1048576: true; the input reads as it did. -/
def fnExactHostViewUptoRow : OpenClaim := { program := "ytmdbkconbffmfaagreat", sum := "d7efd3cc1826df127104c29e4799d911805b2907dd44ee63da0e2ff47bc27f1c", func := "loop.example/mailhost/laws.FnExactHostView", spec := "fnExactHostView", inPlace := ["internal/bytealg.abigen_runtime_cmpstring", "(*sync.WaitGroup).Add", "internal/race.ReleaseMerge", "internal/race.Disable", "internal/race.Enable", "internal/synctest.IsInBubble", "internal/synctest.Associate[sync.WaitGroup]", "sync.fatal", "sync/atomic.OrUint64", "sync/atomic.AddUint64", "internal/race.Read", "sync/atomic.LoadUint64", "sync/atomic.StoreUint64", "internal/synctest.Disassociate[sync.WaitGroup]", "sync.runtime_Semrelease", "(*sync.WaitGroup).Done", "(*sync.WaitGroup).Wait", "internal/race.Acquire", "internal/synctest.IsAssociated[sync.WaitGroup]", "sync/atomic.CompareAndSwapUint64", "internal/race.Write", "sync.runtime_SemacquireWaitGroup"], unfollowed := true, recurses := true, leaving := true, apart := false, narrowed := true }
def FnExactHostViewUptoSaid : Prop := fnExactHostViewUptoRow.holds Tryz.pinned (OpenSpec.upto fnExactHostViewSpec)

end Rows
end Go.Proofs.YtmdbkconbffmfaaGreat
