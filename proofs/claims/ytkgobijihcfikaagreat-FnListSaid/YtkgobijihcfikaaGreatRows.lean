/-
  No cell of these rows narrows 'for every input' (looked for: loops, veiled, ifaces, maps, wideKeys, modest, calm, conditions, laid).
  DERIVED. THE GIVEN ROWS OF THIS SEAT. 4 by the template 'for every input the law returns true; each argument reads behind the call as it read before'; 0 by the template 'total and deterministic' (their statements: YtkgobijihcfikaaGreatTotals.lean).
  GIVEN WITH THE SEED: the statements are not yours to turn. If you find one false, say at which input.
  Laid BY PROGRAM, IN A SANDBOX (cutbox-rows.mjs): the forced cells as the released guide's own fill.sh prints them over the translation 22aa46afb2931716… (all of the seat's roots in one cut). By AI agents, Wed Nov 11 2026. No macro, syntax, notation, axiom, sorry.
-/
import Derived.Test.YtkgobijihcfikaaGreatChecked
import GoSem.Claim
import GoSem.ClaimJoined
import GoSem.ClaimMapViews
import Derived.JoinedTies
import Derived.KernelRfl
namespace Go.Proofs.YtkgobijihcfikaaGreat
/- THE CELL 'sum', in the pinned program and in every row, IS THE sha256 OF THE DUMP (.gsa) THAT YtkgobijihcfikaaGreatProg.lean LOADS. Nothing in Lean hashes anything: it is a label: what it is worth is what the hold of that sum in a sandbox is worth. -/
noncomputable def Tryz.pinned : Pinned := { name := "ytkgobijihcfikaagreat", sum := "22aa46afb2931716d053c0b6e87f357bdd6f8d9b9e459f72b3db2b1154fdd2d6", checked := Tryz.checked }
namespace Rows
def none {H : Type} : Left H := { results := [], args := [] }

/-- 'laws.FnViewOwn': WHATEVER THE INPUT: true; the input reads as it did. -/
def fnViewOwnSpec : ChangeSpec := { name := "fnViewOwn", fn := fun _ => fun
  | [d] => { results := [.lit (.bool true)], args := [d] }
  | _ => none }
def fnViewOwnRow : OpenClaim := { program := "ytkgobijihcfikaagreat", sum := "22aa46afb2931716d053c0b6e87f357bdd6f8d9b9e459f72b3db2b1154fdd2d6", func := "loop.example/mailhost/laws.FnViewOwn", spec := "fnViewOwn", inPlace := ["internal/bytealg.abigen_runtime_cmpstring", "(*sync.WaitGroup).Add", "internal/race.ReleaseMerge", "internal/race.Disable", "internal/race.Enable", "internal/synctest.IsInBubble", "internal/synctest.Associate[sync.WaitGroup]", "sync.fatal", "sync/atomic.OrUint64", "sync/atomic.AddUint64", "internal/race.Read", "sync/atomic.LoadUint64", "sync/atomic.StoreUint64", "internal/synctest.Disassociate[sync.WaitGroup]", "sync.runtime_Semrelease", "(*sync.WaitGroup).Done", "(*sync.WaitGroup).Wait", "internal/race.Acquire", "internal/synctest.IsAssociated[sync.WaitGroup]", "sync/atomic.CompareAndSwapUint64", "internal/race.Write", "sync.runtime_SemacquireWaitGroup"], unfollowed := true, recurses := true, leaving := true, apart := false }
def FnViewOwnSaid : Prop := fnViewOwnRow.holds Tryz.pinned (OpenSpec.ofChange fnViewOwnSpec)

/-- ITS FALSE NEIGHBOUR: 'it returns false'. Refute it at one input. -/
def fnViewOwnWrong : ChangeSpec := { name := "fnViewOwn", fn := fun _ => fun
  | [d] => { results := [.lit (.bool false)], args := [d] }
  | _ => none }
def FnViewOwnWrongFalsely : Prop := fnViewOwnRow.holds Tryz.pinned (OpenSpec.ofChange fnViewOwnWrong)

/-- 'laws.FnListAll': WHATEVER THE INPUT: true; the input reads as it did. -/
def fnListAllSpec : ChangeSpec := { name := "fnListAll", fn := fun _ => fun
  | [d] => { results := [.lit (.bool true)], args := [d] }
  | _ => none }
def fnListAllRow : OpenClaim := { program := "ytkgobijihcfikaagreat", sum := "22aa46afb2931716d053c0b6e87f357bdd6f8d9b9e459f72b3db2b1154fdd2d6", func := "loop.example/mailhost/laws.FnListAll", spec := "fnListAll", inPlace := ["internal/bytealg.abigen_runtime_cmpstring", "(*sync.WaitGroup).Add", "internal/race.ReleaseMerge", "internal/race.Disable", "internal/race.Enable", "internal/synctest.IsInBubble", "internal/synctest.Associate[sync.WaitGroup]", "sync.fatal", "sync/atomic.OrUint64", "sync/atomic.AddUint64", "internal/race.Read", "sync/atomic.LoadUint64", "sync/atomic.StoreUint64", "internal/synctest.Disassociate[sync.WaitGroup]", "sync.runtime_Semrelease", "(*sync.WaitGroup).Done", "(*sync.WaitGroup).Wait", "internal/race.Acquire", "internal/synctest.IsAssociated[sync.WaitGroup]", "sync/atomic.CompareAndSwapUint64", "internal/race.Write", "sync.runtime_SemacquireWaitGroup"], unfollowed := true, recurses := true, leaving := true, apart := false }
def FnListAllSaid : Prop := fnListAllRow.holds Tryz.pinned (OpenSpec.ofChange fnListAllSpec)

/-- ITS FALSE NEIGHBOUR: 'it returns false'. Refute it at one input. -/
def fnListAllWrong : ChangeSpec := { name := "fnListAll", fn := fun _ => fun
  | [d] => { results := [.lit (.bool false)], args := [d] }
  | _ => none }
def FnListAllWrongFalsely : Prop := fnListAllRow.holds Tryz.pinned (OpenSpec.ofChange fnListAllWrong)

/-- 'laws.FnList': WHATEVER THE INPUT: true; the input reads as it did. -/
def fnListSpec : ChangeSpec := { name := "fnList", fn := fun _ => fun
  | [d] => { results := [.lit (.bool true)], args := [d] }
  | _ => none }
def fnListRow : OpenClaim := { program := "ytkgobijihcfikaagreat", sum := "22aa46afb2931716d053c0b6e87f357bdd6f8d9b9e459f72b3db2b1154fdd2d6", func := "loop.example/mailhost/laws.FnList", spec := "fnList", inPlace := ["internal/bytealg.abigen_runtime_cmpstring", "(*sync.WaitGroup).Add", "internal/race.ReleaseMerge", "internal/race.Disable", "internal/race.Enable", "internal/synctest.IsInBubble", "internal/synctest.Associate[sync.WaitGroup]", "sync.fatal", "sync/atomic.OrUint64", "sync/atomic.AddUint64", "internal/race.Read", "sync/atomic.LoadUint64", "sync/atomic.StoreUint64", "internal/synctest.Disassociate[sync.WaitGroup]", "sync.runtime_Semrelease", "(*sync.WaitGroup).Done", "(*sync.WaitGroup).Wait", "internal/race.Acquire", "internal/synctest.IsAssociated[sync.WaitGroup]", "sync/atomic.CompareAndSwapUint64", "internal/race.Write", "sync.runtime_SemacquireWaitGroup"], unfollowed := true, recurses := true, leaving := true, apart := false }
def FnListSaid : Prop := fnListRow.holds Tryz.pinned (OpenSpec.ofChange fnListSpec)

/-- ITS FALSE NEIGHBOUR: 'it returns false'. Refute it at one input. -/
def fnListWrong : ChangeSpec := { name := "fnList", fn := fun _ => fun
  | [d] => { results := [.lit (.bool false)], args := [d] }
  | _ => none }
def FnListWrongFalsely : Prop := fnListRow.holds Tryz.pinned (OpenSpec.ofChange fnListWrong)

/-- 'laws.FnView': WHATEVER THE INPUT: true; the input reads as it did. -/
def fnViewSpec : ChangeSpec := { name := "fnView", fn := fun _ => fun
  | [d] => { results := [.lit (.bool true)], args := [d] }
  | _ => none }
def fnViewRow : OpenClaim := { program := "ytkgobijihcfikaagreat", sum := "22aa46afb2931716d053c0b6e87f357bdd6f8d9b9e459f72b3db2b1154fdd2d6", func := "loop.example/mailhost/laws.FnView", spec := "fnView", inPlace := ["internal/bytealg.abigen_runtime_cmpstring", "(*sync.WaitGroup).Add", "internal/race.ReleaseMerge", "internal/race.Disable", "internal/race.Enable", "internal/synctest.IsInBubble", "internal/synctest.Associate[sync.WaitGroup]", "sync.fatal", "sync/atomic.OrUint64", "sync/atomic.AddUint64", "internal/race.Read", "sync/atomic.LoadUint64", "sync/atomic.StoreUint64", "internal/synctest.Disassociate[sync.WaitGroup]", "sync.runtime_Semrelease", "(*sync.WaitGroup).Done", "(*sync.WaitGroup).Wait", "internal/race.Acquire", "internal/synctest.IsAssociated[sync.WaitGroup]", "sync/atomic.CompareAndSwapUint64", "internal/race.Write", "sync.runtime_SemacquireWaitGroup"], unfollowed := true, recurses := true, leaving := true, apart := false }
def FnViewSaid : Prop := fnViewRow.holds Tryz.pinned (OpenSpec.ofChange fnViewSpec)

/-- ITS FALSE NEIGHBOUR: 'it returns false'. Refute it at one input. -/
def fnViewWrong : ChangeSpec := { name := "fnView", fn := fun _ => fun
  | [d] => { results := [.lit (.bool false)], args := [d] }
  | _ => none }
def FnViewWrongFalsely : Prop := fnViewRow.holds Tryz.pinned (OpenSpec.ofChange fnViewWrong)

/- THE SECOND FORM. 'bulk': how many values and letters a reading holds, each counted each time it is reached (what is shared counts as often as it is met; a slice's spare places count too). A statement '..UptoSaid' is the law's where the arguments, and the package variables that the reading takes, are together of bulk at most 1048576: NARROWER than '..Said'. Prove '..Said' where nothing that the law and all that it calls make is longer than what came in: it says more and counts as full. Else prove '..UptoSaid'. A law counts once. -/
mutual
def uptoBulk {H : Type} : DataW H → Nat
  | .lit (.string bytes) => bytes.length + 1
  | .lit _ => 1
  | .nil => 1
  | .ptr d => uptoBulk d + 1
  | .slice elems spare => uptoBulkAll elems + uptoBulkAll spare + 1
  | .agg parts => uptoBulkAll parts + 1
  | .iface _ d => uptoBulk d + 1
  | .map entries => uptoBulkEntries entries + 1
  | .held _ => 1
def uptoBulkAll {H : Type} : List (DataW H) → Nat
  | [] => 0
  | d :: r => uptoBulk d + uptoBulkAll r
def uptoBulkEntries {H : Type} : List (Lit × DataW H) → Nat
  | [] => 0
  | x :: r => uptoBulkEntry x + uptoBulkEntries r
def uptoBulkEntry {H : Type} : Lit × DataW H → Nat
  | (.string bytes, d) => bytes.length + uptoBulk d + 1
  | (_, d) => uptoBulk d + 1
 end
def uptoSmall : (H : Type) → List (DataW H) → Bool := fun _ ds => decide (uptoBulkAll ds ≤ 1048576)
def OpenSpec.upto (s : _root_.Go.ChangeSpec) : _root_.Go.OpenSpec := { _root_.Go.OpenSpec.ofChange s with cond := some uptoSmall }

/-- 'laws.FnViewOwn', WHERE WHAT IT READS IS OF BULK AT MOST 1048576: true; the input reads as it did. -/
def fnViewOwnUptoRow : OpenClaim := { program := "ytkgobijihcfikaagreat", sum := "22aa46afb2931716d053c0b6e87f357bdd6f8d9b9e459f72b3db2b1154fdd2d6", func := "loop.example/mailhost/laws.FnViewOwn", spec := "fnViewOwn", inPlace := ["internal/bytealg.abigen_runtime_cmpstring", "(*sync.WaitGroup).Add", "internal/race.ReleaseMerge", "internal/race.Disable", "internal/race.Enable", "internal/synctest.IsInBubble", "internal/synctest.Associate[sync.WaitGroup]", "sync.fatal", "sync/atomic.OrUint64", "sync/atomic.AddUint64", "internal/race.Read", "sync/atomic.LoadUint64", "sync/atomic.StoreUint64", "internal/synctest.Disassociate[sync.WaitGroup]", "sync.runtime_Semrelease", "(*sync.WaitGroup).Done", "(*sync.WaitGroup).Wait", "internal/race.Acquire", "internal/synctest.IsAssociated[sync.WaitGroup]", "sync/atomic.CompareAndSwapUint64", "internal/race.Write", "sync.runtime_SemacquireWaitGroup"], unfollowed := true, recurses := true, leaving := true, apart := false, narrowed := true }
def FnViewOwnUptoSaid : Prop := fnViewOwnUptoRow.holds Tryz.pinned (OpenSpec.upto fnViewOwnSpec)

/-- 'laws.FnListAll', WHERE WHAT IT READS IS OF BULK AT MOST 1048576: true; the input reads as it did. -/
def fnListAllUptoRow : OpenClaim := { program := "ytkgobijihcfikaagreat", sum := "22aa46afb2931716d053c0b6e87f357bdd6f8d9b9e459f72b3db2b1154fdd2d6", func := "loop.example/mailhost/laws.FnListAll", spec := "fnListAll", inPlace := ["internal/bytealg.abigen_runtime_cmpstring", "(*sync.WaitGroup).Add", "internal/race.ReleaseMerge", "internal/race.Disable", "internal/race.Enable", "internal/synctest.IsInBubble", "internal/synctest.Associate[sync.WaitGroup]", "sync.fatal", "sync/atomic.OrUint64", "sync/atomic.AddUint64", "internal/race.Read", "sync/atomic.LoadUint64", "sync/atomic.StoreUint64", "internal/synctest.Disassociate[sync.WaitGroup]", "sync.runtime_Semrelease", "(*sync.WaitGroup).Done", "(*sync.WaitGroup).Wait", "internal/race.Acquire", "internal/synctest.IsAssociated[sync.WaitGroup]", "sync/atomic.CompareAndSwapUint64", "internal/race.Write", "sync.runtime_SemacquireWaitGroup"], unfollowed := true, recurses := true, leaving := true, apart := false, narrowed := true }
def FnListAllUptoSaid : Prop := fnListAllUptoRow.holds Tryz.pinned (OpenSpec.upto fnListAllSpec)

/-- 'laws.FnList', WHERE WHAT IT READS IS OF BULK AT MOST 1048576: true; the input reads as it did. -/
def fnListUptoRow : OpenClaim := { program := "ytkgobijihcfikaagreat", sum := "22aa46afb2931716d053c0b6e87f357bdd6f8d9b9e459f72b3db2b1154fdd2d6", func := "loop.example/mailhost/laws.FnList", spec := "fnList", inPlace := ["internal/bytealg.abigen_runtime_cmpstring", "(*sync.WaitGroup).Add", "internal/race.ReleaseMerge", "internal/race.Disable", "internal/race.Enable", "internal/synctest.IsInBubble", "internal/synctest.Associate[sync.WaitGroup]", "sync.fatal", "sync/atomic.OrUint64", "sync/atomic.AddUint64", "internal/race.Read", "sync/atomic.LoadUint64", "sync/atomic.StoreUint64", "internal/synctest.Disassociate[sync.WaitGroup]", "sync.runtime_Semrelease", "(*sync.WaitGroup).Done", "(*sync.WaitGroup).Wait", "internal/race.Acquire", "internal/synctest.IsAssociated[sync.WaitGroup]", "sync/atomic.CompareAndSwapUint64", "internal/race.Write", "sync.runtime_SemacquireWaitGroup"], unfollowed := true, recurses := true, leaving := true, apart := false, narrowed := true }
def FnListUptoSaid : Prop := fnListUptoRow.holds Tryz.pinned (OpenSpec.upto fnListSpec)

/-- 'laws.FnView', WHERE WHAT IT READS IS OF BULK AT MOST 1048576: true; the input reads as it did. -/
def fnViewUptoRow : OpenClaim := { program := "ytkgobijihcfikaagreat", sum := "22aa46afb2931716d053c0b6e87f357bdd6f8d9b9e459f72b3db2b1154fdd2d6", func := "loop.example/mailhost/laws.FnView", spec := "fnView", inPlace := ["internal/bytealg.abigen_runtime_cmpstring", "(*sync.WaitGroup).Add", "internal/race.ReleaseMerge", "internal/race.Disable", "internal/race.Enable", "internal/synctest.IsInBubble", "internal/synctest.Associate[sync.WaitGroup]", "sync.fatal", "sync/atomic.OrUint64", "sync/atomic.AddUint64", "internal/race.Read", "sync/atomic.LoadUint64", "sync/atomic.StoreUint64", "internal/synctest.Disassociate[sync.WaitGroup]", "sync.runtime_Semrelease", "(*sync.WaitGroup).Done", "(*sync.WaitGroup).Wait", "internal/race.Acquire", "internal/synctest.IsAssociated[sync.WaitGroup]", "sync/atomic.CompareAndSwapUint64", "internal/race.Write", "sync.runtime_SemacquireWaitGroup"], unfollowed := true, recurses := true, leaving := true, apart := false, narrowed := true }
def FnViewUptoSaid : Prop := fnViewUptoRow.holds Tryz.pinned (OpenSpec.upto fnViewSpec)

end Rows
end Go.Proofs.YtkgobijihcfikaaGreat
