/-
  THE WALK'S LOGIC: owned cells and known cells, goroutines started and awaited, calls, loops, data, and plain laws on lists: no program in sight.
-/
import Derived.Test.YtpdpnilbhlojbaaQ0
import Derived.Test.YtpdpnilbhlojbaaB1
import Derived.Conc.Fork
import Derived.Conc.CrowdRun
set_option linter.unusedVariables false
set_option linter.unusedSimpArgs false
set_option linter.unusedSectionVars false
namespace Go.BL
open Go.Conc Go.ConcN Go.RowKit Go.Conc.Lib Go.ConcR.Gen Go.ConcN.Gen
open Go.ConcR (KK wgBlock WgAt stA smA rd wr mk Payload)
set_option linter.unusedVariables false
set_option linter.unusedSectionVars false
section
variable {P:PJ} {n:Nat} {ops:Array Oper} {i:Nat} {S:Env} {D:List Deferred} {B:Kn} {L:List Cells}
end
section
variable [Payload] (P:Program) (ty:TypeId) (Wg C n:Nat) (val:Nat→Value) (K:Goroutine→Kn→Cells→Prop)
end
section
variable [Payload] {Lk:WgLink} {P:Program} {ty:TypeId} {Wg C n N:Nat} {val:Nat→Value} {K:Goroutine→Kn→Cells→Prop} {j:Nat} {B:Kn} {Lc:Cells} {f:FuncId} {kind:CallKind} {cs:List Frame} {ops:Array Oper} {i:Nat} {todo:List Nat} {k:List Item} {T:Array Value} {S:Env} {D:List Deferred}
  {dst:Option Tmp} {t':TypeId} {pos:String} {after:Array Edge} {ats:Array TypeId}
end
end Go.BL
namespace Go.BL
open Go.Conc Go.ConcN Go.RowKit Go.Conc.Lib Go.ConcR.Gen Go.ConcN.Gen
open Go.ConcR (KK wgBlock WgAt stA smA rd wr mk Payload)
set_option linter.unusedVariables false
set_option linter.unusedSectionVars false
section
variable [Payload] {Lk:WgLink} {P:Program} {ty:TypeId} {Wg C n nt:Nat} {i:Nat} {v:Value} {B:Kn} {L:Cells} {h:FuncId} {fn:Func} {ops:Array Oper} {m:Nat} {T:Array Value} {S:Env}
  {dst:Option Tmp} {t t':TypeId} {pos:String} {after:Array Edge} {ats:Array TypeId} {x y:Operand}
end
end Go.BL
namespace Go.BL
open Go.Conc Go.ConcN
set_option linter.unusedVariables false
set_option linter.unusedSectionVars false
end Go.BL
namespace Go.BL
open Go.Conc Go.ConcN Go.RowKit Go.Conc.Lib
open Go.ConcR (KK wgBlock WgAt stA smA rd wr mk Payload)
set_option linter.unusedVariables false
set_option linter.unusedSectionVars false
end Go.BL
