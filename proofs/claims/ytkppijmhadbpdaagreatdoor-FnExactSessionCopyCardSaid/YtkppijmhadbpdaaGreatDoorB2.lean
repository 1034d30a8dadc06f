/-
  THE WALK'S LOGIC: owned cells and known cells, goroutines started and awaited, calls, loops, data, and plain laws on lists: no program in sight.
-/
import Derived.Test.YtkppijmhadbpdaaGreatDoorB1
set_option linter.unusedVariables false
set_option linter.unusedSimpArgs false
set_option linter.unusedSectionVars false
namespace Go.BL
open Go
structure GX where
 b:Nat
 q1:Option Addr
 c1:Nat
 q2:Option Addr
 c2:Nat
 q3:Option Addr
 c3:Nat
 q4:Option Addr
 c4:Nat
 l1:Cells
 l2:Cells
 l3:Cells
 l4:Cells
theorem ZyX {y:DHost} (h:ZQ y=true):kH 1 y≤700000000000000∧y.users.length≤2000000∧y.folders.length≤2000000∧y.queue.items.length≤2000000:=by
 obtain ⟨⟨_,h2,h3⟩,⟨h4,_,h6⟩,_⟩:=Zbp.1 h
 have hu:y.users.length≤4:=by
  simp only [ZaC,Bool.and_eq_true,decide_eq_true_eq] at h2;exact h2.2.2
 have hq:=(ZeZ h3).2.2
 have hf:=Zvv (st:=ZbQ) (c:=41) (xs:=y.folders) (1+3*y.users.length) fun f hf=>by
  have e:=h4 f hf
  simp only [ZZ,Bool.and_eq_true,decide_eq_true_eq] at e
  have e1:f.grants.length≤4:=ZrW e.1.2
  have e2:f.mail.length≤10:=(Zcn e.2).2.2
  simp only [ZbQ];omega
 have hi:=Zvv (st:=Zco) (c:=6) (xs:=y.queue.items) (kL ZbQ (1+3*y.users.length) y.folders) fun z hz=>by
  have e:=ZkJ h3 hz
  have e2:z.left.length≤3:=by
   simp only [Ze6,ZcW,Zc4,Bool.and_eq_true,decide_eq_true_eq] at e;exact e.1.1.2.2
  simp only [Zco];omega
 have h8:y.folders.length*41≤8*41:=Nat.mul_le_mul_right _ h6
 have h9:y.queue.items.length*6≤6*6:=Nat.mul_le_mul_right _ hq
 refine ⟨?_,by omega,by omega,by omega⟩
 unfold kH;omega
theorem Zxq:kH 1 Zdu≤700000000000000∧Zdu.users.length≤2000000∧Zdu.folders.length≤2000000∧Zdu.queue.items.length≤2000000:=by
 refine ⟨?_,?_,?_,?_⟩ <;> simp [Zdu,kH,kL]
theorem Zxp {x y:DHost} (h1:ZQ x=false→y=Zdu) (h2:ZQ x=true→y=Zdu∨ZQ y=true):kH 1 y≤700000000000000∧y.users.length≤2000000∧y.folders.length≤2000000∧y.queue.items.length≤2000000:=by
 cases hx:ZQ x with
 | false=>rw [h1 hx];exact Zxq
 | true=>
  rcases h2 hx with e | e
  ·rw [e];exact Zxq
  ·exact ZyX e
theorem ZtY (x:DHost) (s:DSess) (r:Int):(atF x s r).2=0∨(atF x s r).2=1∨(atF x s r).2=2:=by
 unfold atF
 split <;> exact ZlE ..
theorem ZtA {x:DHost} {s:DSess} {set:List DSpan} {o n:Str} (h:ZQ x=false):(Z0 x s set o n).1=Zdu:=by rw [Z0,if_pos (by simp [h])]
theorem Ztk {x:DHost} {s:DSess} {set:List DSpan} {o n:Str} : kH 1 (Z0 x s set o n).1≤700000000000000∧(Z0 x s set o n).1.users.length≤2000000∧(Z0 x s set o n).1.folders.length≤2000000∧(Z0 x s set o n).1.queue.items.length≤2000000:=
 Zxp (x:=x) ZtA fun h=>by
  by_cases h1:Zdd set=true
  ·rcases Ztz (s:=s) (set:=set) (o:=o) (n:=n) h with e | e
   ·have h2:=ZtY x s 2
    have h3:=ZlE x.users x.folders s.user (ZaN (inF o n) x.folders) 8
    have h4:=fun ms=>Zf3 x (ZaN (inF o n) x.folders).toNat ms
    exfalso
    unfold Z0 at e
    rw [if_neg (fun hh=>hh ⟨h,h1⟩)] at e
    split at e
    ·simp only at e;omega
    ·split at e
     ·simp only at e;omega
     ·dsimp only at e
      split at e
      ·rename_i h5;rw [h5] at e;cases e
      ·have:=h4 ((ZaA set (ZlI x (atF x s 2).1.toNat).mail.length).map (Zci (ZlI x (atF x s 2).1.toNat).mail))
       simp only at e;omega
   ·exact .inr e
  ·left;rw [Z0,if_pos (fun hh=>h1 hh.2)]
end Go.BL
namespace Go.BL
section
variable {P:PJ} {n:Nat} {ops:Array Oper} {i:Nat} {K:Zah} {S:Env} {D:List Deferred} {B:Kn} {L:List Cells}
variable {dst:Option Tmp} {ty:TypeId} {pos:String} {after:Array Edge} {g:Option (Nat × Bool)}
end
end Go.BL
