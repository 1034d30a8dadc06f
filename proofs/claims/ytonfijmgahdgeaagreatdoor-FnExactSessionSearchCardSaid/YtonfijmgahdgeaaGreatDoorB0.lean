/-
  THE WALK'S LOGIC: owned cells and known cells, goroutines started and awaited, calls, loops, data, and plain laws on lists: no program in sight.
-/
import Derived.Test.YtonfijmgahdgeaaGreatDoorK0
import Derived.Orders
import Derived.Laws.Strings
import Derived.IntWalk
import Derived.RowKit3
import Derived.OpenShut
import Derived.WideKeyArgs
import Derived.ChangeSlices
import Derived.ChangeCalls
import Derived.ProofKit
import Derived.WalkKit
import Derived.Lib.Bytealg
import Derived.ChangeArms
import Derived.Stop.Asserts
import Derived.Conc.LeavingOf
import Derived.SevenTiedAt
import Derived.LaidMore
import Derived.MakeChecks
import Derived.Stop.Joined
import Derived.Stop.LaidErr
import Derived.KernelRfl
import Derived.Conc.HoldsTime
import Derived.Shelf.Vars
set_option linter.unusedVariables false
set_option linter.unusedSimpArgs false
set_option linter.unusedSectionVars false
namespace Go.BL
open Go.Conc (G)
abbrev Env:=List (Nat × Value)
def get:Env→Nat→Option Value
 | [],_=>none
 | (k,v) :: r,i=>bif Nat.beq k i then some v else get r i
def Ag (T:Array Value) (S:Env):Prop:=∀i v,get S i=some v→T[i]? = some v
def Sub:Env→Env→Prop
 | [],_=>True
 | p :: r,S=>get S p.1=some p.2∧Sub r S
theorem Sub.get_of :∀{S' S:Env},Sub S' S→∀{i v},get S' i=some v→get S i=some v
 | [],_,_,_,_,h=>by cases h
 | (k,x) :: r,S,⟨h1,h2⟩,i,v,h=>by
  simp only [get] at h
  cases hb:Nat.beq k i with
  | true=>
   rw [hb] at h
   simp only [cond_true,Option.some.injEq] at h
   subst h
   have:=Nat.eq_of_beq_eq_true hb
   subst this
   exact h1
  | false=>rw [hb] at h;exact Sub.get_of h2 h
theorem Ag.sub {T:Array Value} {S S':Env} (h:Ag T S) (hs:Sub S' S):Ag T S':=fun i v hv=>h i v (hs.get_of hv)
theorem Ag.put {T:Array Value} {S:Env} (h:Ag T S) {d:Nat} (hd:d<T.size) (v:Value):Ag (T.setIfInBounds d v) ((d,v) :: S):=by
 intro i x hx
 simp only [get] at hx
 cases hb:Nat.beq d i with
 | true=>
  rw [hb] at hx
  simp only [cond_true,Option.some.injEq] at hx
  subst hx
  have:=Nat.eq_of_beq_eq_true hb
  subst this
  simp [hd]
 | false=>
  rw [hb] at hx
  rw [Array.getElem?_setIfInBounds,if_neg (fun e=>by subst e;simp [Nat.beq_eq] at hb)]
  exact h i x hx
def ev (S:Env):Operand→Option Value
 | .tmp t=>get S t
 | .const v=>some v
 | .global g=>some (.pointer (some ⟨g,0,none⟩))
 | .func f=>some (.func (.func f) #[] #[])
def evT (T:Array Value):Operand→Value
 | .tmp t=>T.getD t undef
 | .const v=>v
 | .global g=>.pointer (some ⟨g,0,none⟩)
 | .func f=>.func (.func f) #[] #[]
theorem ZeL {T:Array Value} {S:Env} (h:Ag T S) {x:Operand} {v:Value} (hx:ev S x=some v):evT T x=v:=by
 cases x with
 | tmp t=>have:=h t v hx;simp only [evT,Array.getD_eq_getD_getElem?,this];rfl
 | const u=>simpa [ev,evT] using hx
 | global g=>simpa [ev,evT] using hx
 | func f=>simpa [ev,evT] using hx
def evs (S:Env):List Operand→Option (List Value)
 | []=>some []
 | x :: r=>match ev S x,evs S r with
  | some v,some vs=>some (v :: vs)
  | _,_=>none
theorem Zkw {T:Array Value} {S:Env} (h:Ag T S) :∀{xs:List Operand} {vs:List Value},evs S xs=some vs→xs.map (evT T)=vs
 | [],vs,hx=>by simpa [evs] using hx
 | x :: r,vs,hx=>by
  simp only [evs] at hx
  cases h1:ev S x with
  | none=>rw [h1] at hx;cases hx
  | some v=>
   cases h2:evs S r with
   | none=>rw [h1,h2] at hx;cases hx
   | some us=>
    rw [h1,h2] at hx
    simp only [Option.some.injEq] at hx
    subst hx
    simp [ZeL h h1,Zkw h h2]
def fat (b:Frame) (T:Array Value) (D:List Deferred) (todo:List Item):Frame:={ b with tmps:=T,todo,defers:=D,mode:=.run }
theorem Zkv (b:Frame) (T:Array Value) (D:List Deferred) (todo:List Item):(fat b T D todo).eval=evT T:=by
 funext x;cases x <;> rfl
section moves
variable {P:Program} {main:Bool} {b:Frame} {T:Array Value} {D:List Deferred} {k:List Item} {cs:List Frame} {w:World}
theorem Zq9:stepG P main (G (fat b T D (.code .skip :: k)) cs) w = .go (G (fat b T D k) cs) w #[]:=by simp [G,stepG,stepG.exec,fat]
theorem Zle {x y:Code} : stepG P main (G (fat b T D (.code (.seq x y) :: k)) cs) w = .go (G (fat b T D (.code x :: .code y :: k)) cs) w #[]:=by simp [G,stepG,stepG.exec,fat]
theorem Zrb {c:Operand} {x y:Code} {t:Bool} (h:evT T c = .bool t) :
  stepG P main (G (fat b T D (.code (.cond c x y) :: k)) cs) w = .go (G (fat b T D (.code (if t then x else y) :: k)) cs) w #[]:=by
 have h':(fat b T D (.code (.cond c x y) :: k)).eval c = .bool t:=by rw [Zkv];exact h
 simp only [fat] at h'
 simp [G,stepG,stepG.exec,fat,h']
theorem ZjM {id:Nat} {c:Code} : stepG P main (G (fat b T D (.code (.block id c) :: k)) cs) w = .go (G (fat b T D (.code c :: .inBlock id :: k)) cs) w #[]:=by simp [G,stepG,stepG.exec,fat]
theorem ZgK {id:Nat} : stepG P main (G (fat b T D (.inBlock id :: k)) cs) w = .go (G (fat b T D k) cs) w #[]:=by simp [G,stepG,stepG.exec,fat]
theorem ZmW {c:Code} : stepG P main (G (fat b T D (.code (.loop c) :: k)) cs) w = .go (G (fat b T D (.code c :: .inLoop c :: k)) cs) w #[]:=by simp [G,stepG,stepG.exec,fat]
theorem ZhZ {c:Code} : stepG P main (G (fat b T D (.inLoop c :: k)) cs) w = .go (G (fat b T D (.code c :: .inLoop c :: k)) cs) w #[]:=by simp [G,stepG,stepG.exec,fat]
theorem Zra {id:Nat} {k':List Item} (h:exitTo id k=some k'):stepG P main (G (fat b T D (.code (.exit id) :: k)) cs) w = .go (G (fat b T D k') cs) w #[]:=by simp [G,stepG,stepG.exec,fat,h]
theorem Zgg {id:Nat} {ops:Array Oper} : stepG P main (G (fat b T D (.code (.region id ops false) :: k)) cs) w = .go (G (fat b T D (.inRegion ops (List.range ops.size) :: k)) cs) w #[]:=by simp [G,stepG,stepG.exec,fat]
theorem Zfz {id:Nat} {ops:Array Oper} : stepG P main (G (fat b T D (.code (.region id ops true) :: k)) cs) w =
  .go (G (fat b T D (.inRegion ops (Region.schedule (P.follows .mixedOrders) ops (w.tape w.drawn (.order b.fn id))) :: k)) cs) { w with drawn:=w.drawn+1 } #[]:=by
 simp [G,stepG,stepG.exec,fat,choose,Sem.run,Question.forced,Question.cut]
theorem Zcm {ops:Array Oper} : stepG P main (G (fat b T D (.inRegion ops [] :: k)) cs) w = .go (G (fat b T D k) cs) w #[]:=by simp [G,stepG,stepG.exec,fat]
theorem Zwn (hr:b.roundOf=none):stepG P main (G (fat b T D (.code .ret :: k)) cs) w = .go (G { fat b T D (.code .ret :: k) with mode:=.returning } cs) w #[]:=by
 simp [G,stepG,stepG.exec,fat,hr]
theorem Zi3 (hr:b.roundOf=none):stepG P main (G (fat b T D []) cs) w = .go (G { fat b T D [] with mode:=.returning } cs) w #[]:=by
 simp [G,stepG,stepG.exec,fat,hr]
theorem Zpg {ops:Array Oper} {i:Nat} {rest:List Nat} {o:Oper} (ho:ops[i]? = some o) (hw:Region.wanted o (yielded ops T)=false) :
  stepG P main (G (fat b T D (.inRegion ops (i :: rest) :: k)) cs) w = .go (G (fat b (match o.dst with | some d=>T.setIfInBounds d undef | none=>T) D (.inRegion ops rest :: k)) cs) w #[]:=by
 cases hd:o.dst <;> simp [G,stepG,stepG.exec,fat,ho,hw,Frame.finish,hd]
def Zid:Op→Bool
 | .defer _=>true
 | _=>false
theorem ZjL {ops:Array Oper} {i:Nat} {rest:List Nat} {o:Oper} (hnd:Zid o.op=false) (ho:ops[i]? = some o) (hw:Region.wanted o (yielded ops T)=true) :
  stepG P main (G (fat b T D (.inRegion ops (i :: rest) :: k)) cs) w=stepG.apply P true (fat b T D (.inRegion ops (i :: rest) :: k)) cs none (execOp (evT T) o) w:=by
 have he:=Zkv b T D (.inRegion ops (i :: rest) :: k)
 simp only [fat] at he
 have key :∀(x:Option Nat),(match x,o.op with
   | some l,.defer c=>stepG.apply P true (fat b T D (.inRegion ops (i :: rest) :: k)) cs none (do Instr.deferInRound l (← resolve (fat b T D (.inRegion ops (i :: rest) :: k)).eval c o.type);pure .skip) w
   | _,_=>stepG.apply P true (fat b T D (.inRegion ops (i :: rest) :: k)) cs none (execOp (evT T) o) w)=stepG.apply P true (fat b T D (.inRegion ops (i :: rest) :: k)) cs none (execOp (evT T) o) w:=by
  intro x
  split
  ·rename_i h;rw [h] at hnd;cases hnd
  ·rfl
 have:=key b.roundOf
 simp only [fat] at this
 simp only [G,stepG,stepG.exec,fat,ho,Option.map_some,hw,Option.getD_some,if_true,stepG.oper,Frame.oper?,he]
 exact this
end moves
def putT (T:Array Value) (dst:Option Tmp) (v:Value):Array Value:=match dst with | some d=>T.setIfInBounds d v | none=>T
theorem Zao (T:Array Value) (dst:Option Tmp) (v:Value):(putT T dst v).size=T.size:=by cases dst <;> simp [putT]
theorem Zfm {b:Frame} {T:Array Value} {D:List Deferred} {ops:Array Oper} {i:Nat} {rest:List Nat} {k:List Item} {o:Oper} (ho:ops[i]? = some o) (v:Value) :
  (fat b T D (.inRegion ops (i :: rest) :: k)).finish v=fat b (putT T o.dst v) D (.inRegion ops rest :: k):=by
 cases h:o.dst <;> simp [fat,Frame.finish,ho,h,putT]
structure Cx (P:PJ) where
 X:Lg P
 b:Frame
 cs:List Frame
 F:Cells
 early:b.kind≠.early
abbrev Zag:=Env→List Deferred→Kn→List Cells→Prop
def After {P:PJ} (C:Cx P) (k:List Item) (T:Array Value) (D:List Deferred) (B:Kn) (L:List Cells):Exit→Prop
 | .normal=>C.X.R (G (fat C.b T D k) C.cs) B (L.flatten ++ C.F)
 | .exit id=>∃k',exitTo id k=some k'∧C.X.R (G (fat C.b T D k') C.cs) B (L.flatten ++ C.F)
 | .ret=>C.b.roundOf=none∧∀todo,C.X.R (G { fat C.b T D todo with mode:=.returning } C.cs) B (L.flatten ++ C.F)
 | _=>False
def wpS (P:PJ) (n:Nat) (c:Code) (Q:Exit→Zag):Zag:=fun S D B L=>
∀(C:Cx P) (k:List Item) (T:Array Value),T.size=n→Ag T S→
  (∀e S' D' B' L' T',B.le B'→Q e S' D' B' L'→T'.size=n→Ag T' S'→After C k T' D' B' L' e)→C.X.R (G (fat C.b T D (.code c :: k)) C.cs) B (L.flatten ++ C.F)
def thn (K:Zag) (Q:Exit→Zag):Exit→Zag
 | .normal=>K
 | e=>Q e
def inB (id:Nat) (Q:Exit→Zag):Exit→Zag
 | .exit id'=>bif Nat.beq id' id then Q .normal else Q (.exit id')
 | e=>Q e
section rules
variable {P:PJ} {n:Nat} {Q:Exit→Zag} {S:Env} {D:List Deferred} {B:Kn} {L:List Cells}
theorem Zt2 {c:Code} {Q':Exit→Zag} (h:wpS P n c Q' S D B L) (hq :∀e S D B' L,B.le B'→Q' e S D B' L→Q e S D B' L):wpS P n c Q S D B L:=
 fun C k T hn hT hA=>h C k T hn hT fun e S' D' B' L' T' hle hq'=>hA e S' D' B' L' T' hle (hq e S' D' B' L' hle hq')
theorem Z0 {c:Code} (S':Env) (hs:Sub S' S) (h:wpS P n c Q S' D B L):wpS P n c Q S D B L:=
 fun C k T hn hT hA=>h C k T hn (hT.sub hs) hA
theorem ZK (h:Q .normal S D B L):wpS P n .skip Q S D B L:=fun C k T hn hT hA=>
 C.X.ctl rfl (fun w=>Zq9) (hA .normal S D B L T (Kn.le.refl B) h hn hT)
theorem Zf (h:Q .ret S D B L):wpS P n .ret Q S D B L:=fun C k T hn hT hA=>by
 obtain ⟨hr,hR⟩:=hA .ret S D B L T (Kn.le.refl B) h hn hT
 exact C.X.ctl rfl (fun w=>Zwn hr) (hR _)
theorem ZA {id:Nat} (h:Q (.exit id) S D B L):wpS P n (.exit id) Q S D B L:=fun C k T hn hT hA=>by
 obtain ⟨k',hk,hR⟩:=hA (.exit id) S D B L T (Kn.le.refl B) h hn hT
 exact C.X.ctl rfl (fun w=>Zra hk) hR
theorem After.push {C:Cx P} {x:Item} {k:List Item} {T:Array Value} {e:Exit} (hx:x.plain=true) (he:e≠.normal) (h:After C k T D B L e):After C (x :: k) T D B L e:=by
 cases e with
 | normal=>exact absurd rfl he
 | exit id=>obtain ⟨k',hk,hg⟩:=h;exact ⟨k',by cases x <;> simp_all [exitTo,Item.plain],hg⟩
 | ret=>exact h
 | goto l=>exact h
 | panic ch=>exact h
 | outgrown=>exact h
theorem Ze {x y:Code} (h:wpS P n x (thn (wpS P n y Q) Q) S D B L):wpS P n (.seq x y) Q S D B L:=fun C k T hn hT hA=>by
 refine C.X.ctl rfl (fun w=>Zle) (h C (.code y :: k) T hn hT fun e S' D' B' L' T' hle hq hn' hT'=>?_)
 cases e with
 | normal=>exact hq C k T' hn' hT' fun e₂ S₂ D₂ B₂ L₂ T₂ hle₂ hq₂=>hA e₂ S₂ D₂ B₂ L₂ T₂ (hle.trans hle₂) hq₂
 | exit id=>exact After.push rfl (by simp) (hA (.exit id) S' D' B' L' T' hle hq hn' hT')
 | ret=>exact After.push (x:=.code y) rfl (by simp) (hA .ret S' D' B' L' T' hle hq hn' hT')
 | goto l=>exact (hA (.goto l) S' D' B' L' T' hle hq hn' hT')
 | panic ch=>exact (hA (.panic ch) S' D' B' L' T' hle hq hn' hT')
 | outgrown=>exact (hA .outgrown S' D' B' L' T' hle hq hn' hT')
theorem ZwZ {x y:Code} (M:Zag) (h:wpS P n x (thn M Q) S D B L) (h' :∀S' D' B' L',B.le B'→M S' D' B' L'→wpS P n y Q S' D' B' L'):wpS P n (.seq x y) Q S D B L:=
 Ze (Zt2 h fun e S' D' B' L' hle hq=>by cases e <;> first | exact hq | exact h' _ _ _ _ hle hq)
theorem Zb {c:Operand} {x y:Code} {t:Bool} (hc:ev S c=some (.bool t)) (h1:t=true→wpS P n x Q S D B L) (h2:t=false→wpS P n y Q S D B L):wpS P n (.cond c x y) Q S D B L:=fun C k T hn hT hA=>by
 refine C.X.ctl rfl (fun w=>Zrb (ZeL hT hc)) ?_
 cases t
 ·exact h2 rfl C k T hn hT hA
 ·exact h1 rfl C k T hn hT hA
theorem Zg {id:Nat} {c:Code} (h:wpS P n c (inB id Q) S D B L):wpS P n (.block id c) Q S D B L:=fun C k T hn hT hA=>by
 refine C.X.ctl rfl (fun w=>ZjM) (h C (.inBlock id :: k) T hn hT fun e S' D' B' L' T' hle hq hn' hT'=>?_)
 cases e with
 | normal=>exact C.X.ctl rfl (fun w=>ZgK) (hA .normal S' D' B' L' T' hle hq hn' hT')
 | exit id'=>
  by_cases hid:id'=id
  ·subst hid
   have hq':Q .normal S' D' B' L':=by simpa [inB] using hq
   exact ⟨k,by simp [exitTo],hA .normal S' D' B' L' T' hle hq' hn' hT'⟩
  ·have hb:Nat.beq id' id=false:=by
    cases h:Nat.beq id' id with
    | false=>rfl
    | true=>exact absurd (Nat.eq_of_beq_eq_true h) hid
   have hq':Q (.exit id') S' D' B' L':=by simpa [inB,hb] using hq
   obtain ⟨k',hk',hg⟩:=hA (.exit id') S' D' B' L' T' hle hq' hn' hT'
   have:(id == id')=false:=by simp;exact fun h=>hid h.symm
   exact ⟨k',by simp [exitTo,this,hk'],hg⟩
 | ret=>exact hA .ret S' D' B' L' T' hle hq hn' hT'
 | goto l=>exact hA (.goto l) S' D' B' L' T' hle hq hn' hT'
 | panic ch=>exact hA (.panic ch) S' D' B' L' T' hle hq hn' hT'
 | outgrown=>exact hA .outgrown S' D' B' L' T' hle hq hn' hT'
def rnd {α:Type} (St:α→Env) (Lo:α→List Cells) (Iv:α→Kn→Prop) (μ:α→Nat) (D:List Deferred) (x:α) (Q:Exit→Zag):Exit→Zag
 | .normal=>fun S' D' B' L'=>∃x',μ x'<μ x∧Iv x' B'∧Sub (St x') S'∧L'=Lo x'∧D'=D
 | e=>Q e
theorem ZkW {c:Code} {α:Type} (St:α→Env) (Lo:α→List Cells) (Iv:α→Kn→Prop) (μ:α→Nat) (x₀:α) (hS:Sub (St x₀) S) (hL:L=Lo x₀) (hI:Iv x₀ B)
  (round :∀x B',B.le B'→Iv x B'→wpS P n c (rnd St Lo Iv μ D x Q) (St x) D B' (Lo x)):wpS P n (.loop c) Q S D B L:=fun C k T hn hT hA=>by
 have key :∀m x B' T,μ x=m→B.le B'→Iv x B'→T.size=n→Ag T (St x)→C.X.R (G (fat C.b T D (.code c :: .inLoop c :: k)) C.cs) B' ((Lo x).flatten ++ C.F):=by
  intro m
  induction m using Nat.strongRecOn with
  | _ m ih=>
   intro x B' T hm hle hI hn hT
   refine round x B' hle hI C (.inLoop c :: k) T hn hT fun e S' D' B'' L' T' hle' hq hn' hT'=>?_
   cases e with
   | normal=>
    obtain ⟨x',hlt,hI',hs',rfl,rfl⟩:=hq
    exact C.X.ctl rfl (fun w=>ZhZ) (ih (μ x') (hm ▸ hlt) x' B'' T' rfl (hle.trans hle') hI' hn' (hT'.sub hs'))
   | exit id=>exact After.push rfl (by simp) (hA (.exit id) S' D' B'' L' T' (hle.trans hle') hq hn' hT')
   | ret=>exact After.push (x:=.inLoop c) rfl (by simp) (hA .ret S' D' B'' L' T' (hle.trans hle') hq hn' hT')
   | goto l=>exact hA (.goto l) S' D' B'' L' T' (hle.trans hle') hq hn' hT'
   | panic ch=>exact hA (.panic ch) S' D' B'' L' T' (hle.trans hle') hq hn' hT'
   | outgrown=>exact hA .outgrown S' D' B'' L' T' (hle.trans hle') hq hn' hT'
 subst hL
 exact C.X.ctl rfl (fun w=>ZmW) (key _ x₀ B T rfl (Kn.le.refl B) hI hn (hT.sub hS))
theorem Lg.assume {P:PJ} (X:Lg P) {g:Goroutine} {B:Kn} {L:Cells} (hs:g=G g.frame g.callers) (h:(∀p,p∈L→B.mem p.1=none)→(L.map (·.1)).Nodup→X.R g B L):X.R g B L:=by
 by_cases hw :∃w,Sat B L w
 ·obtain ⟨w,s⟩:=hw
  exact h s.apart s.nodup
 ·exact X.step hs fun w s=>absurd ⟨w,s⟩ hw
def Kn.add (B:Kn) (l:Cells):Kn:=⟨fun b=>match B.mem b with | some o=>some o | none=>(l.find? (fun p=>p.1 == b)).map (·.2)⟩
theorem Kn.le_add (B:Kn) (l:Cells):B.le (B.add l):=fun b o h=>by simp [Kn.add,h]
theorem Zgv :∀{l:Cells},(l.map (·.1)).Nodup→∀{p:Nat × Obj},p∈l→l.find? (fun q=>q.1 == p.1)=some p
 | [],_,_,hp=>by cases hp
 | q :: r,hn,p,hp=>by
  have hn':=List.nodup_cons.1 hn
  rcases List.mem_cons.1 hp with rfl | hp
  ·simp
  ·have:q.1≠p.1:=fun e=>hn'.1 (List.mem_map.2 ⟨p,hp,e.symm⟩)
   rw [List.find?_cons_of_neg (by simpa using this)]
   exact Zgv hn'.2 hp
theorem Kn.add_mem {B:Kn} {l:Cells} (ha :∀p,p∈l→B.mem p.1=none) (hn:(l.map (·.1)).Nodup) {p:Nat × Obj} (hp:p∈l):(B.add l).mem p.1=some p.2:=by
 simp [Kn.add,ha p hp,Zgv hn hp]
theorem Kn.add_inv {B:Kn} {l:Cells} {b:Nat} {o:Obj} (h:(B.add l).mem b=some o):B.mem b=some o∨(b,o)∈l:=by
 simp only [Kn.add] at h
 cases hm:B.mem b with
 | some o'=>rw [hm] at h;exact .inl h
 | none=>
  rw [hm] at h
  simp only [Option.map_eq_some_iff] at h
  obtain ⟨p,hp,rfl⟩:=h
  have h1:=List.mem_of_find?_eq_some hp
  have h2:=List.find?_some hp
  simp only [beq_iff_eq] at h2
  subst h2
  exact .inr h1
theorem Lg.publish {P:PJ} (X:Lg P) {g:Goroutine} {B:Kn} {L l r:Cells} (hs:g=G g.frame g.callers) (hp:L.Perm (l ++ r))
  (h :∀B',B.le B'→(∀p,p∈l→B'.mem p.1=some p.2)→X.R g B' r):X.R g B L:=by
 refine X.assume hs fun ha hn=>?_
 have hn':((l ++ r).map (·.1)).Nodup:=(hp.map _).nodup_iff.1 hn
 have hnl:(l.map (·.1)).Nodup:=by rw [List.map_append] at hn';exact (List.nodup_append.1 hn').1
 have hal :∀p,p∈l→B.mem p.1=none:=fun p hpl=>ha p (hp.mem_iff.2 (List.mem_append.2 (.inl hpl)))
 refine X.conv (B':=B.add l) (L':=r) (Kn.le_add B l) (fun w s=>?_) (fun b o hb=>?_) (fun p hpr=>⟨p,hp.mem_iff.2 (List.mem_append.2 (.inr hpr)),rfl⟩) (h _ (Kn.le_add B l) fun p hpl=>Kn.add_mem hal hnl hpl)
 ·have s':=s.perm hp
  refine ⟨fun b o hb=>?_,fun p hpr=>s'.own p (List.mem_append.2 (.inr hpr)),?_,fun p hpr=>?_⟩
  ·rcases Kn.add_inv hb with hb | hb
   ·exact s.ro b o hb
   ·exact s'.own (b,o) (List.mem_append.2 (.inl hb))
  ·have:=s'.nodup;rw [List.map_append] at this;exact (List.nodup_append.1 this).2.1
  ·cases hm:(B.add l).mem p.1 with
   | none=>rfl
   | some o=>
    rcases Kn.add_inv hm with hm | hm
    ·rw [s'.apart p (List.mem_append.2 (.inr hpr))] at hm;cases hm
    ·have:=s'.nodup;rw [List.map_append] at this
     exact absurd rfl ((List.nodup_append.1 this).2.2 _ (List.mem_map.2 ⟨_,hm,rfl⟩) _ (List.mem_map.2 ⟨p,hpr,rfl⟩))
 ·rcases Kn.add_inv hb with hb | hb
  ·exact .inl (by rw [hb];rfl)
  ·exact .inr ⟨(b,o),hp.mem_iff.2 (List.mem_append.2 (.inl hb)),rfl⟩
theorem ZT :∀{L:List Cells} {i:Nat} {l:Cells} (F:Cells) (l':Cells),L[i]? = some l→∃r,(L.flatten ++ F).Perm (l ++ r)∧((L.set i l').flatten ++ F).Perm (l' ++ r)
 | [],_,_,_,_,h=>by simp at h
 | x :: L,0,l,F,l',h=>by
  simp only [List.getElem?_cons_zero,Option.some.injEq] at h
  subst h
  exact ⟨L.flatten ++ F,by simp,by simp⟩
 | x :: L,i+1,l,F,l',h=>by
  obtain ⟨r,h1,h2⟩:=ZT (L:=L) (i:=i) F l' (by simpa using h)
  refine ⟨x ++ r,?_,?_⟩
  ·simp only [List.flatten_cons,List.append_assoc]
   exact (List.Perm.append_left x h1).trans (by simpa using (List.perm_append_comm_assoc x l r))
  ·simp only [List.set_cons_succ,List.flatten_cons,List.append_assoc]
   exact (List.Perm.append_left x h2).trans (by simpa using (List.perm_append_comm_assoc x l' r))
theorem ZqB {c:Code} (i:Nat) {l:Cells} (hi:L[i]? = some l) (h :∀B',B.le B'→(∀p,p∈l→B'.mem p.1=some p.2)→wpS P n c Q S D B' (L.set i [])):wpS P n c Q S D B L:=fun C k T hn hT hA=>by
 obtain ⟨r,h1,h2⟩:=ZT C.F [] hi
 exact C.X.publish rfl h1 fun B' hle hm=>C.X.perm (by simpa using h2.symm) (h B' hle hm C k T hn hT fun e S' D' B'' L' T' hle' hq=>hA e S' D' B'' L' T' (hle.trans hle') hq)
theorem Lg.drop {P:PJ} (X:Lg P) {g:Goroutine} {B:Kn} {L r gl:Cells} (hp:L.Perm (r ++ gl)) (h:X.R g B r):X.R g B L:=
 X.conv (Kn.le.refl B) (fun w s=>by
   have s':=s.perm hp
   exact ⟨s.ro,fun p hpr=>s'.own p (List.mem_append.2 (.inl hpr)),by have:=s'.nodup;rw [List.map_append] at this;exact (List.nodup_append.1 this).1,fun p hpr=>s'.apart p (List.mem_append.2 (.inl hpr))⟩)
  (fun b o hb=>.inl (by rw [hb];rfl)) (fun p hpr=>⟨p,hp.mem_iff.2 (List.mem_append.2 (.inl hpr)),rfl⟩) h
end rules
def ZbG (S:Env):Option Tmp→Value→Env
 | some d,v=>(d,v) :: S
 | none,_=>S
def Zw (n:Nat):Option Tmp→Bool
 | some d=>Nat.blt d n
 | none=>true
def opW (P:PJ) (n:Nat) (ops:Array Oper) (i:Nat) (o:Oper) (K:Zag):Zag:=fun S D B L=>
∀(C:Cx P) (todo:List Nat) (k:List Item) (T:Array Value),ops[i]? = some o→T.size=n→Ag T S→
  (∀S' D' B' L' T',B.le B'→K S' D' B' L'→T'.size=n→Ag T' S'→C.X.R (G (fat C.b T' D' (.inRegion ops todo :: k)) C.cs) B' (L'.flatten ++ C.F))→
  C.X.R (G (fat C.b T D (.inRegion ops (i :: todo) :: k)) C.cs) B (L.flatten ++ C.F)
abbrev ZaE:=Value→List Deferred→Kn→List Cells→Prop
def opX (P:PJ) (n:Nat) (ops:Array Oper) (i:Nat) (o:Oper) (K:ZaE) (S:Env) (D:List Deferred) (B:Kn) (L:List Cells):Prop:=
 Zw n o.dst=true∧∀(C:Cx P) (todo:List Nat) (k:List Item) (T:Array Value),ops[i]? = some o→T.size=n→Ag T S→
  (∀v D' B' L',B.le B'→K v D' B' L'→C.X.R (G (fat C.b (putT T o.dst v) D' (.inRegion ops todo :: k)) C.cs) B' (L'.flatten ++ C.F))→
  C.X.R (G (fat C.b T D (.inRegion ops (i :: todo) :: k)) C.cs) B (L.flatten ++ C.F)
def Zql (P:PJ) (n:Nat) (ops:Array Oper):Nat→List Oper→Zag→Zag
 | _,[],K=>K
 | i,o :: r,K=>opW P n ops i o (Zql P n ops (i+1) r K)
theorem ZgM {P:PJ} {n:Nat} {ops:Array Oper} {K:Zag} :∀(l:List Oper) (i:Nat) {S:Env} {D:List Deferred} {B:Kn} {L:List Cells},
  (∀j,l[j]? = ops[i+j]?)→Zql P n ops i l K S D B L→∀(C:Cx P) (k:List Item) (T:Array Value),T.size=n→Ag T S→
  (∀S' D' B' L' T',B.le B'→K S' D' B' L'→T'.size=n→Ag T' S'→C.X.R (G (fat C.b T' D' (.inRegion ops [] :: k)) C.cs) B' (L'.flatten ++ C.F))→
  C.X.R (G (fat C.b T D (.inRegion ops (List.range' i l.length) :: k)) C.cs) B (L.flatten ++ C.F)
 | [],i,S,D,B,L,_,h,C,k,T,hn,hT,hA=>hA S D B L T (Kn.le.refl B) h hn hT
 | o :: l,i,S,D,B,L,hl,h,C,k,T,hn,hT,hA=>by
  simp only [List.length_cons,List.range'_succ]
  refine h C _ k T (by simpa using (hl 0).symm) hn hT fun S' D' B' L' T' hle hK hn' hT'=>?_
  exact ZgM l (i+1) (fun j=>by have:=hl (j+1);simpa [Nat.add_assoc,Nat.add_comm 1 j] using this) hK C k T' hn' hT'
   fun S₂ D₂ B₂ L₂ T₂ hle₂ hK₂=>hA S₂ D₂ B₂ L₂ T₂ (hle.trans hle₂) hK₂
section
variable {P:PJ} {n:Nat} {Q:Exit→Zag} {S:Env} {D:List Deferred} {B:Kn} {L:List Cells}
theorem Zd {id:Nat} {l:List Oper} (h:Zql P n l.toArray 0 l (Q .normal) S D B L):wpS P n (.region id l.toArray false) Q S D B L:=fun C k T hn hT hA=>by
 refine C.X.ctl rfl (fun w=>Zgg) ?_
 rw [List.size_toArray,List.range_eq_range']
 exact ZgM l 0 (fun j=>by simp) h C k T hn hT fun S' D' B' L' T' hle hq hn' hT'=>
  C.X.ctl rfl (fun w=>Zcm) (hA .normal S' D' B' L' T' hle hq hn' hT')
theorem Za {id:Nat} {l:List Oper} {y:Code} (h:Zql P n l.toArray 0 l (wpS P n y Q) S D B L):wpS P n (.seq (.region id l.toArray false) y) Q S D B L:=
 Ze (Zd h)
end
def Zk (ops:Array Oper) (S:Env):Option (Nat × Bool)→Option Bool
 | none=>some true
 | some (j,want)=>match ops[j]? with
  | some oj=>match oj.dst with
   | some d=>match get S d with
    | some (.bool b)=>some (b == want)
    | some (.tuple _)=>some false
    | _=>none
   | none=>none
  | none=>none
theorem ZbW {ops:Array Oper} {T:Array Value} {S:Env} (hT:Ag T S) {o:Oper} {t:Bool} (h:Zk ops S o.guard=some t):Region.wanted o (yielded ops T)=t:=by
 cases hg:o.guard with
 | none=>rw [hg] at h;simp only [Zk,Option.some.injEq] at h;simp [Region.wanted,hg,← h]
 | some p=>
  obtain ⟨j,want⟩:=p
  rw [hg] at h
  simp only [Zk] at h
  split at h
  ·rename_i oj hj
   split at h
   ·rename_i d hd
    split at h
    ·rename_i b hb
     simp only [Option.some.injEq] at h
     have:=hT _ _ hb
     simp [Region.wanted,hg,yielded,hj,hd,this,← h]
    ·rename_i b hb
     simp only [Option.some.injEq] at h
     have:=hT _ _ hb
     simp [Region.wanted,hg,yielded,hj,hd,this,← h]
    ·cases h
   ·cases h
  ·cases h
theorem Ag.putT {T:Array Value} {S:Env} (h:Ag T S) {n:Nat} (hn:T.size=n) {dst:Option Tmp} (hd:Zw n dst=true) (v:Value):Ag (putT T dst v) (ZbG S dst v):=by
 cases dst with
 | none=>exact h
 | some d=>exact h.put (by rw [hn];simpa [Zw] using hd) v
theorem Zll {e:Event} {f:Bool × Array Event→Event→Bool × Array Event} (hf :∀x a,(f x a).2=x.2∨(f x a).2=x.2.push a) :∀(l:List Event) (x:Bool × Array Event),e∈(l.foldl f x).2→e∈x.2∨e∈l
 | [],x,h=>.inl h
 | a :: l,x,h=>by
  rcases Zll hf l _ h with h | h
  ·rcases hf x a with e1 | e1
   ·rw [e1] at h;exact .inl h
   ·rw [e1] at h
    rcases Array.mem_push.1 h with h | h
    ·exact .inl h
    ·exact .inr (h ▸ List.mem_cons_self ..)
  ·exact .inr (List.mem_cons_of_mem _ h)
theorem ZbY {P:Program} {fn:FuncId} {es:Array Event} {e:Event} (h:e∈seen P fn es):e∈es:=by
 dsimp only [seen] at h
 rw [← Array.foldl_toList] at h
 refine Zll (fun x a=>?_) es.toList _ h |>.elim (fun h=>by simp at h) (fun h=>Array.mem_toList_iff.1 h)
 obtain ⟨q,kept⟩:=x
 dsimp only
 split
 ·exact .inl rfl
 ·dsimp only
  split
  ·exact .inl rfl
  ·exact .inr rfl
def Sup (a b:Cells):Prop:=∃gl,a.Perm (b ++ gl)
theorem Sup.of {a b:Cells} (h:a.Perm b):Sup a b:=⟨[],by rw [List.append_nil];exact h⟩
def yields (P:PJ) (n:Nat) (o:Oper) (K:ZaE) (S:Env) (D:List Deferred) (F:Cells):Next→Kn→Cells→Prop
 | .value v,B',L'=>∃LL:List Cells,Sup L' (LL.flatten ++ F)∧K v D B' LL
 | .skip,B',L'=>∃LL:List Cells,Sup L' (LL.flatten ++ F)∧K undef D B' LL
 | _,_,_=>False
section
variable {P:PJ} {n:Nat} {ops:Array Oper} {i:Nat} {o:Oper} {K:ZaE} {S:Env} {D:List Deferred} {B:Kn} {L:List Cells}
theorem Zbf {α:Type} {s:Sem α} {w:World} {r:Result α} {es:Array Event} (h:s.runT P w #[]=(r,es)):s.run P w=r∧s.events P w #[]=es:=by
 refine ⟨?_,?_⟩
 ·rw [← Sem.runT_fst P s w #[],h]
 ·show (s.runT P w #[]).2=es;rw [h]
theorem ZnS {fr:Frame} {cs:List Frame} {s:Sem Next} {w w':World} {v:Value} {es:Array Event} (hk:fr.kind≠.early) (h:s.runT P w #[]=(.ok (.value v) w',es)) :
  stepG.apply P true fr cs none s w = .go (G (fr.finish v) cs) w' (seen P fr.fn es):=by
 have hk':(fr.kind == CallKind.early)=false:=by simpa using hk
 obtain ⟨hr,he⟩:=Zbf h
 rw [← he]
 simp [stepG.apply,hr,hk',GStep.after,G]
theorem ZjA {fr:Frame} {cs:List Frame} {s:Sem Next} {w w':World} {es:Array Event} (hk:fr.kind≠.early) (h:s.runT P w #[]=(.ok .skip w',es)) :
  stepG.apply P true fr cs none s w = .go (G (fr.finish undef) cs) w' (seen P fr.fn es):=by
 have hk':(fr.kind == CallKind.early)=false:=by simpa using hk
 obtain ⟨hr,he⟩:=Zbf h
 rw [← he]
 simp [stepG.apply,hr,hk',GStep.after,G]
theorem Zf3 {fr:Frame} {cs:List Frame} {s:Sem Next} {w w':World} {f:FuncId} {args:Array Value} {es:Array Event} (hk:fr.kind≠.early) (ht :∀a b c d r,fr.todo≠.call a b c d :: r) (h:s.runT P w #[]=(.ok (.enter f args) w',es)) :
  stepG.apply P true fr cs none s w = .go (G (Frame.enter P f args .normal) (fr :: cs)) w' (seen P fr.fn es):=by
 have hk':(fr.kind == CallKind.early)=false:=by simpa using hk
 obtain ⟨hr,he⟩:=Zbf h
 rw [← he]
 have hkd:(match fr.todo with | .call _ true _ _ :: _=>CallKind.wrapped | _=>.normal) = .normal:=by
  split
  ·rename_i h';exact absurd h' (ht _ _ _ _ _)
  ·rfl
 simp [stepG.apply,hr,hk',GStep.after,G]
 exact congrArg (Frame.enter P f args) hkd
theorem Zcx (hg:Zk ops S o.guard=some true) (hd:Zw n o.dst=true)
  (h :∀(ρ:Operand→Value),(∀x v,ev S x=some v→ρ x=v)→∀F:Cells,hb P (execOp ρ o) (yields P n o K S D F) B (L.flatten ++ F)) (hnd:Zid o.op=false:=by rfl):opX P n ops i o K S D B L:=⟨hd,fun C todo k T ho hn hT hA=>by
 refine C.X.step rfl fun w s=>?_
 obtain ⟨a,w',es,B',L',h1,h2,h3,h4⟩:=Zcq _ _ _ _ (h (evT T) (fun x v hx=>ZeL hT hx) C.F) w #[] s
 simp only [Array.empty_append] at h1
 rw [ZjL hnd ho (ZbW hT hg)]
 have hk:(fat C.b T D (.inRegion ops (i :: todo) :: k)).kind≠.early:=C.early
 cases a with
 | value v=>
  obtain ⟨LL,⟨gl,hp⟩,hK⟩:=h4
  refine ⟨_,w',_,B',L',ZnS hk h1,fun e he=>h2 e (ZbY he),h3,?_⟩
  rw [Zfm ho]
  exact C.X.drop hp (hA v D B' LL h3.le hK)
 | skip=>
  obtain ⟨LL,⟨gl,hp⟩,hK⟩:=h4
  refine ⟨_,w',_,B',L',ZjA hk h1,fun e he=>h2 e (ZbY he),h3,?_⟩
  rw [Zfm ho]
  exact C.X.drop hp (hA undef D B' LL h3.le hK)
 | _=>exact h4.elim⟩
theorem Zfx {dst:Option Tmp} {op:Op} {t:TypeId} {pos:String} {after:Array Edge} {g:Option (Nat × Bool)} (hg:Zk ops S g=some false) (hd:Zw n dst=true) (h:K undef D B L):opX P n ops i ⟨dst,op,t,pos,after,g⟩ K S D B L:=⟨hd,fun C todo k T ho hn hT hA=>by
 refine C.X.ctl rfl (fun w=>Zpg ho (ZbW (o:=⟨dst,op,t,pos,after,g⟩) hT hg)) ?_
 exact hA undef D B L (Kn.le.refl B) h⟩
theorem Zh {K:Zag} (h:opX P n ops i o (fun v D' B' L'=>K (ZbG S o.dst v) D' B' L') S D B L):opW P n ops i o K S D B L:=fun C todo k T ho hn hT hA=>
 h.2 C todo k T ho hn hT fun v D' B' L' hle hK=>hA _ D' B' L' _ hle hK (by rw [Zao,hn]) (hT.putT hn h.1 v)
end
end Go.BL
namespace Go.BL
section
variable {K:Zag} {Q:Exit→Zag} {S:Env} {D:List Deferred} {B:Kn} {L:List Cells} {id id':Nat}
theorem Zm (h:K S D B L):thn K Q .normal S D B L:=h
theorem Zj (h:Q .ret S D B L):thn K Q .ret S D B L:=h
theorem ZQ (h:Q (.exit id) S D B L):thn K Q (.exit id) S D B L:=h
theorem ZD (h:Q .normal S D B L):inB id Q .normal S D B L:=h
theorem Zt (h:Q .ret S D B L):inB id Q .ret S D B L:=h
theorem Zs (h:Q .normal S D B L):inB id Q (.exit id) S D B L:=by simpa [inB] using h
theorem Zfh (hb:Nat.beq id' id=false) (h:Q (.exit id') S D B L):inB id Q (.exit id') S D B L:=by simpa [inB,hb] using h
theorem Zxp {α:Type} {St:α→Env} {Lo:α→List Cells} {Iv:α→Kn→Prop} {μ:α→Nat} {D':List Deferred} {x:α} (h:Q .ret S D B L):rnd St Lo Iv μ D' x Q .ret S D B L:=h
theorem Zpl {α:Type} {St:α→Env} {Lo:α→List Cells} {Iv:α→Kn→Prop} {μ:α→Nat} {D':List Deferred} {x:α} (h:Q (.exit id) S D B L):rnd St Lo Iv μ D' x Q (.exit id) S D B L:=h
theorem Zpm {α:Type} {St:α→Env} {Lo:α→List Cells} {Iv:α→Kn→Prop} {μ:α→Nat} {x:α} (x':α) (hm:μ x'<μ x) (hi:Iv x' B) (hs:Sub (St x') S) (hl:L=Lo x'):rnd St Lo Iv μ D x Q .normal S D B L:=⟨x',hm,hi,hs,hl,rfl⟩
theorem Zz {P:PJ} {n:Nat} {c:Code} (S':Env) (L':List Cells) (hs:Sub S' S) (hl:L=L') (h:wpS P n c Q S' D B L'):wpS P n c Q S D B L:=by subst hl;exact Z0 S' hs h
end
end Go.BL
namespace Go.BL
open Go.Conc (G)
@[reducible] def str (l:List UInt8):Value:=.string ⟨l.toArray⟩
@[reducible] def int (x:Int):Value:=.int .i64 x
@[reducible] def ZP (b:Nat) (l:List Value) (T:TypeId):Cells:=[(b,.cells l.toArray T (0,0))]
@[reducible] def ptr (a:Addr):Value:=.pointer (some a)
def lk (P:Program) (t:TypeId):Option (Option Nat):=
 match P.underlying t,P.info? t with
 | some (.struct _),some i=>some (some i.size)
 | some (.array _ _),some i=>some (some i.size)
 | some _,some _=>some none
 | _,_=>none
def ZZ (P:Program) (t:TypeId):Option Value:=(P.info? t).bind (·.zero)
def ZG (P:Program) (t:TypeId):Option Nat:=(P.info? t).map (·.size)
def Zr (P:Program) (s:TypeId) (i:Nat):Option Nat:=
 match P.underlying s with
 | some (.struct fs)=>match fs[i]? with
  | some f=>match P.info? f.type with
   | some j=>if j.size=0 then none else some f.offset
   | none=>none
  | none=>none
 | _=>none
section
variable {P:Program} {α:Type} {Q:α→Kn→Cells→Prop} {B:Kn} {L:Cells}
theorem ZaT {Q:Program→Kn→Cells→Prop} : hb P program Q B L=Q P B L:=rfl
theorem Zo {Q:TypeDesc→Kn→Cells→Prop} {t:TypeId} {d:TypeDesc} (h:P.underlying t=some d):hb P (underlying t) Q B L=Q d B L:=by
 simp only [underlying,Zi,ZaT,h,Zp]
theorem Za7 {Q:TypeInfo→Kn→Cells→Prop} {t:TypeId} {i:TypeInfo} (h:P.info? t=some i):hb P (typeInfo t) Q B L=Q i B L:=by
 simp only [typeInfo,Zi,ZaT,h,Zp]
theorem ZaS {Q:Value→Kn→Cells→Prop} {t:TypeId} {v:Value} (h:ZZ P t=some v):hb P (zeroValue t) Q B L=Q v B L:=by
 simp only [ZZ,Option.bind_eq_some_iff] at h
 obtain ⟨i,hi,hz⟩:=h
 simp only [zeroValue,Zi,Za7 hi,hz,Zp]
theorem Z4 {Q:Nat→Kn→Cells→Prop} {t:TypeId} {n:Nat} (h:ZG P t=some n):hb P (sizeOf t) Q B L=Q n B L:=by
 simp only [ZG,Option.map_eq_some_iff] at h
 obtain ⟨i,hi,rfl⟩:=h
 simp only [sizeOf,Zi,Za7 hi,Zp]
theorem Znn {t:TypeId} (h:lk P t=some none) {Q:Bool→Kn→Cells→Prop} : hb P (isAgg t) Q B L=Q false B L:=by
 unfold lk at h
 cases hd:P.underlying t with
 | none=>rw [hd] at h;cases P.info? t <;> cases h
 | some d=>
  rw [hd] at h
  rw [isAgg,Zi,Zo hd]
  cases hi:P.info? t with
  | none=>rw [hi] at h;cases d <;> cases h
  | some i=>rw [hi] at h;cases d <;> first | rfl | cases h
theorem ZrW {t:TypeId} {n:Nat} (h:lk P t=some (some n)) {Q:Bool→Kn→Cells→Prop} : hb P (isAgg t) Q B L=Q true B L∧ZG P t=some n:=by
 unfold lk at h
 split at h
 ·rename_i fs i hd hi;simp only [Option.some.injEq] at h;exact ⟨by rw [isAgg,Zi,Zo hd];rfl,by simp [ZG,hi,h]⟩
 ·rename_i a e i hd hi;simp only [Option.some.injEq] at h;exact ⟨by rw [isAgg,Zi,Zo hd];rfl,by simp [ZG,hi,h]⟩
 ·cases h
 ·cases h
theorem Zkj {Q:Value→Kn→Cells→Prop} {a:Addr} {v:Value} (hc:ZaY B L a v) (h:Q v B L):hb P (load a) Q B L:=⟨rfl,v,hc,h⟩
theorem Zb0 {Q:Array Value→Kn→Cells→Prop} {a:Addr} :∀(vs:List Value) (i:Nat) (acc:Array Value),(∀j v,vs[j]? = some v→ZaY B L (a.add (i+j)) v)→Q (acc ++ vs.toArray) B L→
  hb P (loadCellsFrom a i vs.length acc) Q B L
 | [],i,acc,_,h=>by simp only [List.length_nil,loadCellsFrom,Zp];simpa using h
 | v :: vs,i,acc,hc,h=>by
  simp only [List.length_cons,loadCellsFrom,Zi]
  refine Zkj (hc 0 v (by simp)) ?_
  refine Zb0 vs (i+1) (acc.push v) (fun j u hj=>by have:=hc (j+1) u (by simpa using hj);rwa [show i+(j+1)=i+1+j from by omega] at this) ?_
  simpa using h
theorem ZfZ {Q:Value→Kn→Cells→Prop} {t:TypeId} {a:Addr} {v:Value} (hl:lk P t=some none) (hc:ZaY B L a v) (h:Q v B L):hb P (loadVar t a) Q B L:=by
 simp only [loadVar,Zi,Znn hl]
 exact Zkj hc h
theorem Zio {Q:Value→Kn→Cells→Prop} {t:TypeId} {a:Addr} {vs:List Value} (hl:lk P t=some (some vs.length)) (hc :∀j v,vs[j]? = some v→ZaY B L (a.add j) v) (h:Q (.agg vs.toArray) B L):hb P (loadVar t a) Q B L:=by
 simp only [loadVar,Zi,(ZrW hl).1,if_true,Z4 (ZrW (L:=L) (B:=B) (Q:=fun _ _ _=>True) hl).2,loadCells]
 refine Zb0 vs 0 #[] (fun j v hj=>by simpa using hc j v hj) ?_
 simp only [Zp]
 simpa using h
def Z7:List Value→Nat→List Value→List Value
 | l,_,[]=>l
 | [],_,_=>[]
 | _ :: l,0,v :: vs=>v :: Z7 l 0 vs
 | x :: l,i+1,vs=>x :: Z7 l i vs
theorem Zbh (l:List Value) (i:Nat):Z7 l i []=l:=by cases l <;> cases i <;> rfl
theorem ZcD :∀(l:List Value) (i:Nat) (v:Value) (vs:List Value),Z7 l i (v :: vs)=Z7 (l.set i v) (i+1) vs
 | [],i,v,vs=>by cases i <;> cases vs <;> rfl
 | x :: l,0,v,vs=>by
  cases vs with
  | nil=>simp [Z7,Zbh]
  | cons u us=>simp [Z7]
 | x :: l,i+1,v,vs=>by
  simp only [Z7,List.set_cons_succ]
  cases vs with
  | nil=>simp [Zbh,ZcD l i v []]
  | cons u us=>simp only [Z7];rw [ZcD l i v (u :: us)]
theorem ZjX {v:Value} {vs:List Value} (h:(v :: vs).all ZgO=true):ZgO v=true∧vs.all ZgO=true:=by simpa using h
theorem Zcp {Q:Unit→Kn→Cells→Prop} {a:Addr} (ha:a.spot=none) {T:TypeId} {L₁:Cells} :∀(vs:List Value) (i:Nat) (l:List Value) (L:Cells),vs.all ZgO=true→L.Perm ((a.block,.cells l.toArray T (0,0)) :: L₁)→a.off+i+vs.length≤l.length→
  (∀L',L'.Perm ((a.block,.cells (Z7 l (a.off+i) vs).toArray T (0,0)) :: L₁)→Q () B L')→hb P (storeCells a vs i) Q B L
 | [],i,l,L,_,hp,_,h=>by
  simp only [storeCells,Zp]
  exact h L (by rw [Zbh];exact hp)
 | v :: vs,i,l,L,h1,hp,hlen,h=>by
  simp only [storeCells,Zi]
  have hoff:(a.add i).off=a.off+i:=by unfold Addr.add;split <;> simp_all
  have hbl:(a.add i).block=a.block:=by unfold Addr.add;split <;> rfl
  have hsp:(a.add i).spot=none:=by unfold Addr.add;split <;> simp_all
  obtain ⟨hv,hvs⟩:=ZjX h1
  refine ⟨rfl,hv,hsp,l.toArray,T,(0,0),L₁,by rw [hbl];exact hp,by rw [hoff];simp only [List.size_toArray];simp only [List.length_cons] at hlen;omega,by simp,?_⟩
  rw [Zad]
  refine Zcp (T:=T) (L₁:=L₁) ha vs (i+1) (l.set (a.off+i) v) _ hvs (by rw [hbl,hoff];simp) (by simp only [List.length_set];simp only [List.length_cons] at hlen;omega) fun L' hp'=>h L' ?_
  rw [ZcD,Nat.add_assoc]
  exact hp'
end
@[reducible] def At (B:Kn) (L:List Cells) (a:Addr) (v:Value):Prop:=ZaY B L.flatten a v
theorem ZaY.app {B:Kn} {L F:Cells} {a:Addr} {v:Value} (h:ZaY B L a v):ZaY B (L ++ F) a v:=
 let ⟨h1,cs,T,fr,h2,h3⟩:=h;⟨h1,cs,T,fr,h2.imp id fun x=>List.mem_append.2 (.inl x),h3⟩
theorem atL {B:Kn} {L:List Cells} {a:Addr} {v:Value} {l:List Value} {T:TypeId} {fr:Nat × Nat} {r:Cells} (j:Nat) (hj:L[j]? = some ((a.block,.cells l.toArray T fr) :: r)) (hs:a.spot=none) (hv:l[a.off]? = some v):At B L a v:=
 ⟨hs,l.toArray,T,fr,.inr (List.mem_flatten.2 ⟨_,List.mem_of_getElem? hj,List.mem_cons_self ..⟩),by simpa using hv⟩
theorem atB {B:Kn} {L:List Cells} {a:Addr} {v:Value} {l:List Value} {T:TypeId} {fr:Nat × Nat} (h:B.mem a.block=some (.cells l.toArray T fr)) (hs:a.spot=none) (hv:l[a.off]? = some v):At B L a v:=
 ⟨hs,l.toArray,T,fr,.inl h,by simpa using hv⟩
@[reducible] def ZtD (B:Kn) (L:List Cells) (a:Addr) (vs:List Value):Prop:=∀j v,vs[j]? = some v→At B L (a.add j) v
theorem Addr.add_off (a:Addr) (i:Nat) (h:a.spot=none):a.add i=⟨a.block,a.off+i,none⟩:=by
 unfold Addr.add;split
 ·subst_vars;cases a;simp_all
 ·rfl
theorem ZbZ {B:Kn} {L:List Cells} {a:Addr} {l vs:List Value} {T:TypeId} {fr:Nat × Nat} {r:Cells} (j:Nat) (hj:L[j]? = some ((a.block,.cells l.toArray T fr) :: r)) (hs:a.spot=none) (hv:(l.drop a.off).take vs.length=vs):ZtD B L a vs:=by
 intro i v hi
 rw [Addr.add_off a i hs]
 refine ⟨rfl,l.toArray,T,fr,.inr (List.mem_flatten.2 ⟨_,List.mem_of_getElem? hj,List.mem_cons_self ..⟩),?_⟩
 have:vs[i]? = l[a.off+i]?:=by
  rw [← hv]
  have hlt:i<vs.length:=by
   rcases Nat.lt_or_ge i vs.length with h | h
   ·exact h
   ·rw [List.getElem?_eq_none h] at hi;cases hi
  rw [List.getElem?_take,if_pos hlt,List.getElem?_drop]
 simpa [this] using hi
section
variable {P:PJ} {n:Nat} {ops:Array Oper} {i:Nat} {K:ZaE} {S:Env} {D:List Deferred} {B:Kn} {L:List Cells}
variable {dst:Option Tmp} {ty:TypeId} {pos:String} {after:Array Edge} {g:Option (Nat × Bool)}
theorem ZE {op:Op} {v:Value} (hg:Zk ops S g=some true) (hd:Zw n dst=true)
  (hv :∀ρ:Operand→Value,(∀x u,ev S x=some u→ρ x=u)→∀(Q:Next→Kn→Cells→Prop) F,Q (.value v) B (L.flatten ++ F)→hb P (execOp ρ ⟨dst,op,ty,pos,after,g⟩) Q B (L.flatten ++ F))
  (h:K v D B L) (hnd:Zid op=false:=by rfl):opX P n ops i ⟨dst,op,ty,pos,after,g⟩ K S D B L:=
 Zcx hg hd (fun ρ hρ F=>hv ρ hρ _ F ⟨L,.of (.refl _),h⟩) hnd
theorem Za9 {x:Operand} {v:Value} (hg:Zk ops S g=some true) (hd:Zw n dst=true) (hx:ev S x=some v) (h:K v D B L):opX P n ops i ⟨dst,.move x,ty,pos,after,g⟩ K S D B L:=
 ZE hg hd (fun ρ hρ Q F q=>by show Q (.value (ρ x)) _ _;rw [hρ x v hx];exact q) h
theorem ZbF {x:Operand} {v:Value} (hg:Zk ops S g=some true) (hd:Zw n dst=true) (hx:ev S x=some v) (h:K v D B L):opX P n ops i ⟨dst,.assign x,ty,pos,after,g⟩ K S D B L:=
 ZE hg hd (fun ρ hρ Q F q=>by show Q (.value (ρ x)) _ _;rw [hρ x v hx];exact q) h
theorem ZjD {c a b:Operand} {v:Value} (hg:Zk ops S g=some true) (hd:Zw n dst=true) (hc:ev S c=some (.bool true)) (hx:ev S a=some v) (h:K v D B L):opX P n ops i ⟨dst,.pick c a b,ty,pos,after,g⟩ K S D B L:=
 ZE hg hd (fun ρ hρ Q F q=>by simp only [execOp,hρ c _ hc,asBool,Zi,Zp,if_true,hρ a _ hx];exact q) h
theorem ZjE {c a b:Operand} {v:Value} (hg:Zk ops S g=some true) (hd:Zw n dst=true) (hc:ev S c=some (.bool false)) (hx:ev S b=some v) (h:K v D B L):opX P n ops i ⟨dst,.pick c a b,ty,pos,after,g⟩ K S D B L:=
 ZE hg hd (fun ρ hρ Q F q=>by simp only [execOp,hρ c _ hc,asBool,Zi,Zp,if_false,Bool.false_eq_true,hρ b _ hx];exact q) h
theorem ZkX {x:Operand} {ix:Nat} {vs:List Value} {v:Value} (hg:Zk ops S g=some true) (hd:Zw n dst=true) (hx:ev S x=some (.tuple vs.toArray)) (hi:vs[ix]? = some v) (h:K v D B L):opX P n ops i ⟨dst,.extract x ix,ty,pos,after,g⟩ K S D B L:=
 ZE hg hd (fun ρ hρ Q F q=>by simp only [execOp,Instr.extract,hρ x _ hx,List.getElem?_toArray,hi,Zi,Zp];exact q) h
theorem Zy5 {x:Operand} {b:Bool} {t:TypeId} (hg:Zk ops S g=some true) (hd:Zw n dst=true) (hx:ev S x=some (.bool b)) (h:K (.bool (!b)) D B L):opX P n ops i ⟨dst,.unOp .not t x,ty,pos,after,g⟩ K S D B L:=
 ZE hg hd (fun ρ hρ Q F q=>by simp only [execOp,hρ x _ hx,Op.unary,Zi,Zp];exact q) h
theorem ZaF {x:Operand} {a:Addr} (hg:Zk ops S g=some true) (hd:Zw n dst=true) (hx:ev S x=some (.pointer (some a))) (h:K (.pointer (some a)) D B L):opX P n ops i ⟨dst,.nilCheck x,ty,pos,after,g⟩ K S D B L:=
 ZE hg hd (fun ρ hρ Q F q=>by simp only [execOp,hρ x _ hx,Zp];exact q) h
theorem Z8 {op:BinOp} {t:TypeId} {x y:Operand} {a b:Value} {Q:Unit→Kn→Cells→Prop} {L:Cells} (ha:(match a,b with | .nilIface,.nilIface=>false | .agg _,.agg _=>false | _,_=>true)=true):hb P (eqGuard op t x y a b) Q B L=Q () B L:=by
 unfold eqGuard
 cases a <;> cases b <;> simp only [Bool.false_eq_true] at ha <;> cases op <;> rfl
section binary
variable {t u:TypeId} {x y:Operand} {k:IntKind} {a b r:Int}
theorem ZmL {op:BinOp} (hg:Zk ops S g=some true) (hd:Zw n dst=true) (hx:ev S x=some (.int k a)) (hy:ev S y=some (.int k b))
  (hr:(match op with | .add=>some (k.wrap (a+b)) | .sub=>some (k.wrap (a - b)) | .mul=>some (k.wrap (a*b)) | _=>none)=some r) (h:K (.int k r) D B L):opX P n ops i ⟨dst,.binOp op t x y u,ty,pos,after,g⟩ K S D B L:=
 ZE hg hd (fun ρ hρ Q F q=>by
  cases op <;> simp only [Option.some.injEq,reduceCtorEq] at hr <;> subst hr <;>
   (simp only [execOp,hρ x _ hx,hρ y _ hy,Zi,Z8,binOp,ne_eq,not_true_eq_false,if_false,Op.intArith,Zp];exact q)) h
theorem ZeM (hg:Zk ops S g=some true) (hd:Zw n dst=true) (hx:ev S x=some (.int k a)) (hy:ev S y=some (.int k b)) (hr:k.wrap (a+b)=r) (h:K (.int k r) D B L):opX P n ops i ⟨dst,.binOp .add t x y u,ty,pos,after,g⟩ K S D B L:=
 ZmL hg hd hx hy (by rw [hr]) h
theorem ZiO (hg:Zk ops S g=some true) (hd:Zw n dst=true) (hx:ev S x=some (.int k a)) (hy:ev S y=some (.int k b)) (hr:k.wrap (a - b)=r) (h:K (.int k r) D B L):opX P n ops i ⟨dst,.binOp .sub t x y u,ty,pos,after,g⟩ K S D B L:=
 ZmL hg hd hx hy (by rw [hr]) h
theorem ZjF (hg:Zk ops S g=some true) (hd:Zw n dst=true) (hx:ev S x=some (.int k a)) (hy:ev S y=some (.int k b)) (hr:k.wrap (a*b)=r) (h:K (.int k r) D B L):opX P n ops i ⟨dst,.binOp .mul t x y u,ty,pos,after,g⟩ K S D B L:=
 ZmL hg hd hx hy (by rw [hr]) h
theorem Zo4 (hg:Zk ops S g=some true) (hd:Zw n dst=true) (hx:ev S x=some (.int k a)) (hy:ev S y=some (.int k b)) (h0:b≠0) (hr:k.wrap (a.tdiv b)=r) (h:K (.int k r) D B L):opX P n ops i ⟨dst,.binOp .quo t x y u,ty,pos,after,g⟩ K S D B L:=
 ZE hg hd (fun ρ hρ Q F q=>by
  simp only [execOp,hρ x _ hx,hρ y _ hy,Zi,Z8,binOp,ne_eq,not_true_eq_false,if_false,Op.intDiv,h0,Zp,hr];exact q) h
theorem ZqA (hg:Zk ops S g=some true) (hd:Zw n dst=true) (hx:ev S x=some (.int k a)) (hy:ev S y=some (.int k b)) (h0:b≠0) (hr:a.tmod b=r) (h:K (.int k r) D B L):opX P n ops i ⟨dst,.binOp .rem t x y u,ty,pos,after,g⟩ K S D B L:=
 ZE hg hd (fun ρ hρ Q F q=>by
  simp only [execOp,hρ x _ hx,hρ y _ hy,Zi,Z8,binOp,ne_eq,not_true_eq_false,if_false,Op.intDiv,h0,Zp,hr];exact q) h
theorem Zy8 (hg:Zk ops S g=some true) (hd:Zw n dst=true) (hx:ev S x=some (.int k a)) (hy:ev S y=some (.int k b)) (h:K (.bool (decide (a<b))) D B L):opX P n ops i ⟨dst,.binOp .lss t x y u,ty,pos,after,g⟩ K S D B L:=
 ZE hg hd (fun ρ hρ Q F q=>by simp only [execOp,hρ x _ hx,hρ y _ hy,Zi,Z8,binOp,ne_eq,not_true_eq_false,if_false,Op.intCmp,Zp];exact q) h
theorem Zy9 (hg:Zk ops S g=some true) (hd:Zw n dst=true) (hx:ev S x=some (.int k a)) (hy:ev S y=some (.int k b)) (h:K (.bool (decide (a≤b))) D B L):opX P n ops i ⟨dst,.binOp .leq t x y u,ty,pos,after,g⟩ K S D B L:=
 ZE hg hd (fun ρ hρ Q F q=>by simp only [execOp,hρ x _ hx,hρ y _ hy,Zi,Z8,binOp,ne_eq,not_true_eq_false,if_false,Op.intCmp,Zp];exact q) h
theorem Zzc (hg:Zk ops S g=some true) (hd:Zw n dst=true) (hx:ev S x=some (.int k a)) (hy:ev S y=some (.int k b)) (h:K (.bool (decide (b<a))) D B L):opX P n ops i ⟨dst,.binOp .gtr t x y u,ty,pos,after,g⟩ K S D B L:=
 ZE hg hd (fun ρ hρ Q F q=>by simp only [execOp,hρ x _ hx,hρ y _ hy,Zi,Z8,binOp,ne_eq,not_true_eq_false,if_false,Op.intCmp,Zp];exact q) h
theorem Zzd (hg:Zk ops S g=some true) (hd:Zw n dst=true) (hx:ev S x=some (.int k a)) (hy:ev S y=some (.int k b)) (h:K (.bool (decide (b≤a))) D B L):opX P n ops i ⟨dst,.binOp .geq t x y u,ty,pos,after,g⟩ K S D B L:=
 ZE hg hd (fun ρ hρ Q F q=>by simp only [execOp,hρ x _ hx,hρ y _ hy,Zi,Z8,binOp,ne_eq,not_true_eq_false,if_false,Op.intCmp,Zp];exact q) h
theorem Zwi (hg:Zk ops S g=some true) (hd:Zw n dst=true) (hx:ev S x=some (.int k a)) (hy:ev S y=some (.int k b)) (h:K (.bool (decide (a=b))) D B L):opX P n ops i ⟨dst,.binOp .eql t x y u,ty,pos,after,g⟩ K S D B L:=
 ZE hg hd (fun ρ hρ Q F q=>by
  have e:(a == b)=decide (a=b):=by rw [Bool.eq_iff_iff];simp
  simp only [execOp,hρ x _ hx,hρ y _ hy,Zi,Z8,binOp,ne_eq,not_true_eq_false,if_false,Op.intCmp,Zp,e];exact q) h
theorem ZqC (hg:Zk ops S g=some true) (hd:Zw n dst=true) (hx:ev S x=some (.int k a)) (hy:ev S y=some (.int k b)) (h:K (.bool (decide (a≠b))) D B L):opX P n ops i ⟨dst,.binOp .neq t x y u,ty,pos,after,g⟩ K S D B L:=
 ZE hg hd (fun ρ hρ Q F q=>by
  have e:(a != b)=decide (a≠b):=by rw [Bool.eq_iff_iff];simp
  simp only [execOp,hρ x _ hx,hρ y _ hy,Zi,Z8,binOp,not_true_eq_false,ne_eq,if_false,Op.intCmp,Zp,e];exact q) h
end binary
end
end Go.BL
namespace Go.BL
open Go.Conc (G)
section
variable {P:PJ} {n:Nat} {ops:Array Oper} {i:Nat} {K:ZaE} {S:Env} {D:List Deferred} {B:Kn} {L:List Cells}
variable {dst:Option Tmp} {ty:TypeId} {pos:String} {after:Array Edge} {g:Option (Nat × Bool)}
theorem Zef (L:List Cells) (s F:Cells):(s ++ (L.flatten ++ F)).Perm ((L ++ [s]).flatten ++ F):=by
 simp only [List.flatten_append,List.flatten_cons,List.flatten_nil,List.append_nil,List.append_assoc]
 exact List.perm_append_comm_assoc s L.flatten F
theorem ZeR {t:TypeId} {z:Value} {l:List Value} (hg:Zk ops S g=some true) (hd:Zw n dst=true) (hz:ZZ P t=some z) (hl:z.cells=l.toArray)
  (h :∀b,K (ptr ⟨b,0,none⟩) D B (L ++ [ZP b l t])):opX P n ops i ⟨dst,.alloc t,ty,pos,after,g⟩ K S D B L:=
 Zcx hg hd fun ρ hρ F=>by
  simp only [execOp,Instr.alloc,Zi,ZaS hz,Zp]
  refine ⟨rfl,fun b _ _=>?_⟩
  refine ⟨L ++ [ZP b l t],?_,h b⟩
  rw [hl]
  exact .of (Zef L (ZP b l t) F)
theorem ZqJ {t:TypeId} {x:Operand} {v:Value} {l:List Value} (hg:Zk ops S g=some true) (hd:Zw n dst=true) (hx:ev S x=some v) (hl:v.cells=l.toArray)
  (h :∀b,K (ptr ⟨b,0,none⟩) D B (L ++ [ZP b l t])):opX P n ops i ⟨dst,.box t x,ty,pos,after,g⟩ K S D B L:=
 Zcx hg hd fun ρ hρ F=>by
  simp only [execOp,Instr.box,Zi,hρ x _ hx,Zp]
  refine ⟨rfl,fun b _ _=>?_⟩
  refine ⟨L ++ [ZP b l t],?_,h b⟩
  rw [hl]
  exact .of (Zef L (ZP b l t) F)
theorem Zn {t:TypeId} {x:Operand} {a:Addr} {v:Value} (hg:Zk ops S g=some true) (hd:Zw n dst=true) (hl:lk P t=some none) (hx:ev S x=some (ptr a)) (hc:At B L a v)
  (h:K v D B L):opX P n ops i ⟨dst,.load t x,ty,pos,after,g⟩ K S D B L:=
 ZE hg hd (fun ρ hρ Q F q=>by
  simp only [execOp,Instr.loadAt,Instr.sureAddr,hρ x _ hx,Zi,Zp]
  exact ZfZ hl hc.app q) h
theorem ZI {t:TypeId} {x:Operand} {a:Addr} (vs:List Value) (hg:Zk ops S g=some true) (hd:Zw n dst=true) (hl:lk P t=some (some vs.length)) (hx:ev S x=some (ptr a)) (hc:ZtD B L a vs)
  (h:K (.agg vs.toArray) D B L):opX P n ops i ⟨dst,.load t x,ty,pos,after,g⟩ K S D B L:=
 ZE hg hd (fun ρ hρ Q F q=>by
  simp only [execOp,Instr.loadAt,Instr.sureAddr,hρ x _ hx,Zi,Zp]
  exact Zio hl (fun j v hj=>(hc j v hj).app) q) h
theorem Zac {s:TypeId} {x:Operand} {fi off:Nat} {a:Addr} (hg:Zk ops S g=some true) (hd:Zw n dst=true) (hf:Zr P s fi=some off) (hx:ev S x=some (ptr a))
  (h:K (ptr (a.add off)) D B L):opX P n ops i ⟨dst,.fieldAddr s x fi,ty,pos,after,g⟩ K S D B L:=
 ZE hg hd (fun ρ hρ Q F q=>by
  unfold Zr at hf
  split at hf
  ·rename_i fs hu
   split at hf
   ·rename_i f hfi
    split at hf
    ·rename_i j hj
     split at hf
     ·cases hf
     ·rename_i hsz
      simp only [Option.some.injEq] at hf
      have hs:ZG P f.type=some j.size:=by simp [ZG,hj]
      simp only [execOp,Instr.fieldAt,Instr.sureAddr,hρ x _ hx,Zi,Zp,Zo hu,hfi,fieldPlace,Z4 hs,hsz,if_false,hf]
      exact q
    ·cases hf
   ·cases hf
  ·cases hf) h
theorem Zav {t:TypeId} {x y:Operand} {a:Addr} {v:Value} (vs:List Value) {l:List Value} {T:TypeId} {r:Cells} (j:Nat) (l':List Value) (hg:Zk ops S g=some true) (hd:Zw n dst=true) (hsz:ZG P t=some vs.length)
  (hx:ev S x=some (ptr a)) (hy:ev S y=some v) (hv:v.cells=vs.toArray) (ho:vs.all ZgO=true) (hj:L[j]? = some ((a.block,.cells l.toArray T (0,0)) :: r)) (hs:a.spot=none) (hlen:Nat.ble (a.off+vs.length) l.length=true) (hl':Z7 l a.off vs=l')
  (h:K undef D B (L.set j ((a.block,.cells l'.toArray T (0,0)) :: r))):opX P n ops i ⟨dst,.store t x y,ty,pos,after,g⟩ K S D B L:=
 Zcx hg hd fun ρ hρ F=>by
  obtain ⟨rr,h1,h2⟩:=ZT F ((a.block,.cells l'.toArray T (0,0)) :: r) hj
  have hcs:v.cells.size=vs.length:=by rw [hv];simp
  simp only [execOp,Instr.storeAt,Instr.sureAddr,hρ x _ hx,hρ y _ hy,Zi,Zp,storeVar,Z4 hsz,hcs,ne_eq,not_true_eq_false,if_false]
  rw [hv]
  refine Zcp (T:=T) (L₁:=r ++ rr) hs vs 0 l _ ho (by simpa using h1) (by simpa using Nat.le_of_ble_eq_true hlen) fun L' hp=>?_
  refine ⟨_,?_,h⟩
  rw [Nat.add_zero,hl'] at hp
  exact .of (hp.trans (by simpa using h2.symm))
theorem Za4 {k:IntKind} {a:Int} {y:Nat} {code:BoundsCode} {Q:Nat→Kn→Cells→Prop} {L:Cells} (h0:0≤a) (h1:a≤y):hb P (Instr.sliceBound (.int k a) y code) Q B L=Q a.toNat B L:=by
 simp only [Instr.sliceBound,asIntOf,Zi,Zp,h0,h1,and_self,if_true]
theorem Zb3 {t e:TypeId} {x y:Operand} {k:IntKind} {a:Addr} {len cap sz:Nat} {ix:Int} (hg:Zk ops S g=some true) (hd:Zw n dst=true) (hu:P.underlying t=some (.slice e)) (hsz:ZG P e=some sz)
  (hx:ev S x=some (.slice (some a) len cap)) (hy:ev S y=some (.int k ix)) (h0:0≤ix) (h1:ix<len) (h:K (ptr (a.add (ix.toNat*sz))) D B L):opX P n ops i ⟨dst,.indexAddr t x y,ty,pos,after,g⟩ K S D B L:=
 ZE hg hd (fun ρ hρ Q F q=>by
  simp only [execOp,Instr.indexAt,asIntOf,hρ x _ hx,hρ y _ hy,Zi,Zp,Zo hu,h0,h1,and_self,if_true,Z4 hsz]
  exact q) h
theorem Zo5 {t e:TypeId} {x y:Operand} {k:IntKind} {a:Addr} {len sz:Nat} {ix:Int} (hg:Zk ops S g=some true) (hd:Zw n dst=true) (hu:P.underlying t=some (.array len e)) (hsz:ZG P e=some sz)
  (hx:ev S x=some (ptr a)) (hy:ev S y=some (.int k ix)) (h0:0≤ix) (h1:ix<len) (h:K (ptr (a.add (ix.toNat*sz))) D B L):opX P n ops i ⟨dst,.indexAddr t x y,ty,pos,after,g⟩ K S D B L:=
 ZE hg hd (fun ρ hρ Q F q=>by
  simp only [execOp,Instr.indexAt,Instr.sureAddr,asIntOf,hρ x _ hx,hρ y _ hy,Zi,Zp,Zo hu,h0,h1,and_self,if_true,Z4 hsz]
  exact q) h
theorem ZvH (l:List UInt8) (j:Nat):(ByteArray.mk l.toArray)[j]? = l[j]?:=by
 show (if h:j<(ByteArray.mk l.toArray).size then some ((ByteArray.mk l.toArray)[j]) else none)=_
 have hs:(ByteArray.mk l.toArray).size=l.length:=by simp [ByteArray.size]
 by_cases h:j<l.length
 ·rw [dif_pos (by rw [hs];exact h),List.getElem?_eq_getElem h];rfl
 ·rw [dif_neg (by rw [hs];exact h),List.getElem?_eq_none (by omega)]
theorem Zda (l:List UInt8):(ByteArray.mk l.toArray).size=l.length:=by simp [ByteArray.size]
theorem Zeq (l:List UInt8) (a b:Nat):(ByteArray.mk l.toArray).extract a b=⟨((l.take b).drop a).toArray⟩:=by
 apply ByteArray.ext
 apply Array.ext'
 rw [ByteArray.data_extract]
 simp [List.extract_eq_take_drop,List.drop_take]
theorem Zpe (a b:List UInt8):(ByteArray.mk a.toArray) ++ (ByteArray.mk b.toArray)=⟨(a ++ b).toArray⟩:=by
 apply ByteArray.ext
 simp
theorem Zba {t:TypeId} {x y:Operand} {k:IntKind} {l:List UInt8} {ix:Int} {c:UInt8} (hg:Zk ops S g=some true) (hd:Zw n dst=true) (hu:P.underlying t=some .string)
  (hx:ev S x=some (str l)) (hy:ev S y=some (.int k ix)) (h0:0≤ix) (h1:l[ix.toNat]? = some c) (h:K (.int .u8 c.toNat) D B L):opX P n ops i ⟨dst,.index t x y,ty,pos,after,g⟩ K S D B L:=
 ZE hg hd (fun ρ hρ Q F q=>by
  simp only [execOp,Instr.index,asIntOf,hρ x _ hx,hρ y _ hy,Zi,Zp,Zo hu,h0,if_true,ZvH,h1]
  exact q) h
theorem ZbX {t:TypeId} {x:Operand} {lo hi:Option Operand} {l:List UInt8} {a b:Nat} (hg:Zk ops S g=some true) (hd:Zw n dst=true) (hu:P.underlying t=some .string)
  (hx:ev S x=some (str l)) (hlo:match lo with | none=>a=0 | some o=>∃k,∃z:Int,ev S o=some (.int k z)∧z=a) (hhi:match hi with | none=>b=l.length | some o=>∃k,∃z:Int,ev S o=some (.int k z)∧z=b) (hab:a≤b) (hb':b≤l.length)
  (h:K (str ((l.take b).drop a)) D B L):opX P n ops i ⟨dst,.slice t x lo hi none,ty,pos,after,g⟩ K S D B L:=
 ZE hg hd (fun ρ hρ Q F q=>by
  have e1:(Zda l)=Zda l:=rfl
  cases lo with
  | none=>
   obtain rfl:a=0:=hlo
   cases hi with
   | none=>
    obtain rfl:b=l.length:=hhi
    simp only [execOp,Instr.sliceAt,Instr.slice,hρ x _ hx,Zi,Zp,Zo hu,Option.map_none,Option.isSome_none,Bool.false_eq_true,if_false,Instr.sliceBounds,Zda,Zeq]
    exact q
   | some o=>
    obtain ⟨k,z,hz,rfl⟩:=hhi
    simp only [execOp,Instr.sliceAt,Instr.slice,hρ x _ hx,hρ o _ hz,Zi,Zp,Zo hu,Option.map_none,Option.map_some,Option.isSome_none,Bool.false_eq_true,if_false,Instr.sliceBounds,Zda,Zeq]
    rw [Za4 (by omega) (by omega)]
    simp only [Zi,Zp,Int.toNat_natCast]
    exact q
  | some p=>
   obtain ⟨k',y,hy,rfl⟩:=hlo
   cases hi with
   | none=>
    obtain rfl:b=l.length:=hhi
    simp only [execOp,Instr.sliceAt,Instr.slice,hρ x _ hx,hρ p _ hy,Zi,Zp,Zo hu,Option.map_none,Option.map_some,Option.isSome_none,Bool.false_eq_true,if_false,Instr.sliceBounds,Zda,Zeq]
    rw [Za4 (by omega) (by omega)]
    simp only [Zi,Zp,Int.toNat_natCast]
    exact q
   | some o=>
    obtain ⟨k,z,hz,rfl⟩:=hhi
    simp only [execOp,Instr.sliceAt,Instr.slice,hρ x _ hx,hρ o _ hz,hρ p _ hy,Zi,Zp,Zo hu,Option.map_none,Option.map_some,Option.isSome_none,Bool.false_eq_true,if_false,Instr.sliceBounds,Zda,Zeq]
    rw [Za4 (by omega) (by omega)]
    simp only [Zi,Int.toNat_natCast]
    rw [Za4 (by omega) (by omega)]
    simp only [Zi,Zp,Int.toNat_natCast]
    exact q) h
theorem Zn1 {t e:TypeId} {x:Operand} {lo hi:Option Operand} {p:Option Addr} {len cap sz:Nat} {a b:Nat} (hg:Zk ops S g=some true) (hd:Zw n dst=true) (hu:P.underlying t=some (.slice e)) (hsz:ZG P e=some sz)
  (hx:ev S x=some (.slice p len cap)) (hlo:match lo with | none=>a=0 | some o=>∃k,∃z:Int,ev S o=some (.int k z)∧z=a) (hhi:match hi with | none=>b=len | some o=>∃k,∃z:Int,ev S o=some (.int k z)∧z=b) (hab:a≤b) (hb':b≤cap)
  (h:K (.slice (if cap=a then p else p.map (·.add (a*sz))) (b - a) (cap - a)) D B L):opX P n ops i ⟨dst,.slice t x lo hi none,ty,pos,after,g⟩ K S D B L:=
 ZE hg hd (fun ρ hρ Q F q=>by
  cases lo with
  | none=>
   obtain rfl:a=0:=hlo
   cases hi with
   | none=>
    obtain rfl:b=len:=hhi
    simp only [execOp,Instr.sliceAt,Instr.slice,hρ x _ hx,Zi,Zp,Zo hu,Option.map_none,Instr.sliceBounds,Z4 hsz]
    exact q
   | some o=>
    obtain ⟨k,z,hz,rfl⟩:=hhi
    simp only [execOp,Instr.sliceAt,Instr.slice,hρ x _ hx,hρ o _ hz,Zi,Zp,Zo hu,Option.map_none,Option.map_some,Instr.sliceBounds,Z4 hsz]
    rw [Za4 (by omega) (by omega)]
    simp only [Zi,Zp,Int.toNat_natCast,Z4 hsz]
    exact q
  | some r=>
   obtain ⟨k',y,hy,rfl⟩:=hlo
   cases hi with
   | none=>
    obtain rfl:b=len:=hhi
    simp only [execOp,Instr.sliceAt,Instr.slice,hρ x _ hx,hρ r _ hy,Zi,Zp,Zo hu,Option.map_none,Option.map_some,Instr.sliceBounds,Z4 hsz]
    rw [Za4 (by omega) (by omega)]
    simp only [Zi,Zp,Int.toNat_natCast,Z4 hsz]
    exact q
   | some o=>
    obtain ⟨k,z,hz,rfl⟩:=hhi
    simp only [execOp,Instr.sliceAt,Instr.slice,hρ x _ hx,hρ o _ hz,hρ r _ hy,Zi,Zp,Zo hu,Option.map_none,Option.map_some,Instr.sliceBounds,Z4 hsz]
    rw [Za4 (by omega) (by omega)]
    simp only [Zi,Int.toNat_natCast]
    rw [Za4 (by omega) (by omega)]
    simp only [Zi,Zp,Int.toNat_natCast,Z4 hsz]
    exact q) h
section calls
variable {args:Array Operand} {ats:Array TypeId}
theorem Zwf {x:Operand} {t:TypeId} {l:List UInt8} (hg:Zk ops S g=some true) (hd:Zw n dst=true) (hu:P.underlying t=some .string) (hx:ev S x=some (str l)) (h:K (.int .i64 l.length) D B L) :
  opX P n ops i ⟨dst,.call ⟨.builtin .len,#[x],#[t]⟩,ty,pos,after,g⟩ K S D B L:=
 ZE hg hd (fun ρ hρ Q F q=>by
  simp only [execOp,resolve,Zi,Zp,invoke,builtin,Builtin.len_,List.map_toArray,List.map_cons,List.map_nil,hρ x _ hx,List.getElem?_toArray,List.getElem?_cons_zero,Zo hu,goInt,Zda]
  exact q) h
theorem Zwe {x:Operand} {t e:TypeId} {p:Option Addr} {len cap:Nat} (hg:Zk ops S g=some true) (hd:Zw n dst=true) (hu:P.underlying t=some (.slice e)) (hx:ev S x=some (.slice p len cap)) (h:K (.int .i64 len) D B L) :
  opX P n ops i ⟨dst,.call ⟨.builtin .len,#[x],#[t]⟩,ty,pos,after,g⟩ K S D B L:=
 ZE hg hd (fun ρ hρ Q F q=>by
  simp only [execOp,resolve,Zi,Zp,invoke,builtin,Builtin.len_,List.map_toArray,List.map_cons,List.map_nil,hρ x _ hx,List.getElem?_toArray,List.getElem?_cons_zero,Zo hu,goInt]
  exact q) h
end calls
section strings
variable {t u:TypeId} {x y:Operand} {a b:List UInt8}
theorem Zzi (hg:Zk ops S g=some true) (hd:Zw n dst=true) (hx:ev S x=some (str a)) (hy:ev S y=some (str b)) (hlen:a.length+b.length≤9223372036854775807) (h:K (str (a ++ b)) D B L):opX P n ops i ⟨dst,.binOp .add t x y u,ty,pos,after,g⟩ K S D B L:=
 ZE hg hd (fun ρ hρ Q F q=>by
  have hno : ¬ ((((ByteArray.mk a.toArray).size+(ByteArray.mk b.toArray).size:Nat):Int) > IntKind.i64.max):=by
   rw [Zda,Zda];simp only [IntKind.max,IntKind.signed,IntKind.bits];omega
  simp only [execOp,hρ x _ hx,hρ y _ hy,Zi,Z8,binOp,Op.stringOp,hno,if_false,Zp,Zpe]
  exact q) h
theorem Zwh (hg:Zk ops S g=some true) (hd:Zw n dst=true) (hx:ev S x=some (str a)) (hy:ev S y=some (str b)) (h:K (.bool (decide (a=b))) D B L):opX P n ops i ⟨dst,.binOp .eql t x y u,ty,pos,after,g⟩ K S D B L:=
 ZE hg hd (fun ρ hρ Q F q=>by
  have e:(a == b)=decide (a=b):=by rw [Bool.eq_iff_iff];simp
  simp only [execOp,hρ x _ hx,hρ y _ hy,Zi,Z8,binOp,Op.stringOp,ByteArray.toList_mk,Zp,e]
  exact q) h
theorem Zwa (hg:Zk ops S g=some true) (hd:Zw n dst=true) (hx:ev S x=some (str a)) (hy:ev S y=some (str b)) (h:K (.bool (decide (a≠b))) D B L):opX P n ops i ⟨dst,.binOp .neq t x y u,ty,pos,after,g⟩ K S D B L:=
 ZE hg hd (fun ρ hρ Q F q=>by
  have e:(!(a == b))=decide (a≠b):=by rw [Bool.eq_iff_iff];simp
  simp only [execOp,hρ x _ hx,hρ y _ hy,Zi,Z8,binOp,Op.stringOp,ByteArray.toList_mk,Zp,e]
  exact q) h
theorem Zwd (hg:Zk ops S g=some true) (hd:Zw n dst=true) (hx:ev S x=some (str a)) (hy:ev S y=some (str b)) (h:K (.bool (Op.bytesLess a b || decide (a=b))) D B L):opX P n ops i ⟨dst,.binOp .leq t x y u,ty,pos,after,g⟩ K S D B L:=
 ZE hg hd (fun ρ hρ Q F q=>by
  have e:(a == b)=decide (a=b):=by rw [Bool.eq_iff_iff];simp
  simp only [execOp,hρ x _ hx,hρ y _ hy,Zi,Z8,binOp,Op.stringOp,ByteArray.toList_mk,Zp,e]
  exact q) h
theorem Zy7 (hg:Zk ops S g=some true) (hd:Zw n dst=true) (hx:ev S x=some (str a)) (hy:ev S y=some (str b)) (h:K (.bool (Op.bytesLess a b)) D B L):opX P n ops i ⟨dst,.binOp .lss t x y u,ty,pos,after,g⟩ K S D B L:=
 ZE hg hd (fun ρ hρ Q F q=>by
  simp only [execOp,hρ x _ hx,hρ y _ hy,Zi,Z8,binOp,Op.stringOp,ByteArray.toList_mk,Zp]
  exact q) h
theorem Zwg (hg:Zk ops S g=some true) (hd:Zw n dst=true) (hx:ev S x=some (str a)) (hy:ev S y=some (str b)) (h:K (.bool (!Op.bytesLess a b)) D B L):opX P n ops i ⟨dst,.binOp .geq t x y u,ty,pos,after,g⟩ K S D B L:=
 ZE hg hd (fun ρ hρ Q F q=>by
  simp only [execOp,hρ x _ hx,hρ y _ hy,Zi,Z8,binOp,Op.stringOp,ByteArray.toList_mk,Zp]
  exact q) h
end strings
theorem Zq {K:Zag} {o:Oper} {l:List Oper} {d:Nat} {t:Bool} (hb:get S d=some (.bool t)) (h1:t=true→Zql P n ops i (o :: l) K ((d,.bool true) :: S) D B L) (h2:t=false→Zql P n ops i (o :: l) K ((d,.bool false) :: S) D B L):Zql P n ops i (o :: l) K S D B L:=by
 have key :∀(S':Env),(∀i v,get S' i=some v→get S i=some v)→Zql P n ops i (o :: l) K S' D B L→Zql P n ops i (o :: l) K S D B L:=
  fun S' hs h C todo k T ho hn hT hA=>h C todo k T ho hn (fun i v hv=>hT i v (hs i v hv)) hA
 have get_same :∀(u:Bool),t=u→∀i v,get ((d,Value.bool u) :: S) i=some v→get S i=some v:=by
  intro u hu i v hv
  simp only [get] at hv
  cases hbe:Nat.beq d i with
  | true=>
   rw [hbe] at hv
   simp only [cond_true,Option.some.injEq] at hv
   have:=Nat.eq_of_beq_eq_true hbe
   subst this;subst hu;rw [hb,← hv]
  | false=>rw [hbe] at hv;exact hv
 cases t with
 | true=>exact key _ (get_same true rfl) (h1 rfl)
 | false=>exact key _ (get_same false rfl) (h2 rfl)
end
end Go.BL
namespace Go.BL
open Go.Conc (G)
def Bk (kind:CallKind) (c:Frame):Prop:=kind = .normal∨(kind = .deferred∧(c.mode = .returning∨c.mode = .panicking [goexitEntry]))
def Zej (kind:CallKind) (c:Frame) (v:Value):Frame:=match kind with | .deferred=>c | _=>c.finish v
def Zu (P:PJ) (f:FuncId) (args:List Value) (B:Kn) (Ls:List Cells) (Post:Value→Kn→List Cells→Prop):Prop:=
∀(X:Lg P) (kind:CallKind) (c:Frame) (cs:List Frame) (F:Cells),Bk kind c→
  (∀v B' Ls',B.le B'→Post v B' Ls'→X.R (G (Zej kind c v) cs) B' (Ls'.flatten ++ F))→X.R (G (Frame.enter P f args.toArray kind) (c :: cs)) B (Ls.flatten ++ F)
theorem Zu.mono {P:PJ} {f:FuncId} {args:List Value} {B:Kn} {Ls:List Cells} {Post Post':Value→Kn→List Cells→Prop} (h:Zu P f args B Ls Post) (hp :∀v B' Ls',B.le B'→Post v B' Ls'→Post' v B' Ls'):Zu P f args B Ls Post':=
 fun X kind c cs F hk hA=>h X kind c cs F hk fun v B' Ls' hle hq=>hA v B' Ls' hle (hp v B' Ls' hle hq)
def ZdA:List Value→Nat→Env
 | [],_=>[]
 | v :: vs,i=>(i,v) :: ZdA vs (i+1)
theorem Zdl :∀(vs:List Value) (i j:Nat) (v:Value),get (ZdA vs i) j=some v→i≤j∧vs[j - i]? = some v
 | [],i,j,v,h=>by cases h
 | u :: vs,i,j,v,h=>by
  simp only [ZdA,get] at h
  cases hb:Nat.beq i j with
  | true=>
   rw [hb] at h
   have:=Nat.eq_of_beq_eq_true hb
   subst this
   simp only [cond_true,Option.some.injEq] at h
   exact ⟨Nat.le_refl _,by simp [h]⟩
  | false=>
   rw [hb] at h
   obtain ⟨h1,h2⟩:=Zdl vs (i+1) j v h
   refine ⟨by omega,?_⟩
   rw [show j - i=(j - (i+1))+1 from by omega]
   simpa using h2
def Zro (P:Program) (S:Env) (B:Kn) (L:List Cells):ResultVar→Value→Prop
 | .tmp t,v=>get S t=some v
 | .cell a t,v=>∃ad,get S a=some (ptr ad)∧((lk P t=some none∧At B L ad v)∨∃vs:List Value,lk P t=some (some vs.length)∧ZtD B L ad vs∧v = .agg vs.toArray)
def Zcb (P:Program) (S:Env) (B:Kn) (L:List Cells):List ResultVar→List Value→Prop
 | [],[]=>True
 | r :: rs,v :: vs=>Zro P S B L r v∧Zcb P S B L rs vs
 | _,_=>False
def Zc4:List Value→Value
 | [v]=>v
 | vs=>.tuple vs.toArray
theorem Zrn {P:Program} {T:Array Value} {S:Env} {B:Kn} {L:List Cells} {F:Cells} (hT:Ag T S) {r:ResultVar} {v:Value} (h:Zro P S B L r v) {Q:Value→Kn→Cells→Prop} (q:Q v B (L.flatten ++ F)) :
  hb P (match r with | .tmp t=>Pure.pure (T.getD t undef) | .cell a t=>do loadVar t (← asAddr (T.getD a undef))) Q B (L.flatten ++ F):=by
 cases r with
 | tmp t=>
  have:=hT t v h
  simp only [Zp,Array.getD_eq_getD_getElem?,this,Option.getD_some]
  exact q
 | cell a t=>
  obtain ⟨ad,ha,h⟩:=h
  have:=hT a _ ha
  simp only [Zi,Array.getD_eq_getD_getElem?,this,Option.getD_some,asAddr,Zp]
  rcases h with ⟨hl,hc⟩ | ⟨vs,hl,hc,rfl⟩
  ·exact ZfZ hl hc.app q
  ·exact Zio hl (fun j v hj=>(hc j v hj).app) q
theorem Zsl {P:Program} {α β:Type} {f:α→Sem β} {B:Kn} {L:Cells} {Q:List β→Kn→Cells→Prop} :∀(xs:List α) (ys:List β),xs.length=ys.length→
  (∀(i:Nat) (x:α) (y:β),xs[i]? = some x→ys[i]? = some y→∀Q:β→Kn→Cells→Prop,Q y B L→hb P (f x) Q B L)→Q ys B L→hb P (xs.mapM f) Q B L
 | [],[],_,_,q=>by rw [List.mapM_nil];exact q
 | x :: xs,y :: ys,hl,h,q=>by
  rw [List.mapM_cons,Zi]
  refine h 0 x y (by simp) (by simp) _ ?_
  rw [Zi]
  refine Zsl xs ys (by simpa using hl) (fun i x y hx hy=>h (i+1) x y (by simpa using hx) (by simpa using hy)) ?_
  exact q
 | [],_ :: _,hl,_,_=>by cases hl
 | _ :: _,[],hl,_,_=>by cases hl
theorem Zi6 {P:Program} {S:Env} {B:Kn} {L:List Cells} :∀{rs:List ResultVar} {vs:List Value},Zcb P S B L rs vs→rs.length=vs.length
 | [],[],_=>rfl
 | _ :: _,_ :: _,h=>by simp [Zi6 h.2]
 | [],_ :: _,h=>h.elim
 | _ :: _,[],h=>h.elim
theorem Zi7 {P:Program} {S:Env} {B:Kn} {L:List Cells} :∀{rs:List ResultVar} {vs:List Value},Zcb P S B L rs vs→∀(i:Nat) (r:ResultVar) (v:Value),rs[i]? = some r→vs[i]? = some v→Zro P S B L r v
 | [],[],_,i,r,v,hr,_=>by simp at hr
 | r :: rs,v :: vs,h,0,r',v',hr,hv=>by
  simp only [List.getElem?_cons_zero,Option.some.injEq] at hr hv
  subst hr;subst hv;exact h.1
 | r :: rs,v :: vs,h,i+1,r',v',hr,hv=>Zi7 h.2 i r' v' (by simpa using hr) (by simpa using hv)
 | [],_ :: _,h,_,_,_,_,_=>h.elim
 | _ :: _,[],h,_,_,_,_,_=>h.elim
theorem Zpo {P:Program} {fn:Func} {T:Array Value} {S:Env} {B:Kn} {L:List Cells} {F:Cells} (hT:Ag T S) {vs:List Value} (h:Zcb P S B L fn.results.toList vs) {Q:Value→Kn→Cells→Prop} (q:Q (Zc4 vs) B (L.flatten ++ F)) :
  hb P (results fn T) Q B (L.flatten ++ F):=by
 unfold results
 rw [Array.mapM_eq_mapM_toList]
 simp only [Zi,Zsm]
 refine Zsl fn.results.toList vs (Zi6 h) (fun i r v hr hv Q q=>?_) ?_
 ·have:=Zrn (F:=F) hT (Zi7 h i r v hr hv) q
  cases r <;> exact this
 ·simp only [Zp]
  match vs,q with
  | [],q=>exact q
  | [v],q=>exact q
  | v :: u :: r,q=>exact q
def Zgz (P:PJ) (rs:List ResultVar) (Post:Value→Kn→List Cells→Prop):Exit→Zag:=fun e S D B L=>
 (e = .ret∨e = .normal)∧D=[]∧∃vs Lr,Zcb P S B L rs vs∧(∃gl,L.flatten.Perm (Lr.flatten ++ gl))∧Post (Zc4 vs) B Lr
theorem ZnR {P:PJ} {main:Bool} {kind:CallKind} {fr c:Frame} {cs:List Frame} {v:Value} {w:World} (hk:Bk kind c) (hf:fr.kind=kind):doReturn P main fr (c :: cs) none v w = .go (G (Zej kind c v) cs) w #[]:=by
 rcases hk with rfl | ⟨rfl,hm | hm⟩
 ·simp [doReturn,hf,Zej,G]
 ·simp [doReturn,hf,Zej,G,hm]
 ·simp [doReturn,hf,Zej,G,hm,goexitEntry]
theorem Zcd {P:PJ} {X:Lg P} {f:FuncId} {fn:Func} (hf:P.funcs[f]? = some fn) {kind:CallKind} {c fr:Frame} {cs:List Frame} (hk:Bk kind c) (h1:fr.fn=f) (h2:fr.mode = .returning) (h3:fr.defers=[]) (h4:fr.kind=kind)
  {S:Env} {B:Kn} {L Lr:List Cells} {F:Cells} (hT:Ag fr.tmps S) {vs:List Value} (hr:Zcb P S B L fn.results.toList vs) {gl:Cells} (hp:L.flatten.Perm (Lr.flatten ++ gl))
  (h:X.R (G (Zej kind c (Zc4 vs)) cs) B (Lr.flatten ++ F)):X.R (G fr (c :: cs)) B (L.flatten ++ F):=by
 refine X.step rfl fun w s=>?_
 have hres:hb P (results fn fr.tmps) (fun v B' L'=>v=Zc4 vs∧B'=B∧L'=L.flatten ++ F) B (L.flatten ++ F):=Zpo hT hr ⟨rfl,rfl,rfl⟩
 obtain ⟨a,w',es,B',L',e1,e2,e3,rfl,rfl,rfl⟩:=Zcq _ _ _ _ hres w #[] s
 obtain ⟨r1,r2⟩:=Zbf e1
 refine ⟨G (Zej kind c (Zc4 vs)) cs,w',seen P fr.fn (#[] ++ es),B',L.flatten ++ F,?_,fun e he=>e2 e (by simpa using ZbY he),e3,?_⟩
 ·rw [← r2]
  have hd:doReturn P X.main fr (c :: cs) none (Zc4 vs) w' = .go (G (Zej kind c (Zc4 vs)) cs) w' #[]:=ZnR hk h4
  simp [G,stepG,h2,unwind,h3,h1,hf,r1,GStep.after,hd]
 ·exact X.drop (r:=Lr.flatten ++ F) (gl:=gl) ((hp.append_right F).trans (by rw [List.append_assoc,List.append_assoc];exact List.Perm.append_left _ List.perm_append_comm)) h
theorem Zdy {P:PJ} {f:FuncId} {fn:Func} {code:Code} {rs:List ResultVar} (n:Nat) (hf:P.funcs[f]? = some fn) (hb:fn.body=some code) (hn:fn.ntmps=n) (hrs:fn.results.toList=rs) {args:List Value} (ha:args.length≤n) {B:Kn} {Ls:List Cells} {Post:Value→Kn→List Cells→Prop}
  (h:wpS P n code (Zgz P rs Post) (ZdA args 0) [] B Ls):Zu P f args B Ls Post:=fun X kind c cs F hk hA=>by
 have hke:kind≠.early:=by rcases hk with rfl | ⟨rfl,_⟩ <;> simp
 let b0:Frame:={ fn:=f,tmps:=#[],todo:=[],defers:=[],mode:=.run,kind:=kind }
 let T0:Array Value:=args.toArray ++ Array.replicate (n - args.length) undef
 have hen:Frame.enter P f args.toArray kind=fat b0 T0 [] [.code code]:=by
  simp [Frame.enter,fat,hf,hb,hn,b0,T0]
 rw [hen]
 have hT:Ag T0 (ZdA args 0):=fun i v hv=>by
  obtain ⟨_,h2⟩:=Zdl args 0 i v hv
  have hlt:=ZS (a:=args.toArray) (i:=i) (x:=v) (by simpa using h2)
  simp only [T0]
  rw [Array.getElem?_append_left hlt]
  simpa using h2
 refine h ⟨X,b0,c :: cs,F,hke⟩ [] T0 (by simp [T0];omega) hT fun e S' D' B' L' T' hle hq hn' hT'=>?_
 obtain ⟨he,rfl,vs,Lr,hr,⟨gl,hp⟩,hq⟩:=hq
 rw [← hrs] at hr
 rcases he with rfl | rfl
 ·refine ⟨rfl,fun todo=>?_⟩
  exact Zcd hf hk rfl rfl rfl rfl hT' hr hp (hA _ B' Lr hle hq)
 ·exact X.ctl rfl (fun w=>Zi3 rfl) (Zcd hf hk rfl rfl rfl rfl hT' hr hp (hA _ B' Lr hle hq))
section
variable {P:PJ} {n:Nat} {ops:Array Oper} {i:Nat} {K:ZaE} {S:Env} {D:List Deferred} {B:Kn} {L:List Cells}
variable {dst:Option Tmp} {ty:TypeId} {pos:String} {after:Array Edge} {g:Option (Nat × Bool)}
def enters (P:Program) (f:FuncId):Bool:=
 match P.funcs[f]? with
 | some fn=>fn.body.isSome && !(fn.name == "runtime.NumGoroutine")
 | none=>false
theorem Zf1 {f:FuncId} {args:Array Value} (h:enters P f=true) {Q:Next→Kn→Cells→Prop} {L:Cells} (q:Q (.enter f args) B L):hb P (callFunc f args) Q B L:=by
 unfold enters at h
 split at h
 ·rename_i fn hf
  simp only [Bool.and_eq_true,Bool.not_eq_true'] at h
  obtain ⟨h1,h2⟩:=h
  have h1':fn.body.isNone=false:=by cases hb:fn.body <;> simp_all
  simp only [callFunc,Zi,ZaT,hf,h2,h1',Bool.false_eq_true,if_false,Zp]
  exact q
 ·cases h
theorem Zd7 {o:Oper} {f:FuncId} {vs:List Value} (hg:Zk ops S o.guard=some true)
  (hv :∀ρ:Operand→Value,(∀x u,ev S x=some u→ρ x=u)→∀(Q:Next→Kn→Cells→Prop) F,Q (.enter f vs.toArray) B (L.flatten ++ F)→hb P (execOp ρ o) Q B (L.flatten ++ F))
  (hd:Zw n o.dst=true) {Ls Lk:List Cells} (hp:L.flatten.Perm (Ls.flatten ++ Lk.flatten)) {Post:Value→Kn→List Cells→Prop} (hc:Zu P f vs B Ls Post)
  (h :∀v B' Ls',B.le B'→Post v B' Ls'→∃L',(Ls'.flatten ++ Lk.flatten).Perm L'.flatten∧K v D B' L') (hnd:Zid o.op=false:=by rfl):opX P n ops i o K S D B L:=⟨hd,fun C todo k T ho hn hT hA=>by
 refine C.X.step rfl fun w s=>?_
 obtain ⟨a,w',es,B',L',h1,h2,h3,rfl,rfl,rfl⟩:=Zcq _ _ _ _ (hv (evT T) (fun x v hx=>ZeL hT hx) (fun nx B' L'=>nx = .enter f vs.toArray∧B'=B∧L'=L.flatten ++ C.F) C.F ⟨rfl,rfl,rfl⟩) w #[] s
 simp only [Array.empty_append] at h1
 rw [ZjL hnd ho (ZbW hT hg)]
 have hk:(fat C.b T D (.inRegion ops (i :: todo) :: k)).kind≠.early:=C.early
 refine ⟨_,w',_,B',L.flatten ++ C.F,Zf3 hk (by intro a b c d r;simp [fat]) h1,fun e he=>h2 e (ZbY he),h3,?_⟩
 have hp':(L.flatten ++ C.F).Perm (Ls.flatten ++ (Lk.flatten ++ C.F)):=by rw [← List.append_assoc];exact hp.append_right _
 refine C.X.perm hp' (hc C.X .normal _ C.cs (Lk.flatten ++ C.F) (.inl rfl) fun v B₂ Ls' hle hq=>?_)
 obtain ⟨L₂,hp₂,hK⟩:=h v B₂ Ls' hle hq
 show C.X.R (G ((fat C.b T D (.inRegion ops (i :: todo) :: k)).finish v) C.cs) B₂ _
 rw [Zfm ho]
 refine C.X.perm ?_ (hA v D B₂ L₂ hle hK)
 rw [← List.append_assoc]
 exact hp₂.append_right _⟩
theorem ZaQ {ρ:Operand→Value} (hρ :∀x u,ev S x=some u→ρ x=u) :∀{xs:List Operand} {vs:List Value},evs S xs=some vs→xs.map ρ=vs
 | [],vs,hx=>by simpa [evs] using hx
 | x :: r,vs,hx=>by
  simp only [evs] at hx
  cases h1:ev S x with
  | none=>rw [h1] at hx;cases hx
  | some v=>
   cases h2:evs S r with
   | none=>rw [h1,h2] at hx;cases hx
   | some us=>
    rw [h1,h2] at hx
    simp only [Option.some.injEq] at hx
    subst hx
    simp [hρ x v h1,ZaQ hρ h2]
theorem ZeD {x:Operand} {f:FuncId} {first cap:Array Value} {xs:List Operand} {vs:List Value} {ats:Array TypeId} (he:enters P f=true) (hx:ev S x=some (.func (.func f) first cap)) (ha:evs S xs=some vs) :
∀ρ:Operand→Value,(∀x u,ev S x=some u→ρ x=u)→∀(Q:Next→Kn→Cells→Prop) F,Q (.enter f (first.toList ++ vs ++ cap.toList).toArray) B (L.flatten ++ F)→hb P (execOp ρ ⟨dst,.call ⟨.value x,xs.toArray,ats⟩,ty,pos,after,g⟩) Q B (L.flatten ++ F):=by
 intro ρ hρ Q F q
 simp only [execOp,resolve,hρ x _ hx,Deferred.ofValue,Zi,Zp,invoke]
 refine Zf1 he ?_
 rw [List.map_toArray,ZaQ hρ ha]
 have e:(first ++ vs.toArray) ++ cap=(first.toList ++ vs ++ cap.toList).toArray:=by apply Array.ext';simp
 rw [e]
 exact q
theorem Zb9 {f:FuncId} {xs:List Operand} {vs:List Value} {ats:Array TypeId} {Post:Value→Kn→List Cells→Prop} (hg:Zk ops S g=some true) (hd:Zw n dst=true) (he:enters P f=true) (ha:evs S xs=some vs) (hc:Zu P f vs B [] Post)
  (h :∀v B' Ls',B.le B'→Post v B' Ls'→K v D B' (L ++ Ls')):opX P n ops i ⟨dst,.call ⟨.value (.func f),xs.toArray,ats⟩,ty,pos,after,g⟩ K S D B L:=
 Zd7 (o:=⟨dst,.call ⟨.value (.func f),xs.toArray,ats⟩,ty,pos,after,g⟩) (vs:=vs) hg (fun ρ hρ Q F q=>by
   have:=ZeD (P:=P) (B:=B) (L:=L) (dst:=dst) (ty:=ty) (pos:=pos) (after:=after) (g:=g) (x:=.func f) (first:=#[]) (cap:=#[]) (ats:=ats) he rfl ha ρ hρ Q F
   exact this (by simpa using q)) hd (Ls:=[]) (Lk:=L) (by simp) hc
  fun v B' Ls' hle hq=>⟨L ++ Ls',by simp only [List.flatten_append];exact List.perm_append_comm,h v B' Ls' hle hq⟩
theorem Zgn {L:List Cells} {j:Nat} {s:Cells} (hj:L[j]? = some s):L.flatten.Perm ([s].flatten ++ (L.set j []).flatten):=by
 obtain ⟨r,h1,h2⟩:=ZT [] [] hj
 simp only [List.append_nil,List.nil_append] at h1 h2
 simp only [List.flatten_cons,List.flatten_nil,List.append_nil]
 exact h1.trans (List.Perm.append_left s h2.symm)
theorem Zuu {L:List Cells} {j:Nat} {s s':Cells} (hj:L[j]? = some s):([s'].flatten ++ (L.set j []).flatten).Perm (L.set j s').flatten:=by
 obtain ⟨r,h1,h2⟩:=ZT [] s' hj
 obtain ⟨r',h1',h2'⟩:=ZT [] [] hj
 simp only [List.append_nil,List.nil_append] at h1 h2 h1' h2'
 simp only [List.flatten_cons,List.flatten_nil,List.append_nil]
 have:r.Perm r':=(List.perm_append_left_iff s).1 (h1.symm.trans h1')
 exact (List.Perm.append_left s' (h2'.trans this.symm)).trans h2.symm
theorem Zw2 {f:FuncId} {xs:List Operand} {vs:List Value} {ats:Array TypeId} {Post:Value→Kn→List Cells→Prop} (j:Nat) {s:Cells} (hj:L[j]? = some s) (hg:Zk ops S g=some true) (hd:Zw n dst=true) (he:enters P f=true) (ha:evs S xs=some vs) (hc:Zu P f vs B [s] Post)
  (h :∀v B' Ls',B.le B'→Post v B' Ls'→∃s' r,Ls'=s' :: r∧K v D B' (L.set j s' ++ r)):opX P n ops i ⟨dst,.call ⟨.value (.func f),xs.toArray,ats⟩,ty,pos,after,g⟩ K S D B L:=
 Zd7 (o:=⟨dst,.call ⟨.value (.func f),xs.toArray,ats⟩,ty,pos,after,g⟩) (vs:=vs) hg (fun ρ hρ Q F q=>by
   have:=ZeD (P:=P) (B:=B) (L:=L) (dst:=dst) (ty:=ty) (pos:=pos) (after:=after) (g:=g) (x:=.func f) (first:=#[]) (cap:=#[]) (ats:=ats) he rfl ha ρ hρ Q F
   exact this (by simpa using q)) hd (Ls:=[s]) (Lk:=L.set j []) (Zgn hj) hc
  fun v B' Ls' hle hq=>by
   obtain ⟨s',r,rfl,hK⟩:=h v B' Ls' hle hq
   refine ⟨L.set j s' ++ r,?_,hK⟩
   have e:(s' :: r).flatten ++ (L.set j []).flatten=s' ++ (r.flatten ++ (L.set j []).flatten):=by simp
   rw [e,List.flatten_append]
   refine (List.Perm.append_left s' List.perm_append_comm).trans ?_
   rw [← List.append_assoc]
   exact List.Perm.append_right _ (by simpa using Zuu (s':=s') hj)
end
end Go.BL
namespace Go.BL
def Z1 (P:PJ) (f:FuncId) (vs:List Value) (B:Kn) (v:Value):Prop:=Zu P f vs B [] fun v' B' Ls=>v'=v∧B'=B∧Ls=[]
section
variable {P:PJ} {n:Nat} {ops:Array Oper} {i:Nat} {K:ZaE} {S:Env} {D:List Deferred} {B:Kn} {L:List Cells}
variable {dst:Option Tmp} {ty:TypeId} {pos:String} {after:Array Edge} {g:Option (Nat × Bool)}
theorem Z5 {f:FuncId} {xs:List Operand} {vs:List Value} {ats:Array TypeId} {v:Value} (hg:Zk ops S g=some true) (hd:Zw n dst=true) (he:enters P f=true) (ha:evs S xs=some vs) (hc:Z1 P f vs B v)
  (h:K v D B L):opX P n ops i ⟨dst,.call ⟨.value (.func f),xs.toArray,ats⟩,ty,pos,after,g⟩ K S D B L:=
 Zb9 hg hd he ha hc fun v' B' Ls' hle ⟨h1,h2,h3⟩=>by subst h1;subst h2;subst h3;rw [List.append_nil];exact h
theorem Zqo {rs:List ResultVar} {Post:Value→Kn→List Cells→Prop} (e:Exit) (he:e = .ret∨e = .normal) (vs:List Value) (hr:Zcb P S B L rs vs) (hp:Post (Zc4 vs) B []):Zgz P rs Post e S [] B L:=
 ⟨he,rfl,vs,[],hr,⟨L.flatten,by simp⟩,hp⟩
end
theorem Zc {a b:Bool} (h:a=b):Value.bool a=Value.bool b:=by rw [h]
theorem ZH {k:IntKind} {a b:Int} (h:a=b):Value.int k a=Value.int k b:=by rw [h]
theorem Zwm {a b:List UInt8} (h:a=b):str a=str b:=by rw [h]
theorem Zb2 {n:Int} (h1 : -9223372036854775808≤n) (h2:n≤9223372036854775807):IntKind.wrap .i64 n=n:=IntWalk.i64_in n ⟨h1,h2⟩
def ZwN (P:PJ) (f:FuncId) (vs:List Value) (B:Kn) (s:Cells) (v:Value) (s':Cells):Prop:=Zu P f vs B [s] fun v' B' Ls=>v'=v∧B'=B∧Ls=[s']
section
variable {P:PJ} {n:Nat} {ops:Array Oper} {i:Nat} {K:ZaE} {S:Env} {D:List Deferred} {B:Kn} {L:List Cells}
variable {dst:Option Tmp} {ty:TypeId} {pos:String} {after:Array Edge} {g:Option (Nat × Bool)}
theorem ZiX {f:FuncId} {xs:List Operand} {vs:List Value} {ats:Array TypeId} {v:Value} (j:Nat) {s s':Cells} (hj:L[j]? = some s) (hg:Zk ops S g=some true) (hd:Zw n dst=true) (he:enters P f=true) (ha:evs S xs=some vs) (hc:ZwN P f vs B s v s')
  (h:K v D B (L.set j s')):opX P n ops i ⟨dst,.call ⟨.value (.func f),xs.toArray,ats⟩,ty,pos,after,g⟩ K S D B L:=
 Zw2 j hj hg hd he ha hc fun v' B' Ls' hle ⟨h1,h2,h3⟩=>by subst h1;subst h2;subst h3;exact ⟨s',[],rfl,by rw [List.append_nil];exact h⟩
theorem Zgh {L:List Cells} {j:Nat} {s:Cells} (hj:L[j]? = some s):L.set j s=L:=by
 apply List.ext_getElem?
 intro i
 rw [List.getElem?_set]
 split
 ·rename_i h;subst h
  split
  ·exact hj.symm
  ·rename_i hlt;rw [List.getElem?_eq_none (by omega)]
 ·rfl
theorem Zfw {f:FuncId} {xs:List Operand} {vs:List Value} {ats:Array TypeId} {v:Value} (j:Nat) {s:Cells} (hj:L[j]? = some s) (hg:Zk ops S g=some true) (hd:Zw n dst=true) (he:enters P f=true) (ha:evs S xs=some vs) (hc:ZwN P f vs B s v s)
  (h:K v D B L):opX P n ops i ⟨dst,.call ⟨.value (.func f),xs.toArray,ats⟩,ty,pos,after,g⟩ K S D B L:=
 ZiX j hj hg hd he ha hc (by rw [Zgh hj];exact h)
theorem ZyC {rs:List ResultVar} {Post:Value→Kn→List Cells→Prop} (e:Exit) (he:e = .ret∨e = .normal) (vs:List Value) (j:Nat) {s:Cells} (hj:L[j]? = some s) (hr:Zcb P S B L rs vs) (hp:Post (Zc4 vs) B [s]):Zgz P rs Post e S [] B L:=
 ⟨he,rfl,vs,[s],hr,⟨(L.set j []).flatten,Zgn hj⟩,hp⟩
end
end Go.BL
namespace Go.BL
open Go.Conc (G)
def ZcK (o:Oper) (ex:List Nat):Prop:=∀e,e∈o.after.toList→Region.binds .any e=true→e.on∈ex
inductive Sched (ops:Array Oper):List Nat→List Nat→Prop
 | nil {ex:List Nat} : (∀i,i<ops.size→i∈ex)→Sched ops ex []
 | cons {ex π:List Nat} {m:Nat} {o:Oper} : ops[m]? = some o→m ∉ ex→ZcK o ex→Sched ops (m :: ex) π→Sched ops ex (m :: π)
def Zdw (ops:Array Oper):Bool:=(List.range ops.size).all fun i=>match ops[i]? with | some o=>o.after.toList.all fun e=>!Region.binds .any e || Nat.blt e.on i | none=>true
theorem ZfD {ops:Array Oper} (h:Zdw ops=true) {i:Nat} {o:Oper} (ho:ops[i]? = some o) :∀e,e∈o.after.toList→Region.binds .any e=true→e.on<i:=by
 intro e he hb
 have h1:=List.all_eq_true.1 h i (List.mem_range.2 (ZS ho))
 rw [ho] at h1
 have h2:=List.all_eq_true.1 h1 e he
 simpa [hb] using h2
def Rep (n:Nat) (listed:Array Bool) (ex:List Nat):Prop:=∀i,(listed.getD i true=false↔(i<n∧i ∉ ex))∧(listed.getD i false=true↔(i<n∧i∈ex))
theorem Rep.set {n:Nat} {listed:Array Bool} {ex:List Nat} (h:Rep n listed ex) {m:Nat} (hm:m<n):Rep n (listed.setIfInBounds m true) (m :: ex):=by
 intro i
 have hsz:listed.size=n:=by
  rcases Nat.lt_trichotomy listed.size n with hl | hl | hl
  ·have h1:=(h listed.size).1
   have h2:=(h listed.size).2
   rw [Array.getD_eq_getD_getElem?,Array.getElem?_eq_none (Nat.le_refl _)] at h1 h2
   simp only [Option.getD_none,Bool.true_eq_false,false_iff,Bool.false_eq_true] at h1 h2
   by_cases hx:listed.size∈ex
   ·exact absurd ⟨hl,hx⟩ h2
   ·exact absurd ⟨hl,hx⟩ h1
  ·exact hl
  ·have h1:=(h n).1
   have h2:=(h n).2
   rw [Array.getD_eq_getD_getElem?,Array.getElem?_eq_getElem hl] at h1 h2
   simp only [Option.getD_some] at h1 h2
   cases hb:listed[n] with
   | true=>exact absurd (h2.1 hb).1 (Nat.lt_irrefl _)
   | false=>exact absurd (h1.1 hb).1 (Nat.lt_irrefl _)
 by_cases hi:i=m
 ·subst hi
  simp [Array.getD_eq_getD_getElem?,hsz,hm]
 ·have e1:(listed.setIfInBounds m true).getD i true=listed.getD i true:=by
   rw [Array.getD_eq_getD_getElem?,Array.getD_eq_getD_getElem?,Array.getElem?_setIfInBounds,if_neg (Ne.symm hi)]
  have e2:(listed.setIfInBounds m true).getD i false=listed.getD i false:=by
   rw [Array.getD_eq_getD_getElem?,Array.getD_eq_getD_getElem?,Array.getElem?_setIfInBounds,if_neg (Ne.symm hi)]
  rw [e1,e2,(h i).1,(h i).2]
  simp [hi]
theorem Zma {ops:Array Oper} (hd:Zdw ops=true) {ex:List Nat} (h :∃i,i<ops.size∧i ∉ ex) :∃i o,ops[i]? = some o∧i ∉ ex∧ZcK o ex:=by
 obtain ⟨i,hi,hx⟩:=h
 induction i using Nat.strongRecOn with
 | _ i ih=>
  by_cases he:ZcK ops[i] ex
  ·exact ⟨i,ops[i],by simp [hi],hx,he⟩
  ·have :∃e,e∈ops[i].after.toList∧Region.binds .any e=true∧e.on ∉ ex:=by
    apply Classical.byContradiction
    intro hno
    exact he fun e h1 h2=>Classical.byContradiction fun h3=>hno ⟨e,h1,h2,h3⟩
   obtain ⟨e,h1,h2,h3⟩:=this
   have hlt:=ZfD hd (i:=i) (o:=ops[i]) (by simp [hi]) e h1 h2
   exact ih e.on hlt (by omega) h3
theorem Zus {ops:Array Oper} (hd:Zdw ops=true) :∀(fuel t:Nat) (listed:Array Bool) (ex:List Nat),Rep ops.size listed ex→((List.range ops.size).filter (fun i=>decide (i ∉ ex))).length≤fuel→
  Sched ops ex (Region.linearise.go .any ops fuel t listed []):=by
 intro fuel
 induction fuel with
 | zero=>
  intro t listed ex hr hc
  simp only [Region.linearise.go,List.reverse_nil]
  refine .nil fun i hi=>?_
  apply Classical.byContradiction
  intro hx
  have:i∈(List.range ops.size).filter (fun i=>decide (i ∉ ex)):=List.mem_filter.2 ⟨List.mem_range.2 hi,by simpa using hx⟩
  have:=List.length_pos_of_mem this
  omega
 | succ fuel ih=>
  intro t listed ex hr hc
  simp only [Region.linearise.go]
  have hmem :∀i,i∈Region.ready .any ops listed↔∃o,ops[i]? = some o∧i ∉ ex∧ZcK o ex:=by
   intro i
   rw [mem_ready]
   constructor
   ·rintro ⟨h1,o,ho,h2⟩
    refine ⟨o,ho,((hr i).1.1 h1).2,fun e he hb=>?_⟩
    exact ((hr e.on).2.1 (by simpa using h2 e (Array.mem_toList_iff.1 he) hb)).2
   ·rintro ⟨o,ho,hx,h2⟩
    refine ⟨(hr i).1.2 ⟨ZS ho,hx⟩,o,ho,fun e he hb=>?_⟩
    exact (hr e.on).2.2 ⟨Nat.lt_trans (ZfD hd ho e (Array.mem_toList_iff.2 he) hb) (ZS ho),h2 e (Array.mem_toList_iff.2 he) hb⟩
  show Sched ops ex (match (Region.ready .any ops listed)[t % (Region.ready .any ops listed).length]? with
   | some i=>Region.linearise.go .any ops fuel (t / (Region.ready .any ops listed).length) (listed.setIfInBounds i true) [i]
   | none=>[])
  cases hg:(Region.ready .any ops listed)[t % (Region.ready .any ops listed).length]? with
  | none=>
   refine .nil fun i hi=>?_
   apply Classical.byContradiction
   intro hx
   obtain ⟨j,o,ho,hjx,he⟩:=Zma hd ⟨i,hi,hx⟩
   have hj:=(hmem j).2 ⟨o,ho,hjx,he⟩
   have hpos:=List.length_pos_of_mem hj
   have:=List.getElem?_eq_none_iff.1 hg
   have:=Nat.mod_lt t hpos
   omega
  | some i=>
   obtain ⟨o,ho,hx,he⟩:=(hmem i).1 (List.mem_of_getElem? hg)
   show Sched ops ex (Region.linearise.go .any ops fuel (t / (Region.ready .any ops listed).length) (listed.setIfInBounds i true) [i])
   rw [linearise_go_acc,List.reverse_singleton,List.singleton_append]
   refine .cons ho hx he (ih _ _ _ (hr.set (ZS ho)) ?_)
   have hlt:((List.range ops.size).filter (fun j=>decide (j ∉ i :: ex))).length<((List.range ops.size).filter (fun j=>decide (j ∉ ex))).length:=by
    have hsub:(List.range ops.size).filter (fun j=>decide (j ∉ i :: ex))=((List.range ops.size).filter (fun j=>decide (j ∉ ex))).filter (fun j=>decide (j≠i)):=by
     rw [List.filter_filter]
     apply List.filter_congr
     intro j _
     simp only [List.mem_cons,not_or,ne_eq,Bool.decide_and]
    rw [hsub]
    have hi:i∈(List.range ops.size).filter (fun j=>decide (j ∉ ex)):=List.mem_filter.2 ⟨List.mem_range.2 (ZS ho),by simpa using hx⟩
    exact List.length_filter_lt_length_iff_exists.2 ⟨i,hi,by simp⟩
   omega
theorem Zoh {P:PJ} {ops:Array Oper} (hm:P.follows .mixedOrders=true) (hd:Zdw ops=true) (t:Nat):Sched ops [] (Region.schedule (P.follows .mixedOrders) ops t):=by
 have:Region.schedule (P.follows .mixedOrders) ops t=Region.linearise.go .any ops ops.size t (Array.replicate ops.size false) []:=by
  simp [Region.schedule,hm,Region.linearise]
 rw [this]
 refine Zus hd _ _ _ _ (fun i=>?_) ?_
 ·simp only [Array.getD_eq_getD_getElem?,Array.getElem?_replicate]
  by_cases h:i<ops.size <;> simp [h]
 ·exact Nat.le_trans (List.length_filter_le _ _) (by simp)
def conf (ops:Array Oper) (x y:Oper):Bool:=(match x.dst with | some d=>(y.looksAt ops).contains d || y.dst == some d | none=>false) || (match y.dst with | some d=>(x.looksAt ops).contains d | none=>false)
def ZdS (x:Oper) (j:Nat):Bool:=x.after.toList.any fun e=>Region.binds .any e && e.on == j
def orderly (ops:Array Oper):Bool:=(List.range ops.size).all fun i=>(List.range ops.size).all fun j=>match ops[i]?,ops[j]? with | some x,some y=>i == j || !conf ops x y || ZdS x j || ZdS y i | _,_=>true
theorem Zcc {ops:Array Oper} (h:orderly ops=true) {i j:Nat} {x y:Oper} (hi:ops[i]? = some x) (hj:ops[j]? = some y) (hne:i≠j) (hc:conf ops x y=true):ZdS x j=true∨ZdS y i=true:=by
 have h1:=List.all_eq_true.1 h i (List.mem_range.2 (ZS hi))
 have h2:=List.all_eq_true.1 h1 j (List.mem_range.2 (ZS hj))
 rw [hi,hj] at h2
 simpa [hne,hc] using h2
theorem ZbJ {o:Oper} {j:Nat} {ex:List Nat} (h:ZdS o j=true) (he:ZcK o ex):j∈ex:=by
 obtain ⟨e,h1,h2⟩:=List.any_eq_true.1 h
 simp only [Bool.and_eq_true,beq_iff_eq] at h2
 exact h2.2 ▸ he e h1 h2.1
def sel:List Nat→Env→Env
 | [],_=>[]
 | k :: ks,S=>match get S k with
  | some v=>(k,v) :: sel ks S
  | none=>sel ks S
theorem ZfR :∀{ks:List Nat} {S:Env} {i:Nat} {v:Value},get (sel ks S) i=some v→i∈ks∧get S i=some v
 | [],S,i,v,h=>by cases h
 | k :: ks,S,i,v,h=>by
  simp only [sel] at h
  cases hk:get S k with
  | none=>
   rw [hk] at h
   obtain ⟨h1,h2⟩:=ZfR h
   exact ⟨List.mem_cons_of_mem _ h1,h2⟩
  | some u=>
   rw [hk] at h
   simp only [get] at h
   cases hb:Nat.beq k i with
   | true=>
    rw [hb] at h
    have:=Nat.eq_of_beq_eq_true hb
    subst this
    simp only [cond_true,Option.some.injEq] at h
    subst h
    exact ⟨List.mem_cons_self ..,hk⟩
   | false=>
    rw [hb] at h
    obtain ⟨h1,h2⟩:=ZfR h
    exact ⟨List.mem_cons_of_mem _ h1,h2⟩
structure Pd where
 i:Nat
 o:Oper
 v:Value
 ρ:Env
def puts:List Pd→Array Value→Array Value
 | [],T=>T
 | p :: r,T=>puts r (putT T p.o.dst p.v)
def ZfG:List Pd→Array Value→Prop
 | [],_=>True
 | p :: r,T=>Ag T p.ρ∧ZfG r (putT T p.o.dst p.v)
theorem Zgk :∀(pend:List Pd) (T:Array Value),(puts pend T).size=T.size
 | [],T=>rfl
 | p :: r,T=>by rw [puts,Zgk r,Zao]
theorem Zgl {T:Array Value} {x y:Option Tmp} {u v:Value} (h :∀d,x=some d→y≠some d):putT (putT T x u) y v=putT (putT T y v) x u:=by
 cases x with
 | none=>rfl
 | some d=>
  cases y with
  | none=>rfl
  | some c=>
   have:d≠c:=fun e=>h d rfl (by rw [e])
   simp only [putT]
   rw [Array.setIfInBounds_comm _ _ this]
theorem Zg5 {T:Array Value} {S:Env} {ks:List Nat} (hs :∀i v,get S i=some v→i∈ks) {x:Option Tmp} {u:Value} (hx :∀d,x=some d→d ∉ ks):Ag (putT T x u) S↔Ag T S:=by
 cases x with
 | none=>exact Iff.rfl
 | some d=>
  refine forall_congr' fun i=>forall_congr' fun v=>imp_congr_right fun h=>?_
  have:d≠i:=fun e=>hx d rfl (e ▸ hs i v h)
  simp only [putT,Array.getElem?_setIfInBounds,if_neg this]
theorem Zjx {ops:Array Oper} {x y:Oper} (h:conf ops x y=false):(∀d,x.dst=some d→d ∉ y.looksAt ops)∧(∀d,x.dst=some d→y.dst≠some d)∧(∀d,y.dst=some d→d ∉ x.looksAt ops):=by
 unfold conf at h
 rw [Bool.or_eq_false_iff] at h
 obtain ⟨h1,h2⟩:=h
 refine ⟨fun d hd hm=>?_,fun d hd hm=>?_,fun d hd hm=>?_⟩
 ·rw [hd] at h1;simp [hm] at h1
 ·rw [hd] at h1;simp [hm] at h1
 ·rw [hd] at h2;simp [hm] at h2
def ZiQ (ops:Array Oper) (p:Pd):Prop:=∀i v,get p.ρ i=some v→i∈p.o.looksAt ops
theorem Zgo {ops:Array Oper} {p:Pd} (hp:ZiQ ops p) :∀(p1 p2:List Pd) (T:Array Value),(∀q,q∈p1→conf ops q.o p.o=false∧ZiQ ops q)→ZfG (p1 ++ p :: p2) T→
  Ag T p.ρ∧puts (p1 ++ p2) (putT T p.o.dst p.v)=puts (p1 ++ p :: p2) T∧ZfG (p1 ++ p2) (putT T p.o.dst p.v)
 | [],p2,T,_,h=>⟨h.1,rfl,h.2⟩
 | q :: r,p2,T,hc,h=>by
  obtain ⟨hq,hqd⟩:=hc q (List.mem_cons_self ..)
  obtain ⟨c1,c2,c3⟩:=Zjx hq
  obtain ⟨h1,h2,h3⟩:=Zgo hp r p2 _ (fun q' hq'=>hc q' (List.mem_cons_of_mem _ hq')) h.2
  refine ⟨(Zg5 hp c1).1 h1,?_,?_,?_⟩
  ·simp only [List.cons_append,puts]
   rw [← h2,Zgl c2]
  ·exact (Zg5 hqd c3).2 h.1
  ·rw [← Zgl c2];exact h3
theorem ZeU {ops:Array Oper} {o:Oper} {v:Value} :∀(pend:List Pd) (T:Array Value),(∀q,q∈pend→conf ops q.o o=false∧ZiQ ops q)→ZfG pend T→
  puts pend (putT T o.dst v)=putT (puts pend T) o.dst v∧ZfG pend (putT T o.dst v)∧∀i,i∈o.looksAt ops→(puts pend T)[i]? = T[i]?
 | [],T,_,_=>⟨rfl,trivial,fun _ _=>rfl⟩
 | q :: r,T,hc,h=>by
  obtain ⟨hq,hqd⟩:=hc q (List.mem_cons_self ..)
  obtain ⟨c1,c2,c3⟩:=Zjx hq
  obtain ⟨h1,h2,h3⟩:=ZeU r (putT T q.o.dst q.v) (fun q' hq'=>hc q' (List.mem_cons_of_mem _ hq')) h.2
  refine ⟨?_,⟨(Zg5 hqd c3).2 h.1,?_⟩,fun i hi=>?_⟩
  ·simp only [puts];rw [← Zgl c2];exact h1
  ·rw [← Zgl c2];exact h2
  ·simp only [puts]
   rw [h3 i hi]
   cases hd:q.o.dst with
   | none=>rfl
   | some d=>
    have:d≠i:=fun e=>c1 d hd (e ▸ hi)
    simp only [putT,Array.getElem?_setIfInBounds,if_neg this]
theorem Zls :∀(pend:List Pd) (p:Pd) (T:Array Value),puts (pend ++ [p]) T=putT (puts pend T) p.o.dst p.v∧(ZfG (pend ++ [p]) T↔ZfG pend T∧Ag (puts pend T) p.ρ)
 | [],p,T=>⟨rfl,by simp [ZfG,puts]⟩
 | q :: r,p,T=>by
  obtain ⟨h1,h2⟩:=Zls r p (putT T q.o.dst q.v)
  refine ⟨h1,?_⟩
  simp only [List.cons_append,ZfG,puts,h2,and_assoc]
def quiet (P:PJ) (n:Nat) (ops:Array Oper) (I:Kn→List Cells→Prop) (i:Nat) (o:Oper) (v:Value) (ρ:Env):Prop:=
∀D B L,I B L→opX P n ops i o (fun v' D' B' L'=>v'=v∧D'=D∧B'=B∧L'=L) ρ D B L
def Zjj (o:Oper):Bool:=match o.op with | .extract _ _=>true | .move _=>true | .assign _=>true | _=>false
structure PdOk (P:PJ) (n:Nat) (ops:Array Oper) (I:Kn→List Cells→Prop) (ℓ ex:List Nat) (p:Pd):Prop where
 at_:ops[p.i]? = some p.o
 notEx:p.i ∉ ex
 listed:p.i∈ℓ
 edges:ZcK p.o ℓ
 dom:ZiQ ops p
 quiet:quiet P n ops I p.i p.o p.v p.ρ
 pure:Zjj p.o=true→Go.BL.quiet P n ops (fun _ _=>True) p.i p.o p.v p.ρ
def Ordered:List Pd→Prop
 | []=>True
 | q :: r=>(∀p,p∈r→ZdS q.o p.i=false∧q.i≠p.i)∧Ordered r
theorem Zd6 :∀{p1:List Pd} {p:Pd} {p2:List Pd},Ordered (p1 ++ p :: p2)→(∀q,q∈p1→ZdS q.o p.i=false∧q.i≠p.i)∧(∀q,q∈p2→p.i≠q.i)∧Ordered (p1 ++ p2)
 | [],p,p2,h=>⟨(fun q hq=>by cases hq),fun q hq=>(h.1 q hq).2,h.2⟩
 | r :: p1,p,p2,h=>by
  obtain ⟨h1,h2,h3⟩:=Zd6 h.2
  refine ⟨fun q hq=>?_,h2,fun q hq=>h.1 q ?_,h3⟩
  ·rcases List.mem_cons.1 hq with rfl | hq
   ·exact h.1 p (List.mem_append.2 (.inr (List.mem_cons_self ..)))
   ·exact h1 q hq
  ·rcases List.mem_append.1 hq with hq | hq
   ·exact List.mem_append.2 (.inl hq)
   ·exact List.mem_append.2 (.inr (List.mem_cons_of_mem _ hq))
theorem Zh5 :∀{pend:List Pd} {p:Pd},Ordered pend→(∀q,q∈pend→ZdS q.o p.i=false∧q.i≠p.i)→Ordered (pend ++ [p])
 | [],p,_,_=>⟨(fun q hq=>by cases hq),trivial⟩
 | r :: pend,p,h,hp=>by
  refine ⟨fun q hq=>?_,Zh5 h.2 fun q hq=>hp q (List.mem_cons_of_mem _ hq)⟩
  rcases List.mem_append.1 hq with hq | hq
  ·exact h.1 q hq
  ·rw [List.mem_singleton.1 hq];exact hp r (List.mem_cons_self ..)
def Closed (ops:Array Oper) (ex:List Nat):Prop:=∀i,i∈ex→∀o,ops[i]? = some o→ZcK o ex
theorem Closed.cons {ops:Array Oper} {ex:List Nat} {m:Nat} {o:Oper} (h:Closed ops ex) (hm:ops[m]? = some o) (he:ZcK o ex):Closed ops (m :: ex):=fun i hi o' ho' e h1 h2=>by
 rcases List.mem_cons.1 hi with rfl | hi
 ·rw [hm] at ho';cases ho';exact List.mem_cons_of_mem _ (he e h1 h2)
 ·exact List.mem_cons_of_mem _ (h i hi o' ho' e h1 h2)
def Zbr {P:PJ} (C:Cx P) (k:List Item) (n:Nat) (ops:Array Oper) (I:Kn→List Cells→Prop) (ℓ:List Nat) (K:Zag):Zag:=fun S D B L=>
∀(T:Array Value) (ex:List Nat) (pend:List Pd) (π:List Nat),Sched ops ex π→Closed ops ex→(∀i,i∈ex→i∈ℓ)→(∀i,i∈ℓ→i∈ex∨∃p,p∈pend∧p.i=i)→
  (∀p,p∈pend→PdOk P n ops I ℓ ex p)→Ordered pend→T.size=n→ZfG pend T→Ag (puts pend T) S→I B L→
  (∀S' D' B' L' T',B.le B'→K S' D' B' L'→T'.size=n→Ag T' S'→C.X.R (G (fat C.b T' D' (.inRegion ops [] :: k)) C.cs) B' (L'.flatten ++ C.F))→
  C.X.R (G (fat C.b T D (.inRegion ops π :: k)) C.cs) B (L.flatten ++ C.F)
section
variable {P:PJ} {C:Cx P} {k:List Item} {n:Nat} {ops:Array Oper} {I:Kn→List Cells→Prop} {ℓ:List Nat} {K:Zag} {S:Env} {D:List Deferred} {B:Kn} {L:List Cells}
theorem ZkK (ho:orderly ops=true)
  (hdone:(∀i,i<ops.size→i∈ℓ)→K S D B L)
  (hloud :∀m o,ops[m]? = some o→m ∉ ℓ→ZcK o ℓ→opX P n ops m o (fun v D' B' L'=>I B' L'∧Zbr C k n ops I (m :: ℓ) K (ZbG S o.dst v) D' B' L') (sel (o.looksAt ops) S) D B L):Zbr C k n ops I ℓ K S D B L:=by
 intro T ex pend π hs
 induction hs generalizing T pend with
 | @nil ex hall=>
  intro hcl hsub hcov hpd hord hn hpa hag hI hA
  have hp0:pend=[]:=by
   cases pend with
   | nil=>rfl
   | cons p r=>exact absurd (hall p.i (ZS (hpd p (List.mem_cons_self ..)).at_)) (hpd p (List.mem_cons_self ..)).notEx
  subst hp0
  exact hA S D B L T (Kn.le.refl B) (hdone fun i hi=>hsub i (hall i hi)) hn hag
 | @cons ex π m o hm hx he hs ih=>
  intro hcl hsub hcov hpd hord hn hpa hag hI hA
  have hcl':=hcl.cons hm he
  by_cases hml:m∈ℓ
  ·rcases hcov m hml with h | ⟨p,hp,rfl⟩
   ·exact absurd h hx
   ·obtain ⟨p1,p2,rfl⟩:=List.append_of_mem hp
    have hpk:=hpd p hp
    have hpo:p.o=o:=by have:=hpk.at_;rw [hm] at this;exact (Option.some.inj this).symm
    obtain ⟨o1,o2,o3⟩:=Zd6 hord
    have hconf :∀q,q∈p1→conf ops q.o p.o=false∧ZiQ ops q:=fun q hq=>by
     have hqk:=hpd q (List.mem_append.2 (.inl hq))
     refine ⟨?_,hqk.dom⟩
     cases hc:conf ops q.o p.o with
     | false=>rfl
     | true=>
      rcases Zcc ho hqk.at_ hpk.at_ (o1 q hq).2 hc with h | h
      ·rw [(o1 q hq).1] at h;cases h
      ·exact absurd (ZbJ h (hpo ▸ he)) hqk.notEx
    obtain ⟨a1,a2,a3⟩:=Zgo hpk.dom p1 p2 T hconf hpa
    refine (hpk.quiet D B L hI).2 C π k T hpk.at_ hn a1 ?_
    rintro v D' B' L' hle ⟨rfl,rfl,rfl,rfl⟩
    refine ih _ (p1 ++ p2) hcl' (fun i hi=>?_) (fun i hi=>?_) (fun q hq=>?_) o3 (by rw [Zao,hn]) a3 (by rw [a2];exact hag) hI hA
    ·rcases List.mem_cons.1 hi with rfl | hi
     ·exact hml
     ·exact hsub i hi
    ·rcases hcov i hi with h | ⟨q,hq,rfl⟩
     ·exact .inl (List.mem_cons_of_mem _ h)
     ·rcases List.mem_append.1 hq with hq | hq
      ·exact .inr ⟨q,List.mem_append.2 (.inl hq),rfl⟩
      ·rcases List.mem_cons.1 hq with rfl | hq
       ·exact .inl (List.mem_cons_self ..)
       ·exact .inr ⟨q,List.mem_append.2 (.inr hq),rfl⟩
    ·have hq':q∈p1 ++ p :: p2:=by
      rcases List.mem_append.1 hq with hq | hq
      ·exact List.mem_append.2 (.inl hq)
      ·exact List.mem_append.2 (.inr (List.mem_cons_of_mem _ hq))
     have hqk:=hpd q hq'
     refine ⟨hqk.at_,fun hmem=>?_,hqk.listed,hqk.edges,hqk.dom,hqk.quiet,hqk.pure⟩
     rcases List.mem_cons.1 hmem with h | h
     ·rcases List.mem_append.1 hq with hq | hq
      ·exact (o1 q hq).2 h
      ·exact o2 q hq h.symm
     ·exact hqk.notEx h
  ·have hel:ZcK o ℓ:=fun e h1 h2=>hsub _ (he e h1 h2)
   have hconf :∀q,q∈pend→conf ops q.o o=false∧ZiQ ops q:=fun q hq=>by
    have hqk:=hpd q hq
    refine ⟨?_,hqk.dom⟩
    cases hc:conf ops q.o o with
    | false=>rfl
    | true=>
     rcases Zcc ho hqk.at_ hm (fun e=>hml (e ▸ hqk.listed)) hc with h | h
     ·exact absurd (ZbJ h hqk.edges) hml
     ·exact absurd (ZbJ h he) hqk.notEx
   have hsel:Ag T (sel (o.looksAt ops) S):=fun i v hv=>by
    obtain ⟨h1,h2⟩:=ZfR hv
    rw [← (ZeU (o:=o) (v:=undef) pend T hconf hpa).2.2 i h1]
    exact hag i v h2
   have hX:=hloud m o hm hml hel
   refine hX.2 C π k T hm hn hsel ?_
   rintro v D' B' L' hle ⟨hI',hAny⟩
   obtain ⟨b1,b2,_⟩:=ZeU (o:=o) (v:=v) pend T hconf hpa
   refine hAny _ (m :: ex) pend π hs hcl' (fun i hi=>?_) (fun i hi=>?_) (fun q hq=>?_) hord (by rw [Zao,hn]) b2 (by rw [b1];exact hag.putT (by rw [Zgk,hn]) hX.1 v) hI' fun S₂ D₂ B₂ L₂ T₂ hle₂=>hA S₂ D₂ B₂ L₂ T₂ (hle.trans hle₂)
   ·rcases List.mem_cons.1 hi with rfl | hi
    ·exact List.mem_cons_self ..
    ·exact List.mem_cons_of_mem _ (hsub i hi)
   ·rcases List.mem_cons.1 hi with rfl | hi
    ·exact .inl (List.mem_cons_self ..)
    ·exact (hcov i hi).imp (List.mem_cons_of_mem _) id
   ·have hqk:=hpd q hq
    refine ⟨hqk.at_,fun hmem=>?_,List.mem_cons_of_mem _ hqk.listed,fun e h1 h2=>List.mem_cons_of_mem _ (hqk.edges e h1 h2),hqk.dom,hqk.quiet,hqk.pure⟩
    rcases List.mem_cons.1 hmem with h | h
    ·exact hml (h ▸ hqk.listed)
    ·exact hqk.notEx h
def Ze8 (ops:Array Oper) (ℓ:List Nat):Bool:=(List.range ops.size).all fun i=>ℓ.contains i
theorem Zy (ho:orderly ops=true) (ha:Ze8 ops ℓ=true) (h:K S D B L):Zbr C k n ops I ℓ K S D B L:=
 ZkK ho (fun _=>h) fun m o hm hml _=>by
  have:=List.all_eq_true.1 ha m (List.mem_range.2 (ZS hm))
  exact absurd (by simpa using this) hml
def ZaR (ops:Array Oper) (ℓ:List Nat):List Nat:=(List.range ops.size).filter fun i=>!ℓ.contains i && (match ops[i]? with | some o=>o.after.toList.all fun e=>!Region.binds .any e || ℓ.contains e.on | none=>false)
theorem ZgS {m:Nat} {o:Oper} (hm:ops[m]? = some o) (hx:m ∉ ℓ) (he:ZcK o ℓ):m∈ZaR ops ℓ:=by
 refine List.mem_filter.2 ⟨List.mem_range.2 (ZS hm),?_⟩
 simp only [hm,Bool.and_eq_true,Bool.not_eq_true',List.all_eq_true,Bool.or_eq_true]
 refine ⟨by simpa using hx,fun e h1=>?_⟩
 cases hb:Region.binds .any e with
 | false=>exact .inl rfl
 | true=>exact .inr (by simpa using he e h1 hb)
def Zs6:List Nat→(Nat→Prop)→Prop
 | [],_=>True
 | [m],F=>F m
 | m :: r,F=>F m∧Zs6 r F
theorem Zjv {F:Nat→Prop} :∀{rs:List Nat},Zs6 rs F→∀m,m∈rs→F m
 | [m],h,x,hx=>by rw [List.mem_singleton.1 hx];exact h
 | m :: m' :: r,h,x,hx=>by
  rcases List.mem_cons.1 hx with rfl | hx
  ·exact h.1
  ·exact Zjv h.2 x hx
theorem ZkL (rs:List Nat) (ho:orderly ops=true) (hr:ZaR ops ℓ=rs) (hne:Ze8 ops ℓ=false)
  (h:Zs6 rs fun m=>match ops[m]? with
   | some o=>opX P n ops m o (fun v D' B' L'=>I B' L'∧Zbr C k n ops I (m :: ℓ) K (ZbG S o.dst v) D' B' L') (sel (o.looksAt ops) S) D B L
   | none=>True):Zbr C k n ops I ℓ K S D B L:=
 ZkK ho (fun hall=>by
   have:Ze8 ops ℓ=true:=List.all_eq_true.2 fun i hi=>by simpa using hall i (List.mem_range.1 hi)
   rw [this] at hne;cases hne)
  fun m o hm hml he=>by
   have:=Zjv h m (hr ▸ ZgS hm hml he)
   rw [hm] at this
   exact this
theorem Zmw (i:Nat) {o:Oper} {v:Value} (hi:ops[i]? = some o) (hr:(ZaR ops ℓ).contains i=true) (hd:Zw n o.dst=true) (hq:quiet P n ops I i o v (sel (o.looksAt ops) S)) (hpu:Zjj o=true→quiet P n ops (fun _ _=>True) i o v (sel (o.looksAt ops) S))
  (h:Zbr C k n ops I (i :: ℓ) K (ZbG S o.dst v) D B L):Zbr C k n ops I ℓ K S D B L:=by
 intro T ex pend π hs hcl hsub hcov hpd hord hn hpa hag hI hA
 have hrm:i∈ZaR ops ℓ:=by simpa using hr
 have hr2:=(List.mem_filter.1 hrm).2
 simp only [hi,Bool.and_eq_true,Bool.not_eq_true',List.all_eq_true,Bool.or_eq_true] at hr2
 obtain ⟨r1,r2⟩:=hr2
 have hil:i ∉ ℓ:=by simpa using r1
 have hel:ZcK o ℓ:=fun e h1 h2=>by
  rcases r2 e h1 with h | h
  ·rw [h2] at h;cases h
  ·simpa using h
 let p:Pd:=⟨i,o,v,sel (o.looksAt ops) S⟩
 have hρ:Ag (puts pend T) p.ρ:=fun j u hu=>hag j u (ZfR hu).2
 obtain ⟨s1,s2⟩:=Zls pend p T
 refine h T ex (pend ++ [p]) π hs hcl (fun j hj=>List.mem_cons_of_mem _ (hsub j hj)) (fun j hj=>?_) (fun q hq'=>?_) (Zh5 hord fun q hq'=>?_) hn (s2.2 ⟨hpa,hρ⟩) (by rw [s1];exact hag.putT (by rw [Zgk,hn]) hd v) hI hA
 ·rcases List.mem_cons.1 hj with rfl | hj
  ·exact .inr ⟨p,by simp,rfl⟩
  ·rcases hcov j hj with h | ⟨q,hq,he⟩
   ·exact .inl h
   ·exact .inr ⟨q,List.mem_append.2 (.inl hq),he⟩
 ·rcases List.mem_append.1 hq' with hq' | hq'
  ·have hqk:=hpd q hq'
   exact ⟨hqk.at_,hqk.notEx,List.mem_cons_of_mem _ hqk.listed,fun e h1 h2=>List.mem_cons_of_mem _ (hqk.edges e h1 h2),hqk.dom,hqk.quiet,hqk.pure⟩
  ·rw [List.mem_singleton.1 hq']
   exact ⟨hi,fun hx=>hil (hsub i hx),List.mem_cons_self ..,fun e h1 h2=>List.mem_cons_of_mem _ (hel e h1 h2),fun j u hu=>(ZfR hu).1,hq,hpu⟩
 ·have hqk:=hpd q hq'
  refine ⟨?_,fun e=>hil (by have e':q.i=i:=e;rw [← e'];exact hqk.listed)⟩
  show ZdS q.o i=false
  cases hb:ZdS q.o i with
  | false=>rfl
  | true=>exact absurd (ZbJ hb hqk.edges) hil
theorem ZvV (i:Nat) {o:Oper} {v:Value} (hi:ops[i]? = some o) (hr:(ZaR ops ℓ).contains i=true) (hd:Zw n o.dst=true) (hq:quiet P n ops I i o v (sel (o.looksAt ops) S)) (h:Zbr C k n ops I (i :: ℓ) K (ZbG S o.dst v) D B L) (hp:Zjj o=false:=by rfl):Zbr C k n ops I ℓ K S D B L:=
 Zmw i hi hr hd hq (fun e=>by rw [hp] at e;cases e) h
theorem Zal (i:Nat) {o:Oper} {v:Value} (hi:ops[i]? = some o) (hr:(ZaR ops ℓ).contains i=true) (hd:Zw n o.dst=true) (hq :∀D B L,opX P n ops i o (fun v' D' B' L'=>v'=v∧D'=D∧B'=B∧L'=L) (sel (o.looksAt ops) S) D B L)
  (h:Zbr C k n ops I (i :: ℓ) K (ZbG S o.dst v) D B L):Zbr C k n ops I ℓ K S D B L:=
 Zmw i hi hr hd (fun D B L _=>hq D B L) (fun _ D B L _=>hq D B L) h
theorem ZV (i:Nat) {o:Oper} (ho:orderly ops=true) (hi:ops[i]? = some o) (hr:ZaR ops ℓ=[i])
  (h:opX P n ops i o (fun v D' B' L'=>I B' L'∧Zbr C k n ops I (i :: ℓ) K (ZbG S o.dst v) D' B' L') (sel (o.looksAt ops) S) D B L):Zbr C k n ops I ℓ K S D B L:=
 ZkK ho (fun hall=>by
   have hm:i∈ZaR ops ℓ:=by rw [hr];exact List.mem_singleton.2 rfl
   have h2:=(List.mem_filter.1 hm).2
   have h3:=hall i (ZS hi)
   simp [h3] at h2)
  fun m o' hm hml he=>by
   have h1:=ZgS hm hml he
   rw [hr,List.mem_singleton] at h1
   subst h1
   rw [hi] at hm;cases hm
   exact h
def waits (ops:Array Oper):Nat→List Nat→List Nat
 | 0,w=>w
 | k+1,w=>waits ops k (w ++ (w.flatMap fun i=>match ops[i]? with | some o=>(o.after.toList.filter fun e=>Region.binds .any e).map (·.on) | none=>[]).eraseDups.filter fun j=>!w.contains j)
theorem ZhC {ops:Array Oper} {ex:List Nat} (hc:Closed ops ex) :∀(k:Nat) (w:List Nat),(∀i,i∈w→i∈ex)→∀i,i∈waits ops k w→i∈ex
 | 0,w,h,i,hi=>h i hi
 | k+1,w,h,i,hi=>by
  refine ZhC hc k _ (fun j hj=>?_) i hi
  rcases List.mem_append.1 hj with hj | hj
  ·exact h j hj
  ·have h1:=(List.mem_filter.1 hj).1
   rw [List.mem_eraseDups] at h1
   obtain ⟨x,hx,hj2⟩:=List.mem_flatMap.1 h1
   split at hj2
   ·rename_i o ho
    obtain ⟨e,he,rfl⟩:=List.mem_map.1 hj2
    obtain ⟨he1,he2⟩:=List.mem_filter.1 he
    exact hc x (h x hx) o ho e he1 he2
   ·cases hj2
def Zeg (o:Oper):List Nat:=(o.after.toList.filter fun e=>Region.binds .any e).map (·.on)
def isLast (ops:Array Oper) (m:Nat) (o:Oper):Bool:=(List.range ops.size).all fun i=>Nat.beq i m || (waits ops 12 (Zeg o)).contains i
theorem Zb8 (m:Nat) {o:Oper} (ho:orderly ops=true) (hm:ops[m]? = some o) (hl:isLast ops m o=true) (hml:ℓ.contains m=false) (hall:Ze8 ops (m :: ℓ)=true)
  (h:opX P n ops m o (fun v D' B' L'=>K (ZbG S o.dst v) D' B' L') (sel (o.looksAt ops) S) D B L):Zbr C k n ops I ℓ K S D B L:=by
 have hml':m ∉ ℓ:=by simpa using hml
 have hall' :∀i,i<ops.size→i=m∨i∈ℓ:=fun i hi=>by
  have:=List.all_eq_true.1 hall i (List.mem_range.2 hi)
  simpa using this
 intro T ex pend π hs
 induction hs generalizing T pend with
 | @nil ex hex=>
  intro hcl hsub hcov hpd hord hn hpa hag hI hA
  exact absurd (hsub m (hex m (ZS hm))) hml'
 | @cons ex π m' o' hm' hx he hs ih=>
  intro hcl hsub hcov hpd hord hn hpa hag hI hA
  have hcl':=hcl.cons hm' he
  by_cases hmm:m'=m
  ·subst hmm
   rw [hm] at hm';cases hm'
   have hexall :∀i,i<ops.size→i≠m'→i∈ex:=fun i hi hne=>by
    have h1:=List.all_eq_true.1 hl i (List.mem_range.2 hi)
    have h2:i∈waits ops 12 (Zeg o):=by
     rcases Bool.or_eq_true_iff.1 h1 with h1 | h1
     ·exact absurd (Nat.eq_of_beq_eq_true h1) hne
     ·simpa using h1
    refine ZhC hcl 12 _ (fun j hj=>?_) i h2
    obtain ⟨e,he1,rfl⟩:=List.mem_map.1 hj
    obtain ⟨h3,h4⟩:=List.mem_filter.1 he1
    exact he e h3 h4
   have hp0:pend=[]:=by
    cases pend with
    | nil=>rfl
    | cons p r=>
     have hpk:=hpd p (List.mem_cons_self ..)
     by_cases hpm:p.i=m'
     ·exact absurd (hpm ▸ hpk.listed) hml'
     ·exact absurd (hexall p.i (ZS hpk.at_) hpm) hpk.notEx
   subst hp0
   have hπ:π=[]:=by
    cases hs with
    | nil _=>rfl
    | @cons _ π' m2 o2 h2 hx2 he2 hs2=>
     exfalso
     by_cases e:m2=m'
     ·exact hx2 (e ▸ List.mem_cons_self ..)
     ·exact hx2 (List.mem_cons_of_mem _ (hexall m2 (ZS h2) e))
   subst hπ
   have hsel:Ag T (sel (o.looksAt ops) S):=fun i v hv=>hag i v (ZfR hv).2
   refine h.2 C [] k T hm hn hsel fun v D' B' L' hle hK=>?_
   exact hA _ D' B' L' _ hle hK (by rw [Zao,hn]) (Ag.putT (T:=T) hag hn h.1 v)
  ·have hml2:m'∈ℓ:=(hall' m' (ZS hm')).resolve_left hmm
   rcases hcov m' hml2 with h' | ⟨p,hp,rfl⟩
   ·exact absurd h' hx
   ·obtain ⟨p1,p2,rfl⟩:=List.append_of_mem hp
    have hpk:=hpd p hp
    have hpo:p.o=o':=by have:=hpk.at_;rw [hm'] at this;exact (Option.some.inj this).symm
    obtain ⟨o1,o2,o3⟩:=Zd6 hord
    have hconf :∀q,q∈p1→conf ops q.o p.o=false∧ZiQ ops q:=fun q hq=>by
     have hqk:=hpd q (List.mem_append.2 (.inl hq))
     refine ⟨?_,hqk.dom⟩
     cases hc:conf ops q.o p.o with
     | false=>rfl
     | true=>
      rcases Zcc ho hqk.at_ hpk.at_ (o1 q hq).2 hc with h | h
      ·rw [(o1 q hq).1] at h;cases h
      ·exact absurd (ZbJ h (hpo ▸ he)) hqk.notEx
    obtain ⟨a1,a2,a3⟩:=Zgo hpk.dom p1 p2 T hconf hpa
    refine (hpk.quiet D B L hI).2 C π k T hpk.at_ hn a1 ?_
    rintro v D' B' L' hle ⟨rfl,rfl,rfl,rfl⟩
    refine ih _ (p1 ++ p2) hcl' (fun i hi=>?_) (fun i hi=>?_) (fun q hq=>?_) o3 (by rw [Zao,hn]) a3 (by rw [a2];exact hag) hI hA
    ·rcases List.mem_cons.1 hi with rfl | hi
     ·exact hml2
     ·exact hsub i hi
    ·rcases hcov i hi with h | ⟨q,hq,rfl⟩
     ·exact .inl (List.mem_cons_of_mem _ h)
     ·rcases List.mem_append.1 hq with hq | hq
      ·exact .inr ⟨q,List.mem_append.2 (.inl hq),rfl⟩
      ·rcases List.mem_cons.1 hq with rfl | hq
       ·exact .inl (List.mem_cons_self ..)
       ·exact .inr ⟨q,List.mem_append.2 (.inr hq),rfl⟩
    ·have hq':q∈p1 ++ p :: p2:=by
      rcases List.mem_append.1 hq with hq | hq
      ·exact List.mem_append.2 (.inl hq)
      ·exact List.mem_append.2 (.inr (List.mem_cons_of_mem _ hq))
     have hqk:=hpd q hq'
     refine ⟨hqk.at_,fun hmem=>?_,hqk.listed,hqk.edges,hqk.dom,hqk.quiet,hqk.pure⟩
     rcases List.mem_cons.1 hmem with h | h
     ·rcases List.mem_append.1 hq with hq | hq
      ·exact (o1 q hq).2 h
      ·exact o2 q hq h.symm
     ·exact hqk.notEx h
theorem ZhI (m:Nat) {o:Oper} (ho:orderly ops=true) (hm:ops[m]? = some o) (hl:isLast ops m o=true) (hml:ℓ.contains m=false) (hall:Ze8 ops (m :: ℓ)=true)
  (h :∀T,T.size=n→Ag T S→C.X.R (G (fat C.b T D (.inRegion ops [m] :: k)) C.cs) B (L.flatten ++ C.F)):Zbr C k n ops I ℓ K S D B L:=by
 have hml':m ∉ ℓ:=by simpa using hml
 have hall' :∀i,i<ops.size→i=m∨i∈ℓ:=fun i hi=>by
  have:=List.all_eq_true.1 hall i (List.mem_range.2 hi)
  simpa using this
 intro T ex pend π hs
 induction hs generalizing T pend with
 | @nil ex hex=>
  intro hcl hsub hcov hpd hord hn hpa hag hI hA
  exact absurd (hsub m (hex m (ZS hm))) hml'
 | @cons ex π m' o' hm' hx he hs ih=>
  intro hcl hsub hcov hpd hord hn hpa hag hI hA
  have hcl':=hcl.cons hm' he
  by_cases hmm:m'=m
  ·subst hmm
   rw [hm] at hm';cases hm'
   have hexall :∀i,i<ops.size→i≠m'→i∈ex:=fun i hi hne=>by
    have h1:=List.all_eq_true.1 hl i (List.mem_range.2 hi)
    have h2:i∈waits ops 12 (Zeg o):=by
     rcases Bool.or_eq_true_iff.1 h1 with h1 | h1
     ·exact absurd (Nat.eq_of_beq_eq_true h1) hne
     ·simpa using h1
    refine ZhC hcl 12 _ (fun j hj=>?_) i h2
    obtain ⟨e,he1,rfl⟩:=List.mem_map.1 hj
    obtain ⟨h3,h4⟩:=List.mem_filter.1 he1
    exact he e h3 h4
   have hp0:pend=[]:=by
    cases pend with
    | nil=>rfl
    | cons p r=>
     have hpk:=hpd p (List.mem_cons_self ..)
     by_cases hpm:p.i=m'
     ·exact absurd (hpm ▸ hpk.listed) hml'
     ·exact absurd (hexall p.i (ZS hpk.at_) hpm) hpk.notEx
   subst hp0
   have hπ:π=[]:=by
    cases hs with
    | nil _=>rfl
    | @cons _ π' m2 o2 h2 hx2 he2 hs2=>
     exfalso
     by_cases e:m2=m'
     ·exact hx2 (e ▸ List.mem_cons_self ..)
     ·exact hx2 (List.mem_cons_of_mem _ (hexall m2 (ZS h2) e))
   subst hπ
   exact h T hn hag
  ·have hml2:m'∈ℓ:=(hall' m' (ZS hm')).resolve_left hmm
   rcases hcov m' hml2 with h' | ⟨p,hp,rfl⟩
   ·exact absurd h' hx
   ·obtain ⟨p1,p2,rfl⟩:=List.append_of_mem hp
    have hpk:=hpd p hp
    have hpo:p.o=o':=by have:=hpk.at_;rw [hm'] at this;exact (Option.some.inj this).symm
    obtain ⟨o1,o2,o3⟩:=Zd6 hord
    have hconf :∀q,q∈p1→conf ops q.o p.o=false∧ZiQ ops q:=fun q hq=>by
     have hqk:=hpd q (List.mem_append.2 (.inl hq))
     refine ⟨?_,hqk.dom⟩
     cases hc:conf ops q.o p.o with
     | false=>rfl
     | true=>
      rcases Zcc ho hqk.at_ hpk.at_ (o1 q hq).2 hc with h | h
      ·rw [(o1 q hq).1] at h;cases h
      ·exact absurd (ZbJ h (hpo ▸ he)) hqk.notEx
    obtain ⟨a1,a2,a3⟩:=Zgo hpk.dom p1 p2 T hconf hpa
    refine (hpk.quiet D B L hI).2 C π k T hpk.at_ hn a1 ?_
    rintro v D' B' L' hle ⟨rfl,rfl,rfl,rfl⟩
    refine ih _ (p1 ++ p2) hcl' (fun i hi=>?_) (fun i hi=>?_) (fun q hq=>?_) o3 (by rw [Zao,hn]) a3 (by rw [a2];exact hag) hI hA
    ·rcases List.mem_cons.1 hi with rfl | hi
     ·exact hml2
     ·exact hsub i hi
    ·rcases hcov i hi with h | ⟨q,hq,rfl⟩
     ·exact .inl (List.mem_cons_of_mem _ h)
     ·rcases List.mem_append.1 hq with hq | hq
      ·exact .inr ⟨q,List.mem_append.2 (.inl hq),rfl⟩
      ·rcases List.mem_cons.1 hq with rfl | hq
       ·exact .inl (List.mem_cons_self ..)
       ·exact .inr ⟨q,List.mem_append.2 (.inr hq),rfl⟩
    ·have hq':q∈p1 ++ p :: p2:=by
      rcases List.mem_append.1 hq with hq | hq
      ·exact List.mem_append.2 (.inl hq)
      ·exact List.mem_append.2 (.inr (List.mem_cons_of_mem _ hq))
     have hqk:=hpd q hq'
     refine ⟨hqk.at_,fun hmem=>?_,hqk.listed,hqk.edges,hqk.dom,hqk.quiet,hqk.pure⟩
     rcases List.mem_cons.1 hmem with h | h
     ·rcases List.mem_append.1 hq with hq | hq
      ·exact (o1 q hq).2 h
      ·exact o2 q hq h.symm
     ·exact hqk.notEx h
def Zuw (ops:Array Oper) (ℓ:List Nat) (o:Oper):Bool:=ℓ.all fun i=>(waits ops 12 (Zeg o)).contains i || (match ops[i]? with | some x=>Zjj x | none=>true)
theorem Zf4 (m:Nat) {o:Oper} (ho:orderly ops=true) (hm:ops[m]? = some o) (hr:ZaR ops ℓ=[m]) (hl:Zuw ops ℓ o=true)
  (h:opX P n ops m o (fun v D' B' L'=>Zbr C k n ops (fun _ _=>True) (m :: ℓ) K (ZbG S o.dst v) D' B' L') (sel (o.looksAt ops) S) D B L):Zbr C k n ops I ℓ K S D B L:=by
 have hmr:m∈ZaR ops ℓ:=by rw [hr];exact List.mem_singleton.2 rfl
 have hml':m ∉ ℓ:=by have:=(List.mem_filter.1 hmr).2;simp only [hm,Bool.and_eq_true,Bool.not_eq_true'] at this;simpa using this.1
 intro T ex pend π hs
 induction hs generalizing T pend with
 | @nil ex hex=>
  intro hcl hsub hcov hpd hord hn hpa hag hI hA
  exact absurd (hsub m (hex m (ZS hm))) hml'
 | @cons ex π m' o' hm' hx he hs ih=>
  intro hcl hsub hcov hpd hord hn hpa hag hI hA
  have hcl':=hcl.cons hm' he
  by_cases hmm:m'=m
  ·subst hmm
   rw [hm] at hm';cases hm'
   have hel:ZcK o ℓ:=fun e h1 h2=>hsub _ (he e h1 h2)
   have hconf :∀q,q∈pend→conf ops q.o o=false∧ZiQ ops q:=fun q hq=>by
    have hqk:=hpd q hq
    refine ⟨?_,hqk.dom⟩
    cases hc:conf ops q.o o with
    | false=>rfl
    | true=>
     rcases Zcc ho hqk.at_ hm (fun e=>hml' (e ▸ hqk.listed)) hc with h | h
     ·exact absurd (ZbJ h hqk.edges) hml'
     ·exact absurd (ZbJ h he) hqk.notEx
   have hsel:Ag T (sel (o.looksAt ops) S):=fun i v hv=>by
    obtain ⟨h1,h2⟩:=ZfR hv
    rw [← (ZeU (o:=o) (v:=undef) pend T hconf hpa).2.2 i h1]
    exact hag i v h2
   refine h.2 C π k T hm hn hsel ?_
   intro v D' B' L' hle hAny
   obtain ⟨b1,b2,_⟩:=ZeU (o:=o) (v:=v) pend T hconf hpa
   have hw :∀i,i∈waits ops 12 (Zeg o)→i∈ex:=fun i hi=>by
    refine ZhC hcl 12 _ (fun j hj=>?_) i hi
    obtain ⟨e,he1,rfl⟩:=List.mem_map.1 hj
    obtain ⟨h3,h4⟩:=List.mem_filter.1 he1
    exact he e h3 h4
   refine hAny _ (m' :: ex) pend π hs hcl' (fun i hi=>?_) (fun i hi=>?_) (fun q hq=>?_) hord (by rw [Zao,hn]) b2 (by rw [b1];exact hag.putT (by rw [Zgk,hn]) h.1 v) trivial fun S₂ D₂ B₂ L₂ T₂ hle₂=>hA S₂ D₂ B₂ L₂ T₂ (hle.trans hle₂)
   ·rcases List.mem_cons.1 hi with rfl | hi
    ·exact List.mem_cons_self ..
    ·exact List.mem_cons_of_mem _ (hsub i hi)
   ·rcases List.mem_cons.1 hi with rfl | hi
    ·exact .inl (List.mem_cons_self ..)
    ·exact (hcov i hi).imp (List.mem_cons_of_mem _) id
   ·have hqk:=hpd q hq
    have hpu:Zjj q.o=true:=by
     have h1:=List.all_eq_true.1 hl q.i hqk.listed
     rcases Bool.or_eq_true_iff.1 h1 with h1 | h1
     ·exact absurd (hw q.i (by simpa using h1)) hqk.notEx
     ·rw [hqk.at_] at h1;exact h1
    refine ⟨hqk.at_,fun hmem=>?_,List.mem_cons_of_mem _ hqk.listed,fun e h1 h2=>List.mem_cons_of_mem _ (hqk.edges e h1 h2),hqk.dom,hqk.pure hpu,hqk.pure⟩
    rcases List.mem_cons.1 hmem with h | h
    ·exact hml' (h ▸ hqk.listed)
    ·exact hqk.notEx h
  ·have hml2:m'∈ℓ:=by
    apply Classical.byContradiction
    intro hno
    have h1:=ZgS hm' hno (fun e h1 h2=>hsub _ (he e h1 h2))
    rw [hr,List.mem_singleton] at h1
    exact hmm h1
   rcases hcov m' hml2 with h' | ⟨p,hp,rfl⟩
   ·exact absurd h' hx
   ·obtain ⟨p1,p2,rfl⟩:=List.append_of_mem hp
    have hpk:=hpd p hp
    have hpo:p.o=o':=by have:=hpk.at_;rw [hm'] at this;exact (Option.some.inj this).symm
    obtain ⟨o1,o2,o3⟩:=Zd6 hord
    have hconf :∀q,q∈p1→conf ops q.o p.o=false∧ZiQ ops q:=fun q hq=>by
     have hqk:=hpd q (List.mem_append.2 (.inl hq))
     refine ⟨?_,hqk.dom⟩
     cases hc:conf ops q.o p.o with
     | false=>rfl
     | true=>
      rcases Zcc ho hqk.at_ hpk.at_ (o1 q hq).2 hc with h | h
      ·rw [(o1 q hq).1] at h;cases h
      ·exact absurd (ZbJ h (hpo ▸ he)) hqk.notEx
    obtain ⟨a1,a2,a3⟩:=Zgo hpk.dom p1 p2 T hconf hpa
    refine (hpk.quiet D B L hI).2 C π k T hpk.at_ hn a1 ?_
    rintro v D' B' L' hle ⟨rfl,rfl,rfl,rfl⟩
    refine ih _ (p1 ++ p2) hcl' (fun i hi=>?_) (fun i hi=>?_) (fun q hq=>?_) o3 (by rw [Zao,hn]) a3 (by rw [a2];exact hag) hI hA
    ·rcases List.mem_cons.1 hi with rfl | hi
     ·exact hml2
     ·exact hsub i hi
    ·rcases hcov i hi with h | ⟨q,hq,rfl⟩
     ·exact .inl (List.mem_cons_of_mem _ h)
     ·rcases List.mem_append.1 hq with hq | hq
      ·exact .inr ⟨q,List.mem_append.2 (.inl hq),rfl⟩
      ·rcases List.mem_cons.1 hq with rfl | hq
       ·exact .inl (List.mem_cons_self ..)
       ·exact .inr ⟨q,List.mem_append.2 (.inr hq),rfl⟩
    ·have hq':q∈p1 ++ p :: p2:=by
      rcases List.mem_append.1 hq with hq | hq
      ·exact List.mem_append.2 (.inl hq)
      ·exact List.mem_append.2 (.inr (List.mem_cons_of_mem _ hq))
     have hqk:=hpd q hq'
     refine ⟨hqk.at_,fun hmem=>?_,hqk.listed,hqk.edges,hqk.dom,hqk.quiet,hqk.pure⟩
     rcases List.mem_cons.1 hmem with h | h
     ·rcases List.mem_append.1 hq with hq | hq
      ·exact (o1 q hq).2 h
      ·exact o2 q hq h.symm
     ·exact hqk.notEx h
theorem ZW {id:Nat} {l:List Oper} {Q:Exit→Zag} (I:Kn→List Cells→Prop) (hm:P.follows .mixedOrders=true) (hd:Zdw l.toArray=true) (hI:I B L) (h :∀(C:Cx P) (k:List Item),Zbr C k n l.toArray I [] (Q .normal) S D B L):wpS P n (.region id l.toArray true) Q S D B L:=fun C k T hn hT hA=>by
 refine C.X.step rfl fun w s=>⟨_,_,_,B,L.flatten ++ C.F,Zfz,by simp,⟨Kn.le.refl B,⟨s.ro,s.own,s.nodup,s.apart⟩,Nat.le_refl _,fun _ _ _=>rfl,fun b o hb=>.inl (by rw [hb];rfl),fun p hp=>.inl ⟨p,hp,rfl⟩,rfl,rfl,rfl⟩,?_⟩
 exact h C k T [] [] _ (Zoh hm hd _) (fun i hi=>by cases hi) (fun i hi=>by cases hi) (fun i hi=>by cases hi) (fun p hp=>by cases hp) trivial hn trivial hT hI fun S' D' B' L' T' hle hq hn' hT'=>
  C.X.ctl rfl (fun w=>Zcm) (hA .normal S' D' B' L' T' hle hq hn' hT')
end
end Go.BL
namespace Go.BL
section
variable {P:PJ} {C:Cx P} {k:List Item} {n:Nat} {Q:Exit→Zag} {S:Env} {D:List Deferred} {B:Kn} {L:List Cells}
theorem Zo3 {id:Nat} {l:List Oper} {y:Code} (d:Nat) (e:Bool) (ks:List Nat) (h:Zql P n l.toArray 0 l (fun S₂ D₂ B₂ L₂=>D₂=D∧B₂=B∧L₂=L∧get S₂ d=some (.bool e)∧Sub (sel ks S) S₂) S D B L)
  (h':wpS P n y Q ((d,.bool e) :: sel ks S) D B L):wpS P n (.seq (.region id l.toArray false) y) Q S D B L:=
 ZwZ (fun S₂ D₂ B₂ L₂=>D₂=D∧B₂=B∧L₂=L∧get S₂ d=some (.bool e)∧Sub (sel ks S) S₂) (Zd h) fun S₂ D₂ B₂ L₂ _ ⟨h1,h2,h3,h4,h5⟩=>by
  subst h1;subst h2;subst h3
  exact Z0 ((d,.bool e) :: sel ks S) ⟨h4,h5⟩ h'
theorem ZhQ {id:Nat} {l:List Oper} {y:Code} (d:Nat) (e:Bool) (ks:List Nat) (I:Kn→List Cells→Prop) (hm:P.follows .mixedOrders=true) (hd:Zdw l.toArray=true) (hI:I B L)
  (h :∀(C:Cx P) (k:List Item),Zbr C k n l.toArray I [] (fun S₂ D₂ B₂ L₂=>D₂=D∧B₂=B∧L₂=L∧get S₂ d=some (.bool e)∧Sub (sel ks S) S₂) S D B L)
  (h':wpS P n y Q ((d,.bool e) :: sel ks S) D B L):wpS P n (.seq (.region id l.toArray true) y) Q S D B L:=
 ZwZ (fun S₂ D₂ B₂ L₂=>D₂=D∧B₂=B∧L₂=L∧get S₂ d=some (.bool e)∧Sub (sel ks S) S₂) (ZW I hm hd hI h) fun S₂ D₂ B₂ L₂ _ ⟨h1,h2,h3,h4,h5⟩=>by
  subst h1;subst h2;subst h3
  exact Z0 ((d,.bool e) :: sel ks S) ⟨h4,h5⟩ h'
theorem Zj9 {S₂:Env} {d:Nat} {x e:Bool} (hx:get S₂ d=some (.bool x)) (he:x=e):get S₂ d=some (.bool e):=by rw [hx,he]
theorem Zax {ops:Array Oper} {I:Kn→List Cells→Prop} {ℓ:List Nat} {K:Zag} {d:Nat} {t:Bool} (hb:get S d=some (.bool t)) (h1:t=true→Zbr C k n ops I ℓ K ((d,.bool true) :: S) D B L) (h2:t=false→Zbr C k n ops I ℓ K ((d,.bool false) :: S) D B L):Zbr C k n ops I ℓ K S D B L:=by
 have key :∀(S':Env),(∀i v,get S' i=some v→get S i=some v)→Zbr C k n ops I ℓ K S' D B L→Zbr C k n ops I ℓ K S D B L:=
  fun S' hs h T ex pend π a1 a0 a2 a3 a4 a5 a6 a7 a8 a9 hA=>h T ex pend π a1 a0 a2 a3 a4 a5 a6 a7 (fun i v hv=>a8 i v (hs i v hv)) a9 hA
 have get_same :∀(u:Bool),t=u→∀i v,get ((d,Value.bool u) :: S) i=some v→get S i=some v:=by
  intro u hu i v hv
  simp only [get] at hv
  cases hbe:Nat.beq d i with
  | true=>
   rw [hbe] at hv
   simp only [cond_true,Option.some.injEq] at hv
   have:=Nat.eq_of_beq_eq_true hbe
   subst this;subst hu;rw [hb,← hv]
  | false=>rw [hbe] at hv;exact hv
 cases t with
 | true=>exact key _ (get_same true rfl) (h1 rfl)
 | false=>exact key _ (get_same false rfl) (h2 rfl)
@[reducible] def same (B:Kn) (L:List Cells):Kn→List Cells→Prop:=fun B' L'=>B'=B∧L'=L
theorem Z3 {ops:Array Oper} {i:Nat} {o:Oper} {v:Value} {ρ:Env} (h :∀D,opX P n ops i o (fun v' D' B' L'=>v'=v∧D'=D∧B'=B∧L'=L) ρ D B L):quiet P n ops (same B L) i o v ρ:=by
 rintro D _ _ ⟨rfl,rfl⟩;exact h D
end
end Go.BL
namespace Go.BL
def ZaH:List Nat→List Cells→List Cells→Prop
 | [],_,_=>True
 | j :: js,L,L'=>L'[j]? = L[j]?∧ZaH js L L'
@[reducible] def keeps (B:Kn) (js:List Nat) (L:List Cells):Kn→List Cells→Prop:=fun B' L'=>B.le B'∧ZaH js L L'
theorem ZaH.refl :∀(js:List Nat) (L:List Cells),ZaH js L L
 | [],_=>trivial
 | _ :: js,L=>⟨rfl,ZaH.refl js L⟩
section
variable {P:PJ} {C:Cx P} {k:List Item} {n:Nat} {B:Kn} {L:List Cells}
theorem ZO {ops:Array Oper} {I:Kn→List Cells→Prop} {i:Nat} {o:Oper} {v:Value} {ρ:Env} (h :∀D B L,I B L→opX P n ops i o (fun v' D' B' L'=>v'=v∧D'=D∧B'=B∧L'=L) ρ D B L):quiet P n ops I i o v ρ:=h
end
end Go.BL
namespace Go.BL
open Go.Conc (G)
def ZgC (l:Cells) (p:Option Addr) (n c:Nat) (T:TypeId) (sz:Nat) (vs:List Value):Prop:=
 vs.length=n*sz∧((p=none∧n=0∧c=0∧l=[])∨∃(b:Nat) (arr:List Value),p=some ⟨b,0,none⟩∧arr.length=c*sz∧arr.take (n*sz)=vs∧l=ZP b arr T∧n≤c)
theorem ZgC.nil (T:TypeId) (sz:Nat):ZgC [] none 0 0 T sz []:=⟨by simp,.inl ⟨rfl,rfl,rfl,rfl⟩⟩
theorem ZgC.lit {b:Nat} {arr:List Value} {T:TypeId} {sz n:Nat} (h:arr.length=n*sz):ZgC (ZP b arr T) (some ⟨b,0,none⟩) n n T sz arr:=
 ⟨h,.inr ⟨b,arr,rfl,h,by rw [← h];simp,rfl,Nat.le_refl _⟩⟩
theorem Zl4 (m:Nat) :∀(r c:Nat),256≤c→c≤2*m→Builtin.growBy m r c≤2*m
 | 0,c,_,h=>h
 | r+1,c,h0,h=>by
  simp only [Builtin.growBy]
  split
  ·exact h
  ·exact Zl4 m r _ (by omega) (by omega)
theorem ZeX {need cap:Nat} (h:cap<need):Builtin.nextslicecap need cap≤2*need:=by
 unfold Builtin.nextslicecap
 split
 ·omega
 ·split
  ·omega
  ·exact Zl4 need 4 cap (by omega) (by omega)
def ZcX (B:Kn) (L:Cells) (q:Option Addr) (ws:List Value):Prop:=match q with
 | none=>ws=[]
 | some a=>∀j v,ws[j]? = some v→ZaY B L (a.add j) v
theorem ZcX.app {B:Kn} {L F:Cells} {q:Option Addr} {ws:List Value} (h:ZcX B L q ws):ZcX B (L ++ F) q ws:=by
 cases q with
 | none=>exact h
 | some a=>exact fun j v hj=>(h j v hj).app
theorem Zcr {P:PJ} {B:Kn} {L:Cells} {q:Option Addr} {ws:List Value} {sz m c:Nat} (hs:ZcX B L q ws) (hl:ws.length=m*sz) {Q:Array Value→Kn→Cells→Prop} (h:Q ws.toArray B L):hb P (Builtin.firstCells sz m (.slice q m c)) Q B L:=by
 cases q with
 | none=>
  obtain rfl:ws=[]:=hs
  exact h
 | some a=>
  simp only [Builtin.firstCells,loadCells]
  rw [← hl]
  exact Zb0 ws 0 #[] (fun j v hj=>by simpa using hs j v hj) (by simpa using h)
theorem Z6 :∀(l:List Value) (i:Nat) (vs:List Value),(Z7 l i vs).length=l.length
 | [],i,[]=>by cases i <;> rfl
 | [],i,v :: vs=>by cases i <;> rfl
 | x :: l,0,[]=>rfl
 | x :: l,i+1,[]=>rfl
 | x :: l,0,v :: vs=>by simp [Z7,Z6 l 0 vs]
 | x :: l,i+1,v :: vs=>by simp [Z7,Z6 l i (v :: vs)]
theorem Zd3 :∀(l:List Value) (i:Nat) (vs:List Value),i+vs.length≤l.length→(Z7 l i vs).take (i+vs.length)=l.take i ++ vs
 | l,i,[],h=>by simp [Zbh]
 | [],i,v :: vs,h=>by simp at h
 | x :: l,0,v :: vs,h=>by
  have:=Zd3 l 0 vs (by simpa using h)
  simp only [Nat.zero_add] at this
  simp [Z7,this]
 | x :: l,i+1,v :: vs,h=>by
  have:=Zd3 l i (v :: vs) (by simp only [List.length_cons] at h ⊢;omega)
  simp only [Z7,List.take_succ_cons,List.cons_append,List.length_cons] at this ⊢
  rw [show i+1+(vs.length+1)=(i+(vs.length+1))+1 from by omega,List.take_succ_cons,this]
section
variable {P:PJ} {n:Nat} {ops:Array Oper} {i:Nat} {K:ZaE} {S:Env} {D:List Deferred} {B:Kn} {L:List Cells}
variable {dst:Option Tmp} {ty:TypeId} {pos:String} {after:Array Edge} {g:Option (Nat × Bool)}
def ZbL (P:Program) (t e:TypeId) (sz by_:Nat):Bool:=match P.underlying t,P.info? e with
 | some (.slice e'),some i=>e' == e && i.size == sz && i.bytes == by_ && Nat.blt 0 by_ && (match i.zero with | some z=>z.cells.size == sz | none=>false)
 | _,_=>false
theorem Zfk {k:Nat} {Q:Unit→Kn→Cells→Prop} {B:Kn} {L:Cells} (h:Q () B L):hb P (askRoom k) Q B L:=by
 unfold askRoom
 split
 ·exact ⟨rfl,h⟩
 ·exact h
theorem Zfv (z:Array Value) (k:Nat):(Builtin.zeroCells z k).size=k*z.size:=by simp [Builtin.zeroCells]
theorem Zfc {t u e:TypeId} {x y:Operand} {sz by_ m c d c2:Nat} {p q:Option Addr} {vs ws:List Value} {l:Cells} (j:Nat) (hj:L[j]? = some l) (hv:ZgC l p m c e sz vs) (hg:Zk ops S g=some true) (hd:Zw n dst=true)
  (he:ZbL P t e sz by_=true) (hu:(match P.underlying u with | some (.slice _)=>true | _=>false)=true) (hx:ev S x=some (.slice p m c)) (hy:ev S y=some (.slice q d c2)) (hs:ZcX B L.flatten q ws) (hl:ws.length=d*sz) (hone:ws.all ZgO=true) (hb1:(m+d)*by_≤140737488355328)
  (h :∀l' p' c',ZgC l' p' (m+d) c' e sz (vs ++ ws)→K (.slice p' (m+d) c') D B (L.set j l')):opX P n ops i ⟨dst,.call ⟨.builtin .append,#[x,y],#[t,u]⟩,ty,pos,after,g⟩ K S D B L:=
 Zcx hg hd fun ρ hρ F=>by
  unfold ZbL at he
  split at he
  ·rename_i e' inf hut hie
   simp only [Bool.and_eq_true,beq_iff_eq] at he
   obtain ⟨⟨⟨⟨rfl,hsz⟩,hby⟩,hpos⟩,hz⟩:=he
   cases hzo:inf.zero with
   | none=>rw [hzo] at hz;cases hz
   | some z=>
    rw [hzo] at hz
    have hz':z.cells.size=sz:=by simpa using hz
    have hsi:ZG P e'=some sz:=by simp [ZG,hie,hsz]
    have hzi:ZZ P e'=some z:=by simp [ZZ,hie,hzo]
    obtain ⟨du,hdu,hnoint⟩ :∃du,P.underlying u=some du∧(match du with | .slice _=>true | _=>false)=true:=by
     cases hq:P.underlying u with
     | none=>rw [hq] at hu;cases hu
     | some du=>exact ⟨du,rfl,by rw [hq] at hu;cases du <;> simp_all⟩
    obtain ⟨e2,rfl⟩ :∃e2,du = .slice e2:=by cases du <;> first | exact ⟨_,rfl⟩ | cases hnoint
    obtain ⟨rr,hp1,_⟩:=ZT F [] hj
    have hset :∀l',((L.set j l').flatten ++ F).Perm (l' ++ rr):=fun l'=>by
     obtain ⟨r2,a1,a2⟩:=ZT F l' hj
     have:rr.Perm r2:=(List.perm_append_left_iff l).1 (hp1.symm.trans a1)
     exact a2.trans (List.Perm.append_left l' this.symm)
    obtain ⟨hvl,hcase⟩:=hv
    simp only [execOp,resolve,Zi,Zp,invoke,builtin,Builtin.append_,List.map_toArray,List.map_cons,List.map_nil,hρ x _ hx,hρ y _ hy,List.getElem?_toArray,List.getElem?_cons_zero,List.getElem?_cons_succ,Zo hut,Zo hdu,Z4 hsi,Bool.false_eq_true,if_false,Builtin.lenOf,Bool.not_false,if_true]
    by_cases hfit:m+d≤c
    ·rw [if_pos hfit]
     simp only [Zi]
     refine Zcr hs.app hl ?_
     rcases hcase with ⟨rfl,rfl,rfl,rfl⟩ | ⟨b,arr,rfl,ha,ht,rfl,hmc⟩
     ·simp only [Zp]
      obtain rfl:d=0:=by omega
      have hw:ws=[]:=List.eq_nil_of_length_eq_zero (by simpa using hl)
      have hvn:vs=[]:=List.eq_nil_of_length_eq_zero (by simpa using hvl)
      refine ⟨L,.of (.refl _),?_⟩
      have:=h [] none 0 ⟨by simp [hw,hvn],.inl ⟨rfl,rfl,rfl,rfl⟩⟩
      rwa [Zgh hj] at this
     ·simp only [Zi]
      have hoff:(Addr.add ⟨b,0,none⟩ (m*sz)).off=m*sz:=by unfold Addr.add;split <;> simp_all
      have hblk:(Addr.add ⟨b,0,none⟩ (m*sz)).block=b:=by unfold Addr.add;split <;> rfl
      have hspt:(Addr.add ⟨b,0,none⟩ (m*sz)).spot=none:=by unfold Addr.add;split <;> rfl
      have hlen:m*sz+ws.length≤arr.length:=by rw [ha,hl,← Nat.add_mul];exact Nat.mul_le_mul_right sz hfit
      refine Zcp (T:=e') (L₁:=rr) hspt ws 0 arr _ hone (by rw [hblk];exact hp1) (by rw [hoff,Nat.add_zero];exact hlen) fun L' hp=>?_
      simp only [Zp]
      rw [hblk,hoff,Nat.add_zero] at hp
      refine ⟨L.set j (ZP b (Z7 arr (m*sz) ws) e'),(Sup.of (hp.trans (hset (ZP b (Z7 arr (m*sz) ws) e')).symm)),h _ _ _ ⟨?_,.inr ⟨b,_,rfl,by rw [Z6,ha],?_,rfl,hfit⟩⟩⟩
      ·rw [List.length_append,hvl,hl,Nat.add_mul]
      ·rw [Nat.add_mul,← hl,Zd3 _ _ _ hlen,ht]
    ·rw [if_neg hfit]
     have hcap:c<m+d:=by omega
     have hbig : ¬ (Builtin.nextslicecap (m+d) c*by_ > 2 ^ 48):=by
      have h1:=ZeX hcap
      have h2:Builtin.nextslicecap (m+d) c*by_≤2*(m+d)*by_:=Nat.mul_le_mul_right _ h1
      have h3:2*(m+d)*by_=2*((m+d)*by_):=by rw [Nat.mul_assoc]
      omega
     have hby0:inf.bytes≠0:=by rw [hby];have:=hpos;simp at this;omega
     have hby1:by_≠0:=by rw [← hby];exact hby0
     simp only [Zi,Za7 hie,hby,hbig,if_false,false_or,hby1,and_false]
     intro nc hf1 hf2
     obtain ⟨tt,rfl⟩:=hf2 rfl
     have hnc:m+d≤Question.cut (.appendCap (m+d) c e') tt:=by simp only [Question.cut];omega
     generalize Question.cut (.appendCap (m+d) c e') tt=nc at *
     simp only [Zi,Zad,Za7 hie]
     refine Zfk ?_
     have hold:ZcX B (L.flatten ++ F) p vs:=by
      rcases hcase with ⟨rfl,rfl,rfl,rfl⟩ | ⟨b,arr,rfl,ha,ht,rfl,hmc⟩
      ·exact List.eq_nil_of_length_eq_zero (by simpa using hvl)
      ·intro k v hk
       have hv':arr[k]? = some v:=by
        rw [← ht,List.getElem?_take] at hk
        split at hk
        ·exact hk
        ·cases hk
       rw [Addr.add_off _ _ rfl,Nat.zero_add]
       exact ⟨rfl,arr.toArray,e',(0,0),.inr (List.mem_append.2 (.inl (List.mem_flatten.2 ⟨_,List.mem_of_getElem? hj,List.mem_cons_self ..⟩))),by simpa using hv'⟩
     rw [Zi]
     refine Zcr hold hvl ?_
     rw [Zi]
     refine Zcr hs.app hl ?_
     rw [Zi,ZaS hzi,Zi]
     refine ⟨rfl,fun b _ _=>?_⟩
     have hzs:(Builtin.zeroCells z.cells (nc - (m+d))).size=(nc - (m+d))*sz:=by rw [Zfv,hz']
     have harr:vs.toArray ++ ws.toArray ++ Builtin.zeroCells z.cells (nc - (m+d))=(vs ++ ws ++ (Builtin.zeroCells z.cells (nc - (m+d))).toList).toArray:=by
      apply Array.ext';simp
     simp only [Zad,Zp]
     rw [harr]
     let r0:List Value:=(Builtin.zeroCells z.cells (nc - (m+d))).toList
     have hr0:r0.length=(nc - (m+d))*sz:=by simp only [r0,Array.length_toList];exact hzs
     refine ⟨L.set j (ZP b (vs ++ ws ++ r0) e'),⟨l,?_⟩,h _ _ _ ⟨?_,.inr ⟨b,vs ++ ws ++ r0,rfl,?_,?_,rfl,hnc⟩⟩⟩
     ·refine (List.Perm.cons _ hp1).trans (List.Perm.trans ?_ (List.Perm.append_right l (hset (ZP b (vs ++ ws ++ r0) e')).symm))
      show ((b,_) :: (l ++ rr)).Perm (((b,_) :: rr) ++ l)
      exact List.Perm.cons _ List.perm_append_comm
     ·rw [List.length_append,hvl,hl,Nat.add_mul]
     ·rw [List.length_append,List.length_append,hvl,hl,hr0,← Nat.add_mul,← Nat.add_mul,Nat.add_sub_cancel' hnc]
     ·rw [List.take_append_of_le_length (by rw [List.length_append,hvl,hl,Nat.add_mul];exact Nat.le_refl _),List.take_of_length_le (by rw [List.length_append,hvl,hl,Nat.add_mul];exact Nat.le_refl _)]
  ·cases he
end
end Go.BL
namespace Go.BL
open Go.Conc (G)
def ZiS (pl:Nat→Option (Nat × Nat)):List Value→List (Nat × Value)→Option (List Value)
 | l,[]=>some l
 | l,(i,v) :: r=>match pl i with
  | some (off,sz)=>bif Nat.beq v.cells.toList.length sz && Nat.ble (off+sz) l.length then ZiS pl (Z7 l off v.cells.toList) r else none
  | none=>none
theorem ZoL (off:Nat) :∀(cs:List Value) (k:Nat) (a:Array Value),((cs.zipIdx k).foldl (fun a (x:Value × Nat)=>a.setIfInBounds (off+x.2) x.1) a).toList=Z7 a.toList (off+k) cs
 | [],k,a=>by simp [Zbh]
 | c :: cs,k,a=>by
  rw [List.zipIdx_cons,List.foldl_cons,ZoL off cs (k+1)]
  rw [ZcD]
  simp [Nat.add_assoc]
theorem Zix (pl:Nat→Option (Nat × Nat)) :∀(parts:List (Nat × Value)) (a:Array Value) (l':List Value),ZiS pl a.toList parts=some l'→Instr.fill pl a parts=some l'.toArray
 | [],a,l',h=>by
  simp only [ZiS,Option.some.injEq] at h
  subst h
  simp [Instr.fill]
 | (i,v) :: r,a,l',h=>by
  simp only [ZiS] at h
  split at h
  ·rename_i off sz hpl
   cases hc:(Nat.beq v.cells.toList.length sz && Nat.ble (off+sz) a.toList.length) with
   | false=>rw [hc] at h;cases h
   | true=>
    rw [hc] at h
    simp only [cond_true] at h
    rw [Bool.and_eq_true] at hc
    have h1:v.cells.size=sz:=by have:=Nat.eq_of_beq_eq_true hc.1;simpa using this
    have h2:off+sz≤a.size:=by have:=Nat.le_of_ble_eq_true hc.2;simpa using this
    simp only [Instr.fill,hpl,h1,ne_eq,not_true_eq_false,decide_false,Bool.false_or]
    rw [if_neg (by simp;omega)]
    have hf:=ZoL off v.cells.toList 0 a
    have e:(v.cells.zipIdx.foldl (fun cs (x:Value × Nat)=>cs.setIfInBounds (off+x.2) x.1) a).toList=Z7 a.toList off v.cells.toList:=by
     rw [← Array.foldl_toList,Array.toList_zipIdx]
     simpa using hf
    refine Zix pl r _ l' ?_
    rw [← h]
    exact congrArg (fun z=>ZiS pl z r) e
  ·cases h
def ZaG (P:Program) (t:TypeId):Option (List (Nat × Nat)):=
 match P.underlying t with
 | some (.struct fs)=>fs.toList.mapM fun f=>(P.info? f.type).map fun i=>(f.offset,i.size)
 | _=>none
section
variable {P:PJ} {n:Nat} {ops:Array Oper} {i:Nat} {K:ZaE} {S:Env} {D:List Deferred} {B:Kn} {L:List Cells}
variable {dst:Option Tmp} {ty:TypeId} {pos:String} {after:Array Edge} {g:Option (Nat × Bool)}
theorem ZpZ {Q:List (Nat × Nat)→Kn→Cells→Prop} {B:Kn} {L:Cells} :∀(fs:List Field) (pl:List (Nat × Nat)),fs.mapM (fun f=>(P.info? f.type).map fun i=>(f.offset,i.size))=some pl→Q pl B L→
  hb P (fs.mapM fun f=>do pure (f.offset,← sizeOf f.type)) Q B L:=by
 intro fs
 induction fs generalizing Q with
 | nil=>intro pl h q;simp only [List.mapM_nil,Option.pure_def,Option.some.injEq] at h;subst h;rw [List.mapM_nil];exact q
 | cons f fs ih=>
  intro pl h q
  simp only [List.mapM_cons,Option.bind_eq_bind,Option.bind_eq_some_iff,Option.map_eq_some_iff,Option.pure_def,Option.some.injEq] at h
  obtain ⟨p,⟨inf,hi,rfl⟩,r,hr,rfl⟩:=h
  have hs:ZG P f.type=some inf.size:=by simp [ZG,hi]
  rw [List.mapM_cons,Zi]
  simp only [Zi,Z4 hs,Zp]
  exact ih r hr q
theorem ZkR (ρ:Operand→Value) :∀(parts:List (Nat × Operand)),(parts.toArray.map fun (x:Nat × Operand)=>(x.1,ρ x.2)).toList=(parts.map (·.1)).zip ((parts.map (·.2)).map ρ):=by
 intro parts
 rw [List.map_toArray]
 induction parts with
 | nil=>rfl
 | cons p r ih=>exact congrArg (List.cons (p.1,ρ p.2)) ih
theorem Ziu (sz:Nat) :∀(vs:List Value),vs.all (fun v=>Nat.beq v.cells.toList.length sz)=true→(vs.map fun v=>v.cells.toList).flatten.length=vs.length*sz
 | [],_=>by simp
 | v :: vs,h=>by
  simp only [List.all_cons,Bool.and_eq_true] at h
  rw [List.map_cons,List.flatten_cons,List.length_append,Ziu sz vs h.2,Nat.eq_of_beq_eq_true h.1,List.length_cons,Nat.succ_mul,Nat.add_comm]
theorem Zcl {t:TypeId} {parts:List (Nat × Operand)} {z:Value} {pl:List (Nat × Nat)} {vs:List Value} (zl l':List Value) (hg:Zk ops S g=some true) (hd:Zw n dst=true)
  (hpl:ZaG P t=some pl) (hz:ZZ P t=some z) (hzl:z.cells.toList=zl) (ha:evs S (parts.map (·.2))=some vs) (hf:ZiS (fun i=>pl[i]?) zl ((parts.map (·.1)).zip vs)=some l')
  (h:K (.agg l'.toArray) D B L):opX P n ops i ⟨dst,.build t parts.toArray,ty,pos,after,g⟩ K S D B L:=
 ZE hg hd (fun ρ hρ Q F q=>by
  unfold ZaG at hpl
  split at hpl
  ·rename_i fs hu
   have hmap:(parts.toArray.map fun (x:Nat × Operand)=>(x.1,ρ x.2)).toList=(parts.map (·.1)).zip vs:=by
    rw [← ZaQ hρ ha]
    exact ZkR ρ parts
   simp only [execOp,Instr.build,Zi,ZaS hz,Zo hu,Array.mapM_eq_mapM_toList,Zsm]
   refine ZpZ fs.toList pl hpl ?_
   have hfill:Instr.fill (fun i=>pl.toArray[i]?) z.cells ((parts.map (·.1)).zip vs)=some l'.toArray:=by
    refine Zix _ _ _ l' ?_
    rw [hzl]
    simpa using hf
   rw [hmap,hfill]
   exact q
  ·cases hpl) h
theorem ZcP {t e:TypeId} {len sz:Nat} {parts:List (Nat × Operand)} {z:Value} {vs:List Value} (l':List Value) (hg:Zk ops S g=some true) (hd:Zw n dst=true)
  (hu:P.underlying t=some (.slice e)) (hsz:ZG P e=some sz) (hz:ZZ P e=some z) (hbig:Nat.ble (len*sz) 1024=true) (hidx:parts.map (·.1)=List.range len) (ha:evs S (parts.map (·.2))=some vs) (hall:vs.all (fun v=>Nat.beq v.cells.toList.length sz)=true) (hl':(vs.map fun v=>v.cells.toList).flatten=l')
  (h :∀b,K (.slice (some ⟨b,0,none⟩) len len) D B (L ++ [ZP b l' e])):opX P n ops i ⟨dst,.buildSlice t len parts.toArray,ty,pos,after,g⟩ K S D B L:=
 Zcx hg hd fun ρ hρ F=>by
  have hmap:(parts.toArray.map fun (x:Nat × Operand)=>(x.1,ρ x.2)).toList=(List.range len).zip vs:=by
   rw [← hidx,← ZaQ hρ ha]
   exact ZkR ρ parts
  have hbig' : ¬ (len*sz > 2 ^ 24):=by have:=Nat.le_of_ble_eq_true hbig;omega
  have hvl:vs.length=len:=by
   have h1:=congrArg List.length hidx
   have h2:=congrArg List.length (ZaQ hρ ha)
   simp only [List.length_map,List.length_range] at h1 h2
   omega
  have hfillL :∀(vs:List Value) (k:Nat) (l:List Value),vs.all (fun v=>Nat.beq v.cells.toList.length sz)=true→(k+vs.length)*sz≤l.length→
    ZiS (fun i=>some (i*sz,sz)) l ((List.range' k vs.length).zip vs)=some (Z7 l (k*sz) (vs.map fun v=>v.cells.toList).flatten):=by
   intro vs
   induction vs with
   | nil=>intro k l _ _;simp [ZiS,Zbh]
   | cons v vs ih=>
    intro k l hall hl
    simp only [List.all_cons,Bool.and_eq_true] at hall
    have e1:=Nat.eq_of_beq_eq_true hall.1
    have hle:k*sz+sz≤l.length:=by
     rw [← Nat.succ_mul]
     exact Nat.le_trans (Nat.mul_le_mul_right sz (by simp only [List.length_cons];omega)) hl
    simp only [List.length_cons,List.range'_succ,List.zip_cons_cons,ZiS,hall.1,Bool.true_and]
    rw [show Nat.ble (k*sz+sz) l.length=true from Nat.ble_eq_true_of_le hle]
    simp only [cond_true]
    rw [ih (k+1) _ hall.2 (by rw [Z6];simp only [List.length_cons] at hl;rw [show k+1+vs.length=k+(vs.length+1) from by omega];exact hl)]
    rw [List.map_cons,List.flatten_cons]
    congr 1
    have :∀(a:List Value) (l:List Value) (o:Nat) (r:List Value),Z7 l o (a ++ r)=Z7 (Z7 l o a) (o+a.length) r:=by
     intro a
     induction a with
     | nil=>intro l o r;simp [Zbh]
     | cons x a ih2=>
      intro l o r
      rw [List.cons_append,ZcD,ih2,ZcD,List.length_cons]
      congr 1
      omega
    rw [this,e1,Nat.succ_mul]
  have key :∀za:Array Value,za.toList.length=len*sz→Instr.fill (fun i=>some (i*sz,sz)) za ((List.range len).zip vs)=some l'.toArray:=by
   intro za hza
   refine Zix _ _ _ l' ?_
   have:=hfillL vs 0 za.toList hall (by rw [Nat.zero_add,hvl,hza];exact Nat.le_refl _)
   rw [List.range_eq_range',← hvl,this,Nat.zero_mul]
   congr 1
   rw [hl']
   have hl2:l'.length=za.toList.length:=by
    rw [← hl',hza,Ziu sz vs hall,hvl]
   have ht:=Zd3 za.toList 0 l' (by omega)
   rw [List.take_of_length_le (by rw [Z6];omega)] at ht
   simpa using ht
  simp only [execOp,Instr.buildSlice,Zi,Zo hu,Z4 hsz,hbig',if_false,Zp,hmap]
  have hend :∀(z0:Sem Value) (za:Array Value),za.toList.length=len*sz→hb P (match Instr.fill (fun i=>some (i*sz,sz)) za ((List.range len).zip vs) with
    | some cells=>do pure (Value.slice (some (← newRow e cells)) len len)
    | _=>z0) (fun v B' L'=>∃L1,Sup L' (L1.flatten ++ F)∧K v D B' L1) B (L.flatten ++ F):=fun z0 za hza=>by
   rw [key za hza]
   simp only [Zi,Zp]
   refine ⟨rfl,fun b _ _=>?_⟩
   exact ⟨L ++ [ZP b l' e],.of (Zef L (ZP b l' e) F),h b⟩
  by_cases h0:len*sz=0
  ·rw [if_pos h0]
   exact hend _ _ (by simp)
  ·rw [if_neg h0]
   simp only [Zi,ZaS hz,Zp]
   exact hend _ _ (by simp)
end
end Go.BL
namespace Go.BL
open Go.Conc (G)
section
variable {P:PJ} {n:Nat} {ops:Array Oper} {i:Nat} {K:ZaE} {S:Env} {D:List Deferred} {B:Kn} {L:List Cells}
variable {dst:Option Tmp} {ty:TypeId} {pos:String} {after:Array Edge} {g:Option (Nat × Bool)}
theorem ZhS {s d:TypeId} {x:Operand} {k k':IntKind} {a r:Int} (hg:Zk ops S g=some true) (hd:Zw n dst=true) (hu:P.underlying s=some (.int k)) (hu':P.underlying d=some (.int k')) (hx:ev S x=some (.int k a)) (hr:k'.wrap a=r) (h:K (.int k' r) D B L) :
  opX P n ops i ⟨dst,.convert s d x,ty,pos,after,g⟩ K S D B L:=
 ZE hg hd (fun ρ hρ Q F q=>by
  subst hr
  simp only [execOp,convert,hρ x _ hx,Zi,Zo hu,Zo hu',Conv.intToInt,Zp];exact q) h
end
section
variable {P:PJ} {n:Nat} {ops:Array Oper} {i:Nat} {K:ZaE} {S:Env} {D:List Deferred} {B:Kn} {L:List Cells}
variable {dst:Option Tmp} {ty:TypeId} {pos:String} {after:Array Edge} {g:Option (Nat × Bool)}
def ZAp (P:Program) (t:TypeId) (a b:Value) (r:Bool):Prop:=∀(B:Kn) (L:Cells) (Q:Bool→Kn→Cells→Prop),Q r B L→hb P (Op.equal t a b) Q B L
def Zg2 (a b:Value):Bool:=match a,b with
 | .nilIface,.nilIface=>false
 | .agg _,.agg _=>false
 | .int _ _,.int _ _=>false
 | .float _ _,.float _ _=>false
 | .complex _ _ _,.complex _ _ _=>false
 | .string _,.string _=>false
 | _,_=>true
theorem ZAq {t:TypeId} {a b:Bool} (hu:P.underlying t=some .bool):ZAp P t (.bool a) (.bool b) (decide (a=b)):=fun B L Q q=>by
 have e:(a == b)=decide (a=b):=by cases a <;> cases b <;> rfl
 show hb P (Op.equalIn (9999+1) t _ _) Q B L
 rw [Op.equalIn,Zi,Zo hu]
 simp only [Zp,e];exact q
theorem Zmt {t:TypeId} {a b:Value} (h:Zg2 a b=true∨∃x y,a = .agg x∧b = .agg y):binOp .eql t a b=(do pure (.bool (← Op.equal t a b))):=by
 rcases h with h | ⟨x,y,rfl,rfl⟩
 ·cases a <;> cases b <;> first | rfl | cases h
 ·rfl
theorem Ztt {t:TypeId} {a b:Value} (h:Zg2 a b=true∨∃x y,a = .agg x∧b = .agg y):binOp .neq t a b=(do pure (.bool (!(← Op.equal t a b)))):=by
 rcases h with h | ⟨x,y,rfl,rfl⟩
 ·cases a <;> cases b <;> first | rfl | cases h
 ·rfl
theorem Zf0 {op:BinOp} {t:TypeId} {x y:Operand} {a b:Value} {Q:Unit→Kn→Cells→Prop} {L:Cells} (h:Zg2 a b=true):hb P (eqGuard op t x y a b) Q B L=Q () B L:=by
 refine Z8 ?_
 cases a <;> cases b <;> first | rfl | cases h
theorem ZqG {t u:TypeId} {x y:Operand} {a b:Value} {r:Bool} (hg:Zk ops S g=some true) (hd:Zw n dst=true) (hx:ev S x=some a) (hy:ev S y=some b) (hp:Zg2 a b=true) (he:ZAp P t a b r) (h:K (.bool r) D B L):opX P n ops i ⟨dst,.binOp .eql t x y u,ty,pos,after,g⟩ K S D B L:=
 ZE hg hd (fun ρ hρ Q F q=>by
  simp only [execOp,hρ x _ hx,hρ y _ hy,Zi,Zf0 hp,Zmt (.inl hp),Zp]
  exact he _ _ (fun r B' L'=>Q (.value (.bool r)) B' L') q) h
theorem Zwc {t u:TypeId} {x y:Operand} {a b:Value} {r:Bool} (hg:Zk ops S g=some true) (hd:Zw n dst=true) (hx:ev S x=some a) (hy:ev S y=some b) (hp:Zg2 a b=true) (he:ZAp P t a b r) (h:K (.bool (!r)) D B L):opX P n ops i ⟨dst,.binOp .neq t x y u,ty,pos,after,g⟩ K S D B L:=
 ZE hg hd (fun ρ hρ Q F q=>by
  simp only [execOp,hρ x _ hx,hρ y _ hy,Zi,Zf0 hp,Ztt (.inl hp),Zp]
  exact he _ _ (fun r B' L'=>Q (.value (.bool (!r))) B' L') q) h
end
def ZEO (P:PJ) (f:FuncId) (vs:List Value) (B:Kn) (Q:Value→Cells→Prop):Prop:=Zu P f vs B [] fun v' B' Ls=>B'=B∧∃s',Ls=[s']∧Q v' s'
section
variable {P:PJ} {n:Nat} {ops:Array Oper} {i:Nat} {K:ZaE} {S:Env} {D:List Deferred} {B:Kn} {L:List Cells}
variable {dst:Option Tmp} {ty:TypeId} {pos:String} {after:Array Edge} {g:Option (Nat × Bool)}
theorem Zy6 {f:FuncId} {xs:List Operand} {vs:List Value} {ats:Array TypeId} {Q:Value→Cells→Prop} (hg:Zk ops S g=some true) (hd:Zw n dst=true) (he:enters P f=true) (ha:evs S xs=some vs) (hc:ZEO P f vs B Q)
  (h :∀v s',Q v s'→K v D B (L ++ [s'])):opX P n ops i ⟨dst,.call ⟨.value (.func f),xs.toArray,ats⟩,ty,pos,after,g⟩ K S D B L:=
 Zb9 hg hd he ha hc fun v' B' Ls' hle ⟨h2,s',h3,h4⟩=>by subst h2;subst h3;exact h v' s' h4
end
def ZaA:List Cells→List Nat→Option (List Cells × List Cells)
 | L,[]=>some ([],L)
 | L,j :: js=>match L[j]? with
  | some s=>(ZaA (L.set j []) js).map fun x=>(s :: x.1,x.2)
  | none=>none
def ZcS:List Cells→List Nat→List Cells→List Cells
 | r,_,[]=>r
 | r,[],l=>r ++ l
 | r,j :: js,s :: l=>ZcS (r.set j s) js l
theorem Zau :∀(js:List Nat) (L ss r:List Cells),ZaA L js=some (ss,r)→L.flatten.Perm (ss.flatten ++ r.flatten)
 | [],L,ss,r,h=>by
  simp only [ZaA,Option.some.injEq,Prod.mk.injEq] at h
  obtain ⟨rfl,rfl⟩:=h
  simp
 | j :: js,L,ss,r,h=>by
  simp only [ZaA] at h
  split at h
  ·rename_i s hj
   simp only [Option.map_eq_some_iff,Prod.mk.injEq] at h
   obtain ⟨⟨x,y⟩,h1,rfl,rfl⟩:=h
   have h2:=Zau js _ _ _ h1
   have h3:=Zgn hj
   simp only [List.flatten_cons,List.flatten_nil,List.append_nil] at h3
   rw [List.flatten_cons,List.append_assoc]
   exact h3.trans (List.Perm.append_left _ h2)
  ·cases h
theorem ZcF :∀(js:List Nat) (L ss r:List Cells),ZaA L js=some (ss,r)→∀j,L[j]? = some []∨j∈js→r[j]? = some []
 | [],L,ss,r,h,j,hj=>by
  simp only [ZaA,Option.some.injEq,Prod.mk.injEq] at h
  obtain ⟨rfl,rfl⟩:=h
  rcases hj with hj | hj
  ·exact hj
  ·cases hj
 | k :: js,L,ss,r,h,j,hj=>by
  simp only [ZaA] at h
  split at h
  ·rename_i s hk
   simp only [Option.map_eq_some_iff,Prod.mk.injEq] at h
   obtain ⟨⟨x,y⟩,h1,rfl,rfl⟩:=h
   refine ZcF js _ _ _ h1 j ?_
   rcases hj with hj | hj
   ·left
    rw [List.getElem?_set]
    split
    ·rename_i e;subst e
     have:=(List.getElem?_eq_some_iff.1 hk).1
     simp [this]
    ·exact hj
   ·rcases List.mem_cons.1 hj with rfl | hj
    ·left
     have:=(List.getElem?_eq_some_iff.1 hk).1
     simp [this]
    ·exact .inr hj
  ·cases h
theorem ZcE :∀(l:List Cells) (r:List Cells) (js:List Nat),js.Nodup→(∀j,j∈js→r[j]? = some [])→(l.flatten ++ r.flatten).Perm (ZcS r js l).flatten
 | [],r,js,_,_=>by simp [ZcS]
 | s :: l,r,[],_,_=>by
  simp only [ZcS,List.flatten_append]
  exact List.perm_append_comm
 | s :: l,r,j :: js,hn,he=>by
  rw [ZcS]
  rw [List.nodup_cons] at hn
  have h1:=ZcE l (r.set j s) js hn.2 fun k hk=>by
   rw [List.getElem?_set,if_neg (fun e=>hn.1 (by rw [e];exact hk))]
   exact he k (List.mem_cons_of_mem _ hk)
  have hj:=he j (List.mem_cons_self ..)
  have hlt:=(List.getElem?_eq_some_iff.1 hj).1
  have h2:(r.set j s)[j]? = some s:=by simp [hlt]
  have h3:=Zgn h2
  rw [List.set_set] at h3
  have h4:r.set j []=r:=Zgh hj
  rw [h4] at h3
  refine List.Perm.trans ?_ h1
  rw [List.flatten_cons,List.append_assoc]
  simp only [List.flatten_cons,List.flatten_nil,List.append_nil] at h3
  refine List.Perm.trans ?_ (List.Perm.append_left _ h3.symm)
  rw [← List.append_assoc,← List.append_assoc]
  exact List.Perm.append_right _ List.perm_append_comm
def ZeW:List Nat→Bool
 | []=>true
 | j :: js=>!js.contains j && ZeW js
theorem ZcG :∀{js:List Nat},ZeW js=true→js.Nodup
 | [],_=>List.nodup_nil
 | j :: js,h=>by
  simp only [ZeW,Bool.and_eq_true,Bool.not_eq_true'] at h
  refine List.nodup_cons.2 ⟨fun hm=>?_,ZcG h.2⟩
  have:js.contains j=true:=by simpa using hm
  rw [this] at h;cases h.1
section
variable {P:PJ} {n:Nat} {ops:Array Oper} {i:Nat} {K:ZaE} {S:Env} {D:List Deferred} {B:Kn} {L:List Cells}
variable {dst:Option Tmp} {ty:TypeId} {pos:String} {after:Array Edge} {g:Option (Nat × Bool)}
theorem Zbx {f:FuncId} {xs:List Operand} {vs:List Value} {ats:Array TypeId} {Post:Value→Kn→List Cells→Prop} (js:List Nat) {ss r:List Cells} (hp:ZaA L js=some (ss,r)) (hn:ZeW js=true) (hg:Zk ops S g=some true) (hd:Zw n dst=true) (he:enters P f=true) (ha:evs S xs=some vs) (hc:Zu P f vs B ss Post)
  (h :∀v B' Ls',B.le B'→Post v B' Ls'→K v D B' (ZcS r js Ls')):opX P n ops i ⟨dst,.call ⟨.value (.func f),xs.toArray,ats⟩,ty,pos,after,g⟩ K S D B L:=
 Zd7 (o:=⟨dst,.call ⟨.value (.func f),xs.toArray,ats⟩,ty,pos,after,g⟩) (vs:=vs) hg (fun ρ hρ Q F q=>by
   have:=ZeD (P:=P) (B:=B) (L:=L) (dst:=dst) (ty:=ty) (pos:=pos) (after:=after) (g:=g) (x:=.func f) (first:=#[]) (cap:=#[]) (ats:=ats) he rfl ha ρ hρ Q F
   exact this (by simpa using q)) hd (Ls:=ss) (Lk:=r) (Zau js L ss r hp) hc
  fun v B' Ls' hle hq=>⟨ZcS r js Ls',ZcE Ls' r js (ZcG hn) (fun j hj=>ZcF js L ss r hp j (.inr hj)),h v B' Ls' hle hq⟩
end
theorem ZwK {B:Kn} {L:List Cells} {b i:Nat} {v:Value} {l:List Value} {T:TypeId} (j:Nat) (hj:L[j]? = some (ZP b l T)) (hv:l[i]? = some v):At B L ((⟨b,0,none⟩:Addr).add i) v:=by
 rw [Addr.add_off _ _ rfl,Nat.zero_add]
 exact atL j hj rfl hv
theorem ZAS {B:Kn} {L:List Cells} {a:Addr} {i:Nat} {v:Value} (h:At B L (a.add i) v):At B L (a.add (i*1)) v:=by rw [Nat.mul_one];exact h
theorem ZmJ {P:PJ} {n:Nat} {Q:Exit→Zag} {S:Env} {D:List Deferred} {B:Kn} {L:List Cells} {c:Code} (js:List Nat) {ss r:List Cells} (hp:ZaA L js=some (ss,r)) (h:wpS P n c Q S D B ss):wpS P n c Q S D B L:=fun C k T hn hT hA=>by
 have h1:=(Zau js L ss r hp).append_right C.F
 refine C.X.drop (r:=ss.flatten ++ C.F) (gl:=r.flatten) (h1.trans ?_) (h C k T hn hT hA)
 rw [List.append_assoc,List.append_assoc]
 exact List.Perm.append_left _ List.perm_append_comm
theorem ZcX.box {B:Kn} {L:List Cells} {b:Nat} {arr:List Value} {T:TypeId} (j:Nat) (hj:L[j]? = some (ZP b arr T)):ZcX B L.flatten (some ⟨b,0,none⟩) arr:=fun k v hk=>by
 have:=ZwK (B:=B) (i:=k) j hj hk
 exact this
theorem ZgC.at {B:Kn} {L:List Cells} {l:Cells} {p:Option Addr} {m c sz i:Nat} {T:TypeId} {vs:List Value} {v:Value} (h:ZgC l p m c T sz vs) (j:Nat) (hj:L[j]? = some l) (hv:vs[i]? = some v) :∃a,p=some a∧a.spot=none∧At B L (a.add i) v:=by
 obtain ⟨h1,⟨rfl,rfl,rfl,rfl⟩ | ⟨b,arr,rfl,h2,h3,rfl,h4⟩⟩:=h
 ·have:vs=[]:=List.eq_nil_of_length_eq_zero (by simpa using h1)
  rw [this] at hv;simp at hv
 ·refine ⟨_,rfl,rfl,ZwK j hj ?_⟩
  rw [← h3,List.getElem?_take] at hv
  split at hv
  ·exact hv
  ·cases hv
theorem Zdh {P:PJ} {S:Env} {B:Kn} {L:List Cells} {rs:List ResultVar} {Post:Value→Kn→List Cells→Prop} (e:Exit) (he:e = .ret∨e = .normal) (vs:List Value) (js:List Nat) {ss r:List Cells} (hp:ZaA L js=some (ss,r)) (hr:Zcb P S B L rs vs) (hq:Post (Zc4 vs) B ss):Zgz P rs Post e S [] B L:=
 ⟨he,rfl,vs,ss,hr,⟨r.flatten,Zau js L ss r hp⟩,hq⟩
end Go.BL
namespace Go.BL
open Go.Conc (G)
section
variable {P:PJ}
end
section
variable {P:PJ} {n:Nat} {ops:Array Oper} {i:Nat} {K:ZaE} {S:Env} {D:List Deferred} {B:Kn} {L:List Cells}
variable {dst:Option Tmp} {ty:TypeId} {pos:String} {after:Array Edge} {g:Option (Nat × Bool)}
end
end Go.BL
namespace Go.BL
open Go.Conc (G)
def Zas (w:World):Kn:=⟨fun b=>w.heap[b]?⟩
theorem ZAW (w:World):Sat (Zas w) [] w:=⟨fun _ _ h=>h,(fun _ h=>by cases h),by simp,(fun _ h=>by cases h)⟩
def Kept (w w':World):Prop:=(∀b,b<w.heap.size→w'.heap[b]? = w.heap[b]?)∧w.keptBut w' (fun _=>False)∧w.heap.size≤w'.heap.size
theorem Kept.same {w w':World} (h:Kept w w') {p:MemPlace} (hp:p.block<w.heap.size):w.sameAt w' p:=by
 cases p with
 | cell b off=>
  have:=h.1 b hp
  simp only [World.sameAt,World.cell?,this]
 | map b=>exact h.1 b hp
theorem Sat.left {B:Kn} {L L':Cells} {w:World} (s:Sat B (L ++ L') w):Sat B L w:=by
 refine ⟨s.ro,fun p hp=>s.own p (List.mem_append.2 (.inl hp)),?_,fun p hp=>s.apart p (List.mem_append.2 (.inl hp))⟩
 have:=s.nodup
 rw [List.map_append] at this
 exact (List.nodup_append.1 this).1
end Go.BL
namespace Go.BL
open Go.ChangeShapes Go.WideShapes Go.ChangeAt Go.RowKit
section
variable {H:Type} {enc:TypeId × Value→H} {P:Program}
theorem Zdx {W:World} {a:Addr} {v:Value} (h:W.cell? a=some v):ZaY (Zas W) [] a v:=by
 simp only [World.cell?] at h
 split at h
 ·rename_i c T fr hb
  split at h
  ·cases h
  ·rename_i hs
   exact ⟨by simpa using hs,c,T,fr,.inl hb,h⟩
 ·cases h
theorem Zoj (hl:laidOutB P=true) {W W':World} (hk:Kept W W') {sp':Nat→Bool} :∀{ts:List TypeId} {vs:List Value} {ds:List (DataW H)} {ps:List MemPlace},(ts.all fun t=>P.readableRec t && decide (t<P.types.size))=true→
  DataW.TrodAll enc P W 0 (fun _=>true) true ts vs ds ps→(∀p∈ps,p.block<W.heap.size)→(∀p∈ps,sp' p.block=true)→DataW.TrodAll enc P W' 0 sp' true ts vs ds ps
 | [],[],[],_,_,h,_,_=>h
 | t :: ts,_ :: _,_ :: _,_,hts,⟨p,q,h1,h2,e⟩,hlt,hs=>by
  simp only [List.all_cons,Bool.and_eq_true,decide_eq_true_eq] at hts
  exact ⟨p,q,WideElems.Trod_stays hl hts.1.1 hts.1.2 h1 (fun x hx=>hk.same (hlt x (by rw [e];exact List.mem_append_left _ hx))) (fun x hx=>hs x (by rw [e];exact List.mem_append_left _ hx)),
   Zoj hl hk hts.2 h2 (fun x hx=>hlt x (by rw [e];exact List.mem_append_right _ hx)) (fun x hx=>hs x (by rw [e];exact List.mem_append_right _ hx)),e⟩
theorem Zpp {f:Func} {s:ChangeSpec} {apart fresh handsOn:Bool} {W W':World} {args:Array Value} {v:Value} {ds gs:List (DataW H)} {before pa pv:List MemPlace}
  (hW:DataW.Whole enc P f.params.toList s.vars apart W args.toList ds gs before)
  (hres :∀(b:Nat) (sp:Nat→Bool) (hd:Bool),DataW.TrodAll enc P W' b sp hd f.resultTypes.toList (v.resultList f.resultTypes.size) (s.fn H (ds ++ gs)).results [])
  (hargs :∀sp:Nat→Bool,(∀p∈before,sp p.block=true)→DataW.TrodAll enc P W' 0 sp true f.params.toList args.toList (s.fn H (ds ++ gs)).args pa)
  (hvars :∀sp:Nat→Bool,(∀p∈before,sp p.block=true)→DataW.TrodVars enc P W' sp s.vars (s.fn H (ds ++ gs)).vars pv)
  (hps:before=pa ++ pv) (hk:W.keptBut W' (fun _=>False)):s.post enc P f apart fresh handsOn false W args v W':=by
 have hold :∀p∈before,(fun b=>decide (b<W.heap.size)) p.block=true:=fun p hp=>by simpa using hW.lt p hp
 exact ⟨ds,gs,before,[],pa,pv,hW,hres _ _ _,hargs _ hold,hvars _ hold,World.keptBut_mono (fun p hp=>hp.elim) hk,fun h=>by cases h⟩
end
end Go.BL
namespace Go.BL
open Go.Conc (G)
abbrev Rel (α:Type):=Kn→List Value→α→Prop
def Mono {α:Type} (R:Rel α):Prop:=∀{B B':Kn},B.le B'→∀{row:List Value} {x:α},R B row x→R B' row x
def ZdC {α:Type} (B:Kn) (q:Option Addr) (w:Nat) (R:Rel α) (xs:List α):Prop:=
∀i x,xs[i]? = some x→∃b o row,q=some ⟨b,o,none⟩∧R B row x∧∀j u,row[j]? = some u→ZaY B [] ⟨b,o+i*w+j,none⟩ u
theorem ZiL.mono {B B':Kn} {L:Cells} {b:Nat} {o:Obj} (hle:B.le B') (h:ZiL B L b o):ZiL B' L b o:=h.imp (hle b o) id
theorem ZaY.mono {B B':Kn} {L:Cells} {a:Addr} {v:Value} (hle:B.le B') (h:ZaY B L a v):ZaY B' L a v:=
 let ⟨h1,cs,T,fr,h2,h3⟩:=h;⟨h1,cs,T,fr,h2.mono hle,h3⟩
theorem ZdC.mono {α:Type} {B B':Kn} {q:Option Addr} {w:Nat} {R:Rel α} {xs:List α} (hR:Mono R) (hle:B.le B') (h:ZdC B q w R xs):ZdC B' q w R xs:=fun i x hi=>by
 obtain ⟨b,o,row,h1,h2,h3⟩:=h i x hi
 exact ⟨b,o,row,h1,hR hle h2,fun j u hj=>(h3 j u hj).mono hle⟩
theorem ZdC.nil {α:Type} {B:Kn} {q:Option Addr} {w:Nat} {R:Rel α} : ZdC B q w R ([]:List α):=fun i x h=>by simp at h
theorem ZdC.take {α:Type} {B:Kn} {q:Option Addr} {w:Nat} {R:Rel α} {xs:List α} (h:ZdC B q w R xs) (k:Nat):ZdC B q w R (xs.take k):=fun i x hi=>by
 rw [List.getElem?_take] at hi
 split at hi
 ·exact h i x hi
 ·cases hi
theorem ZdC.drop {α:Type} {B:Kn} {q:Option Addr} {w:Nat} {R:Rel α} {xs:List α} (h:ZdC B q w R xs) (k:Nat):ZdC B (q.map (·.add (k*w))) w R (xs.drop k):=fun i x hi=>by
 rw [List.getElem?_drop] at hi
 obtain ⟨b,o,row,rfl,h2,h3⟩:=h _ x hi
 refine ⟨b,o+k*w,row,by simp [Addr.add_off],h2,fun j u hj=>?_⟩
 have:=h3 j u hj
 rw [Nat.add_mul] at this
 rwa [show o+k*w+i*w+j=o+(k*w+i*w)+j from by omega]
theorem ZdC.cut {α:Type} {B:Kn} {q:Option Addr} {w a b c:Nat} {R:Rel α} {xs:List α} (h:ZdC B q w R xs) (hb:b≤xs.length) (hc:xs.length≤c):ZdC B (if c=a then q else q.map (·.add (a*w))) w R ((xs.take b).drop a):=by
 by_cases e:c=a
 ·rw [if_pos e,List.drop_eq_nil_of_le (by rw [List.length_take];omega)]
  exact .nil
 ·rw [if_neg e]
  exact (h.take b).drop a
def Zam (B:Kn) (b o:Nat) (row:List Value):Prop:=∀(L:List Cells) (j:Nat) (u:Value),row[j]? = some u→At B L ⟨b,o+j,none⟩ u
theorem Zhh {B:Kn} {L:List Cells} {b o:Nat} {row vs:List Value} {a:Addr} (hc:Zam B b o row) (off:Nat) (ha:a=⟨b,o+off,none⟩) (hv:(row.drop off).take vs.length=vs):ZtD B L a vs:=by
 intro i v hi
 subst ha
 rw [Addr.add_off _ _ rfl]
 have hlt:i<vs.length:=(List.getElem?_eq_some_iff.1 hi).1
 have:row[off+i]? = some v:=by
  have e:=congrArg (fun l=>l[i]?) hv
  simp only [List.getElem?_take,if_pos hlt,List.getElem?_drop] at e
  rw [e,hi]
 have:=hc L _ v this
 rwa [show o+(off+i)=o+off+i from by omega] at this
section
variable {P:PJ} {C:Cx P} {k:List Item} {n:Nat} {ops:Array Oper} {i:Nat} {K:ZaE} {S:Env} {D:List Deferred} {B:Kn} {L:List Cells}
variable {dst:Option Tmp} {ty:TypeId} {pos:String} {after:Array Edge} {g:Option (Nat × Bool)}
variable {α:Type} {R:Rel α} {xs:List α} {z:α}
end
inductive All2 {α:Type} (R:List Value→α→Prop):List (List Value)→List α→Prop
 | nil:All2 R [] []
 | cons {row:List Value} {x:α} {rows:List (List Value)} {xs:List α} : R row x→All2 R rows xs→All2 R (row :: rows) (x :: xs)
theorem All2.len {α:Type} {R:List Value→α→Prop} {rows:List (List Value)} {xs:List α} (h:All2 R rows xs):rows.length=xs.length:=by
 induction h with
 | nil=>rfl
 | cons _ _ ih=>simp [ih]
theorem All2.mono {α:Type} {R R':List Value→α→Prop} {rows:List (List Value)} {xs:List α} (hR :∀row x,R row x→R' row x) (h:All2 R rows xs):All2 R' rows xs:=by
 induction h with
 | nil=>exact .nil
 | cons h1 _ ih=>exact .cons (hR _ _ h1) ih
theorem All2.app {α:Type} {R:List Value→α→Prop} {rows rows':List (List Value)} {xs xs':List α} (h:All2 R rows xs) (h':All2 R rows' xs'):All2 R (rows ++ rows') (xs ++ xs'):=by
 induction h with
 | nil=>exact h'
 | cons h1 _ ih=>exact .cons h1 ih
theorem All2.get {α:Type} {R:List Value→α→Prop} {rows:List (List Value)} {xs:List α} (h:All2 R rows xs) :∀{i:Nat} {x:α},xs[i]? = some x→∃row,rows[i]? = some row∧R row x:=by
 induction h with
 | nil=>intro i x hx;simp at hx
 | cons h1 _ ih=>
  intro i x hx
  cases i with
  | zero=>simp only [List.getElem?_cons_zero,Option.some.injEq] at hx;subst hx;exact ⟨_,rfl,h1⟩
  | succ i=>exact ih (by simpa using hx)
theorem All2.set {α:Type} {R:List Value→α→Prop} {rows:List (List Value)} {xs:List α} (h:All2 R rows xs) {row:List Value} {x:α} (hr:R row x) :∀i,All2 R (rows.set i row) (xs.set i x):=by
 induction h with
 | nil=>intro i;exact .nil
 | cons h1 h2 ih=>
  intro i
  cases i with
  | zero=>exact .cons hr h2
  | succ i=>exact .cons h1 (ih i)
def wide (w:Nat) (rows:List (List Value)):Prop:=∀row,row∈rows→row.length=w
theorem Zd1 {w:Nat} :∀{rows:List (List Value)},wide w rows→rows.flatten.length=rows.length*w
 | [],_=>by simp
 | row :: rows,h=>by
  rw [List.flatten_cons,List.length_append,Zd1 (rows:=rows) (fun r hr=>h r (List.mem_cons_of_mem _ hr)),h row (List.mem_cons_self ..),List.length_cons,Nat.succ_mul,Nat.add_comm]
theorem Zf8 {w:Nat} :∀{rows:List (List Value)},wide w rows→∀{i j:Nat} {row:List Value} {u:Value},rows[i]? = some row→row[j]? = some u→rows.flatten[i*w+j]? = some u
 | [],_,i,j,row,u,h,_=>by simp at h
 | r :: rows,hw,0,j,row,u,h,hj=>by
  simp only [List.getElem?_cons_zero,Option.some.injEq] at h
  subst h
  have hlt:=(List.getElem?_eq_some_iff.1 hj).1
  rw [Nat.zero_mul,Nat.zero_add,List.flatten_cons,List.getElem?_append_left hlt];exact hj
 | r :: rows,hw,i+1,j,row,u,h,hj=>by
  have e:=hw r (List.mem_cons_self ..)
  rw [List.flatten_cons,List.getElem?_append_right (by rw [e,Nat.succ_mul];omega),e]
  have:=Zf8 (rows:=rows) (fun r hr=>hw r (List.mem_cons_of_mem _ hr)) (i:=i) (j:=j) (by simpa using h) hj
  rw [← this]
  congr 1
  rw [Nat.succ_mul];omega
def ZR {α:Type} (B:Kn) (l:Cells) (p:Option Addr) (c:Nat) (T:TypeId) (w:Nat) (R:Rel α) (xs:List α):Prop:=
∃rows,All2 (R B) rows xs∧wide w rows∧ZgC l p xs.length c T w rows.flatten
theorem ZR.mono {α:Type} {B B':Kn} {l:Cells} {p:Option Addr} {c:Nat} {T:TypeId} {w:Nat} {R:Rel α} {xs:List α} (hR:Mono R) (hle:B.le B') (h:ZR B l p c T w R xs):ZR B' l p c T w R xs:=
 let ⟨rows,h1,h2,h3⟩:=h;⟨rows,h1.mono fun _ _=>hR hle,h2,h3⟩
theorem ZR.nil {α:Type} {B:Kn} {T:TypeId} {w:Nat} {R:Rel α} : ZR B [] none 0 T w R ([]:List α):=⟨[],.nil,(fun _ h=>by cases h),ZgC.nil T w⟩
theorem ZR.lit0 {α:Type} {B:Kn} {b:Nat} {T:TypeId} {w:Nat} {R:Rel α} : ZR B (ZP b [] T) (some ⟨b,0,none⟩) 0 T w R ([]:List α):=⟨[],.nil,(fun _ h=>by cases h),ZgC.lit (by simp)⟩
theorem ZR.cap {α:Type} {B:Kn} {l:Cells} {p:Option Addr} {c:Nat} {T:TypeId} {w:Nat} {R:Rel α} {xs:List α} (h:ZR B l p c T w R xs):xs.length≤c:=by
 obtain ⟨rows,_,_,_,⟨_,h0,_,_⟩ | ⟨b,arr,_,_,_,_,hm⟩⟩:=h
 ·omega
 ·exact hm
theorem ZR.lit {α:Type} {B:Kn} {b:Nat} {T:TypeId} {w:Nat} {R:Rel α} {xs:List α} {rows:List (List Value)} (h:All2 (R B) rows xs) (hw:wide w rows):ZR B (ZP b rows.flatten T) (some ⟨b,0,none⟩) xs.length T w R xs:=
 ⟨rows,h,hw,ZgC.lit (by rw [Zd1 hw,h.len])⟩
theorem ZR.rows {α:Type} {B B':Kn} {l:Cells} {p:Option Addr} {c:Nat} {T:TypeId} {w:Nat} {R:Rel α} {xs:List α} (h:ZR B l p c T w R xs) (hR:Mono R) (hle:B.le B') (hm :∀q,q∈l→B'.mem q.1=some q.2):ZdC B' p w R xs:=by
 obtain ⟨rows,h1,h2,h3,⟨rfl,hn,_,rfl⟩ | ⟨b,arr,rfl,ha,ht,rfl,hmc⟩⟩:=h
 ·have:xs=[]:=List.eq_nil_of_length_eq_zero hn
  subst this;exact .nil
 ·intro i x hi
  obtain ⟨row,hr1,hr2⟩:=h1.get hi
  refine ⟨b,0,row,rfl,hR hle hr2,fun j u hj=>?_⟩
  have hu:=Zf8 h2 hr1 hj
  rw [← ht,List.getElem?_take] at hu
  split at hu
  ·refine ⟨rfl,arr.toArray,T,(0,0),.inl (hm (b,_) (List.mem_singleton.2 rfl)),?_⟩
   rw [Nat.zero_add];simpa using hu
  ·cases hu
theorem ZR.row {α:Type} {B:Kn} {l:Cells} {p:Option Addr} {c:Nat} {T:TypeId} {w:Nat} {R:Rel α} {xs:List α} (h:ZR B l p c T w R xs) {i:Nat} {x:α} (hi:xs[i]? = some x) :
∃b row,p=some ⟨b,0,none⟩∧R B row x∧row.length=w∧∀{B':Kn} (L:List Cells) (k:Nat),L[k]? = some l→∀j u,row[j]? = some u→At B' L ⟨b,i*w+j,none⟩ u:=by
 obtain ⟨rows,h1,h2,h3,⟨rfl,hn,_,rfl⟩ | ⟨b,arr,rfl,ha,ht,rfl,hmc⟩⟩:=h
 ·have:xs=[]:=List.eq_nil_of_length_eq_zero hn
  subst this;simp at hi
 ·obtain ⟨row,hr1,hr2⟩:=h1.get hi
  refine ⟨b,row,rfl,hr2,h2 row (List.mem_of_getElem? hr1),fun {B'} L k hk j u hj=>?_⟩
  have hu:=Zf8 h2 hr1 hj
  rw [← ht,List.getElem?_take] at hu
  split at hu
  ·exact atL k hk rfl hu
  ·cases hu
section
variable {P:PJ} {C:Cx P} {k:List Item} {n:Nat} {ops:Array Oper} {i:Nat} {K:ZaE} {S:Env} {D:List Deferred} {B:Kn} {L:List Cells}
variable {dst:Option Tmp} {ty:TypeId} {pos:String} {after:Array Edge} {g:Option (Nat × Bool)}
variable {α:Type} {R:Rel α} {xs ys:List α} {z:α}
theorem ZkZ {BV:Kn} {t u e:TypeId} {x y:Operand} {sz by_ m c c2:Nat} {p q:Option Addr} {row:List Value} {l:Cells} (j:Nat) (hj:L[j]? = some l) (hv:ZR BV l p c e sz R xs) (hm:m=xs.length) (hg:Zk ops S g=some true) (hd:Zw n dst=true)
  (he:ZbL P t e sz by_=true) (hu:(match P.underlying u with | some (.slice _)=>true | _=>false)=true) (hx:ev S x=some (.slice p m c)) (hy:ev S y=some (.slice q 1 c2)) (hs:ZcX B L.flatten q row) (hone:row.all ZgO=true) (hrl:row.length=sz) (hr:R BV row z) (hb1:(xs.length+1)*by_≤140737488355328)
  (h :∀l' p' c',ZR BV l' p' c' e sz R (xs ++ [z])→K (.slice p' (xs ++ [z]).length c') D B (L.set j l')):opX P n ops i ⟨dst,.call ⟨.builtin .append,#[x,y],#[t,u]⟩,ty,pos,after,g⟩ K S D B L:=by
 subst hm
 obtain ⟨rows,h1,h2,h3⟩:=hv
 refine Zfc j hj h3 hg hd he hu hx hy hs (by rw [hrl,Nat.one_mul]) hone hb1 fun l' p' c' hv'=>?_
 have:=h l' p' c' ⟨rows ++ [row],h1.app (.cons hr .nil),?_,?_⟩
 ·rwa [List.length_append] at this
 ·intro r hr'
  rcases List.mem_append.1 hr' with hr' | hr'
  ·exact h2 r hr'
  ·rw [List.mem_singleton.1 hr'];exact hrl
 ·rw [List.length_append,List.flatten_append];simpa using hv'
theorem Zn8 {t u e:TypeId} {x y:Operand} {sz by_ m d c c2:Nat} {p q:Option Addr} {l:Cells} (j:Nat) (hj:L[j]? = some l) (hv:ZR B l p c e sz R xs) (hm:m=xs.length) (hg:Zk ops S g=some true) (hd:Zw n dst=true)
  (he:ZbL P t e sz by_=true) (hu:(match P.underlying u with | some (.slice _)=>true | _=>false)=true) (hx:ev S x=some (.slice p m c)) (hy:ev S y=some (.slice q d c2)) (hdl:d=ys.length) (hs:ZdC B q sz R ys) (hone :∀row y,R B row y→row.all ZgO=true∧row.length=sz) (hpos:Nat.blt 0 sz=true) (hb1:(xs.length+ys.length)*by_≤140737488355328)
  (h :∀l' p' c',ZR B l' p' c' e sz R (xs ++ ys)→K (.slice p' (xs ++ ys).length c') D B (L.set j l')):opX P n ops i ⟨dst,.call ⟨.builtin .append,#[x,y],#[t,u]⟩,ty,pos,after,g⟩ K S D B L:=by
 subst hm;subst hdl
 obtain ⟨rows,h1,h2,h3⟩:=hv
 obtain ⟨rows',g1,g2,g3,g4⟩ :∃rows',All2 (R B) rows' ys∧wide sz rows'∧rows'.flatten.all ZgO=true∧ZcX B L.flatten q rows'.flatten:=by
  have hrow :∀i:Fin ys.length,∃row,R B row ys[i]∧∃b o,q=some ⟨b,o,none⟩∧∀j u,row[j]? = some u→ZaY B [] ⟨b,o+i*sz+j,none⟩ u:=fun i=>by
   obtain ⟨b,o,row,a1,a2,a3⟩:=hs i ys[i] (by simp)
   exact ⟨row,a2,b,o,a1,a3⟩
  let f:Fin ys.length→List Value:=fun i=>Classical.choose (hrow i)
  have hf :∀i,R B (f i) ys[i]∧∃b o,q=some ⟨b,o,none⟩∧∀j u,(f i)[j]? = some u→ZaY B [] ⟨b,o+i*sz+j,none⟩ u:=fun i=>Classical.choose_spec (hrow i)
  have hall :∀(k:Nat) (zs:List α) (hz :∀j x,zs[j]? = some x→ys[k+j]? = some x),∃rs,All2 (R B) rs zs∧∀j row,rs[j]? = some row→∃hk:k+j<ys.length,row=f ⟨k+j,hk⟩:=by
   intro k zs
   induction zs generalizing k with
   | nil=>intro _;exact ⟨[],.nil,fun j row h=>by simp at h⟩
   | cons x zs ih=>
    intro hz
    obtain ⟨rs,a1,a2⟩:=ih (k+1) (fun j y hy=>by have:=hz (j+1) y (by simpa using hy);rwa [show k+(j+1)=k+1+j from by omega] at this)
    have h0:=hz 0 x (by simp)
    obtain ⟨hk,hxe⟩:=List.getElem?_eq_some_iff.1 h0
    have hfk:=(hf ⟨k+0,hk⟩).1
    simp only [Fin.getElem_fin] at hfk
    rw [hxe] at hfk
    refine ⟨f ⟨k+0,hk⟩ :: rs,.cons hfk a1,fun j row hj=>?_⟩
    cases j with
    | zero=>simp only [List.getElem?_cons_zero,Option.some.injEq] at hj;exact ⟨hk,hj.symm⟩
    | succ j=>
     obtain ⟨hk2,e⟩:=a2 j row (by simpa using hj)
     refine ⟨by omega,?_⟩
     rw [e]
     congr 2
     omega
  obtain ⟨rs,a1,a2⟩:=hall 0 ys (fun j x hx=>by rwa [Nat.zero_add])
  have a2' :∀j row,rs[j]? = some row→∃hk:j<ys.length,row=f ⟨j,hk⟩:=fun j row hj=>by
   obtain ⟨hk,e⟩:=a2 j row hj
   refine ⟨by omega,?_⟩
   rw [e];congr 2;omega
  have hw:wide sz rs:=fun row hr=>by
   obtain ⟨j,hj⟩:=List.mem_iff_getElem?.1 hr
   obtain ⟨hk,rfl⟩:=a2' j row hj
   exact (hone _ _ (hf ⟨j,hk⟩).1).2
  refine ⟨rs,a1,hw,?_,?_⟩
  ·rw [List.all_flatten,List.all_eq_true]
   intro row hr
   obtain ⟨j,hj⟩:=List.mem_iff_getElem?.1 hr
   obtain ⟨hk,rfl⟩:=a2' j row hj
   exact (hone _ _ (hf ⟨j,hk⟩).1).1
  ·have hsz:0<sz:=by simpa using hpos
   cases hys:ys with
   | nil=>
    have:rs=[]:=List.eq_nil_of_length_eq_zero (by rw [a1.len,hys];rfl)
    subst this
    cases q with
    | none=>rfl
    | some a=>intro j v hj;simp at hj
   | cons y0 ys0=>
    have hl0:0<ys.length:=by rw [hys];simp
    obtain ⟨_,b,o,rfl,_⟩:=hf ⟨0,hl0⟩
    intro k v hk
    have hkl:k<rs.length*sz:=by rw [← Zd1 hw];exact (List.getElem?_eq_some_iff.1 hk).1
    have hir:k / sz<rs.length:=Nat.div_lt_of_lt_mul (by rw [Nat.mul_comm];exact hkl)
    have hrow2:rs[k / sz]? = some rs[k / sz]:=List.getElem?_eq_getElem hir
    have hjl:k % sz<(rs[k / sz]).length:=by rw [hw _ (List.getElem_mem hir)];exact Nat.mod_lt _ hsz
    have hg2:=Zf8 hw hrow2 (List.getElem?_eq_getElem hjl)
    rw [Nat.mul_comm (k / sz) sz,Nat.div_add_mod] at hg2
    rw [hk] at hg2
    obtain ⟨hk3,e3⟩:=a2' _ _ hrow2
    obtain ⟨_,b',o',eb,hc⟩:=hf ⟨k / sz,hk3⟩
    cases eb
    have:=hc (k % sz) v (by rw [← e3,List.getElem?_eq_getElem hjl];exact hg2.symm)
    rw [Addr.add_off _ _ rfl]
    simp only [] at this
    rw [Nat.add_assoc,Nat.mul_comm (k / sz) sz,Nat.div_add_mod] at this
    exact ZaY.app (F:=L.flatten) this
 refine Zfc j hj h3 hg hd he hu hx hy g4 (by rw [Zd1 g2,g1.len]) g3 hb1 fun l' p' c' hv'=>?_
 have:=h l' p' c' ⟨rows ++ rows',h1.app g1,?_,?_⟩
 ·rwa [List.length_append] at this
 ·intro r hr'
  rcases List.mem_append.1 hr' with hr' | hr'
  ·exact h2 r hr'
  ·exact g2 r hr'
 ·rw [List.length_append,List.flatten_append];exact hv'
end
end Go.BL
namespace Go.BL
open Go.Conc (G)
theorem ZdC.base {α:Type} {B:Kn} {q:Option Addr} {w:Nat} {R:Rel α} {xs:List α} (h:ZdC B q w R xs) {i:Nat} {z:α} (hz:xs[i]? = some z) :∃b o,q=some ⟨b,o,none⟩:=by
 obtain ⟨b,o,_,h1,_⟩:=h i z hz;exact ⟨b,o,h1⟩
theorem ZdC.elem {α:Type} {B:Kn} {b o w:Nat} {R:Rel α} {xs:List α} (h:ZdC B (some ⟨b,o,none⟩) w R xs) {i:Nat} {z:α} (hz:xs[i]? = some z) :∃row,R B row z∧Zam B b (o+i*w) row:=by
 obtain ⟨b',o',row,h1,h2,h3⟩:=h i z hz
 cases h1
 exact ⟨row,h2,fun L j u hj=>ZaY.app (F:=L.flatten) (h3 j u hj)⟩
theorem ZM {α:Type} {xs:List α} {i:Nat} (h:i<xs.length) :∃z,xs[i]? = some z:=⟨_,List.getElem?_eq_getElem h⟩
theorem Zvq {α:Type} {xs:List α} {i:Int} (h0:0≤i) (h:i<xs.length) :∃z,xs[i.toNat]? = some z:=ZM (by omega)
theorem Zam.mono {B B':Kn} {b o:Nat} {row:List Value} (hle:B.le B') (h:Zam B b o row):Zam B' b o row:=fun L j u hj=>(h L j u hj).mono hle
def Zhg:List Cells→List Nat→List Cells→List Cells
 | L,[],_=>L
 | L,_,[]=>L
 | L,j :: js,s :: ss=>Zhg (L.set j s) js ss
theorem ZmV :∀(ks:List Nat) (S:Env),Sub (sel ks S) S
 | [],_=>trivial
 | k :: ks,S=>by
  simp only [sel]
  cases h:get S k with
  | none=>exact ZmV ks S
  | some v=>exact ⟨h,ZmV ks S⟩
theorem Zq7 :∀{V S0 S:Env},Sub V S→Sub S0 S→Sub (V ++ S0) S
 | [],_,_,_,h=>h
 | _ :: _,_,_,h,h'=>⟨h.1,Zq7 h.2 h'⟩
section
variable {P:PJ} {C:Cx P} {k:List Item} {n:Nat} {ops:Array Oper} {i:Nat} {K:ZaE} {S:Env} {D:List Deferred} {B:Kn} {L:List Cells} {Q:Exit→Zag}
variable {dst:Option Tmp} {ty:TypeId} {pos:String} {after:Array Edge} {g:Option (Nat × Bool)}
def ZA1 {α:Type} (St:α→Env) (Lo:α→List Cells) (Iv:α→Kn→Prop) (μ:α→Nat) (D:List Deferred) (x:α) (Q:Exit→Zag):Exit→Zag
 | .normal=>fun S' D' B' L'=>∃x',μ x'<μ x∧Iv x' B'∧Sub (St x') S'∧(∃gl,L'.flatten.Perm ((Lo x').flatten ++ gl))∧D'=D
 | e=>Q e
theorem Zv {c:Code} {α:Type} (ks:List Nat) (V:α→Env) (js:List Nat) (M:α→List Cells) (Iv:α→Kn→Prop) (μ:α→Nat) (x₀:α) (hS:Sub (V x₀) S) (hL:L=Zhg L js (M x₀)) (hI:Iv x₀ B)
  (round :∀x B',B.le B'→Iv x B'→wpS P n c (ZA1 (fun x=>V x ++ sel ks S) (fun x=>Zhg L js (M x)) Iv μ D x Q) (V x ++ sel ks S) D B' (Zhg L js (M x))):wpS P n (.loop c) Q S D B L:=fun C k T hn hT hA=>by
 have hS':Sub (V x₀ ++ sel ks S) S:=Zq7 hS (ZmV ks S)
 have key :∀m x B' T,μ x=m→B.le B'→Iv x B'→T.size=n→Ag T (V x ++ sel ks S)→C.X.R (G (fat C.b T D (.code c :: .inLoop c :: k)) C.cs) B' ((Zhg L js (M x)).flatten ++ C.F):=by
  intro m
  induction m using Nat.strongRecOn with
  | _ m ih=>
   intro x B' T hm hle hI hn hT
   refine round x B' hle hI C (.inLoop c :: k) T hn hT fun e S' D' B'' L' T' hle' hq hn' hT'=>?_
   cases e with
   | normal=>
    obtain ⟨x',hlt,hI',hs',⟨gl,hp⟩,rfl⟩:=hq
    refine C.X.ctl rfl (fun w=>ZhZ) ?_
    refine C.X.drop (r:=(Zhg L js (M x')).flatten ++ C.F) (gl:=gl) ((hp.append_right C.F).trans ?_) (ih (μ x') (hm ▸ hlt) x' B'' T' rfl (hle.trans hle') hI' hn' (hT'.sub hs'))
    rw [List.append_assoc,List.append_assoc]
    exact List.Perm.append_left _ List.perm_append_comm
   | exit id=>exact After.push rfl (by simp) (hA (.exit id) S' D' B'' L' T' (hle.trans hle') hq hn' hT')
   | ret=>exact After.push (x:=.inLoop c) rfl (by simp) (hA .ret S' D' B'' L' T' (hle.trans hle') hq hn' hT')
   | goto l=>exact hA (.goto l) S' D' B'' L' T' (hle.trans hle') hq hn' hT'
   | panic ch=>exact hA (.panic ch) S' D' B'' L' T' (hle.trans hle') hq hn' hT'
   | outgrown=>exact hA .outgrown S' D' B'' L' T' (hle.trans hle') hq hn' hT'
 refine C.X.ctl rfl (fun w=>ZmW) ?_
 have:=key _ x₀ B T rfl (Kn.le.refl B) hI hn (hT.sub hS')
 rwa [← hL] at this
theorem ZJ {α:Type} {St:α→Env} {Lo:α→List Cells} {Iv:α→Kn→Prop} {μ:α→Nat} {D':List Deferred} {x:α} (h:Q .ret S D B L):ZA1 St Lo Iv μ D' x Q .ret S D B L:=h
theorem ZB {α:Type} {St:α→Env} {Lo:α→List Cells} {Iv:α→Kn→Prop} {μ:α→Nat} {D':List Deferred} {x:α} {id:Nat} (h:Q (.exit id) S D B L):ZA1 St Lo Iv μ D' x Q (.exit id) S D B L:=h
theorem Zx {α:Type} {St:α→Env} {Lo:α→List Cells} {Iv:α→Kn→Prop} {μ:α→Nat} {x:α} (x':α) (js:List Nat) {r:List Cells} (hm:μ x'<μ x) (hi:Iv x' B) (hs:Sub (St x') S) (hl:ZaA L js=some (Lo x',r)):ZA1 St Lo Iv μ D x Q .normal S D B L:=
 ⟨x',hm,hi,hs,⟨r.flatten,Zau js L _ r hl⟩,rfl⟩
theorem Zn7 {t e:TypeId} {x:Operand} {lo hi:Option Operand} {p:Option Addr} {len cap sz:Nat} {a b:Nat} {v:Value} (hv:Value.slice (if cap=a then p else p.map (·.add (a*sz))) (b - a) (cap - a)=v) (hab:a≤b) (hb':b≤cap) (hg:Zk ops S g=some true) (hd:Zw n dst=true) (hu:P.underlying t=some (.slice e)) (hsz:ZG P e=some sz)
  (hx:ev S x=some (.slice p len cap)) (hlo:match lo with | none=>a=0 | some o=>∃k,∃z:Int,ev S o=some (.int k z)∧z=a) (hhi:match hi with | none=>b=len | some o=>∃k,∃z:Int,ev S o=some (.int k z)∧z=b)
  (h:K v D B L):opX P n ops i ⟨dst,.slice t x lo hi none,ty,pos,after,g⟩ K S D B L:=
 Zn1 hg hd hu hsz hx hlo hhi hab hb' (by rw [hv];exact h)
theorem Zza {t e:TypeId} {x y:Operand} {k:IntKind} {b o len cap sz:Nat} {ix:Int} (hg:Zk ops S g=some true) (hd:Zw n dst=true) (hu:P.underlying t=some (.slice e)) (hsz:ZG P e=some sz)
  (hx:ev S x=some (.slice (some ⟨b,o,none⟩) len cap)) (hy:ev S y=some (.int k ix)) (h0:0≤ix) (h1:ix<len) (h:K (ptr ⟨b,o+ix.toNat*sz,none⟩) D B L):opX P n ops i ⟨dst,.indexAddr t x y,ty,pos,after,g⟩ K S D B L:=
 Zb3 hg hd hu hsz hx hy h0 h1 (by rw [Addr.add_off _ _ rfl];exact h)
theorem ZjG {f:FuncId} {xs:List Operand} {vs:List Value} {ats:Array TypeId} {Post:Value→Kn→Prop} (hg:Zk ops S g=some true) (hd:Zw n dst=true) (he:enters P f=true) (ha:evs S xs=some vs) (hc:Zu P f vs B [] (fun v B' Ls=>Ls=[]∧Post v B'))
  (h :∀v B',B.le B'→Post v B'→K v D B' L):opX P n ops i ⟨dst,.call ⟨.value (.func f),xs.toArray,ats⟩,ty,pos,after,g⟩ K S D B L:=
 Zb9 hg hd he ha hc fun v B' Ls hle ⟨h1,h2⟩=>by subst h1;rw [List.append_nil];exact h v B' hle h2
end
end Go.BL
namespace Go.BL
open Go.Conc (G)
structure SlK {α:Type} (B:Kn) (q:Option Addr) (cp w:Nat) (R:Rel α) (xs:List α):Prop where
 rows:ZdC B q w R xs
 cap:xs.length≤cp
 len:xs.length≤2000000
theorem SlK.mono {α:Type} {B B':Kn} {q:Option Addr} {cp w:Nat} {R:Rel α} {xs:List α} (h:SlK B q cp w R xs) (hR:Mono R) (hle:B.le B'):SlK B' q cp w R xs:=⟨h.rows.mono hR hle,h.cap,h.len⟩
theorem SlK.base {α:Type} {B:Kn} {q:Option Addr} {cp w:Nat} {R:Rel α} {xs:List α} (h:SlK B q cp w R xs) {i:Nat} {z:α} (hz:xs[i]? = some z) :∃b o,q=some ⟨b,o,none⟩:=h.rows.base hz
theorem SlK.elem {α:Type} {B:Kn} {b o cp w:Nat} {R:Rel α} {xs:List α} (h:SlK B (some ⟨b,o,none⟩) cp w R xs) {i:Nat} {z:α} (hz:xs[i]? = some z) :∃row,R B row z∧Zam B b (o+i*w) row:=h.rows.elem hz
section
variable {P:PJ} {C:Cx P} {k:List Item} {n:Nat} {ops:Array Oper} {i:Nat} {K:ZaE} {S:Env} {D:List Deferred} {B:Kn} {L:List Cells} {Q:Exit→Zag}
variable {dst:Option Tmp} {ty:TypeId} {pos:String} {after:Array Edge} {g:Option (Nat × Bool)}
end
end Go.BL
namespace Go.BL
theorem SlK.cutE {α:Type} {B:Kn} {q:Option Addr} {cp w:Nat} {R:Rel α} {xs:List α} (h:SlK B q cp w R xs) (a b:Nat) (hab:a≤b) (hb:b≤xs.length):b≤cp∧∃q' cp',Value.slice (if cp=a then q else q.map (·.add (a*w))) (b - a) (cp - a) = .slice q' ((xs.take b).drop a).length cp'∧SlK B q' cp' w R ((xs.take b).drop a):=by
 have e1:((xs.take b).drop a).length=b - a:=by rw [List.length_drop,List.length_take];omega
 have hc:=h.cap
 have hl:=h.len
 exact ⟨by omega,_,_,by rw [e1],h.rows.cut hb h.cap,by omega,by omega⟩
end Go.BL
namespace Go.BL
open Go.Conc (G)
section
variable {P:PJ} {C:Cx P} {k:List Item} {n:Nat} {ops:Array Oper} {i:Nat} {K:ZaE} {S:Env} {D:List Deferred} {B:Kn} {L:List Cells} {Q:Exit→Zag}
variable {dst:Option Tmp} {ty:TypeId} {pos:String} {after:Array Edge} {g:Option (Nat × Bool)}
variable {α:Type} {R:Rel α} {xs:List α}
end
theorem ZgC.take {l:Cells} {p:Option Addr} {n c k:Nat} {T:TypeId} {sz:Nat} {vs:List Value} (h:ZgC l p n c T sz vs) (hk:k≤n):ZgC l p k c T sz (vs.take (k*sz)):=by
 obtain ⟨h1,h2⟩:=h
 have hks:k*sz≤n*sz:=Nat.mul_le_mul_right sz hk
 refine ⟨by rw [List.length_take,h1];exact Nat.min_eq_left hks,?_⟩
 rcases h2 with ⟨rfl,rfl,rfl,rfl⟩ | ⟨b,arr,rfl,h2,h3,rfl,h4⟩
 ·exact .inl ⟨rfl,by omega,rfl,rfl⟩
 ·refine .inr ⟨b,arr,rfl,h2,?_,rfl,by omega⟩
  rw [← h3,List.take_take,Nat.min_eq_left hks]
theorem All2.take {α:Type} {R:List Value→α→Prop} {rows:List (List Value)} {xs:List α} (h:All2 R rows xs) :∀k,All2 R (rows.take k) (xs.take k):=by
 induction h with
 | nil=>intro k;simp;exact .nil
 | cons h1 _ ih=>
  intro k
  cases k with
  | zero=>exact .nil
  | succ k=>exact .cons h1 (ih k)
theorem Zhx {w:Nat} :∀{rows:List (List Value)},wide w rows→∀k,(rows.take k).flatten=rows.flatten.take (k*w)
 | [],_,k=>by simp
 | r :: rows,h,0=>by simp
 | r :: rows,h,k+1=>by
  have e:=h r (List.mem_cons_self ..)
  rw [List.take_succ_cons,List.flatten_cons,List.flatten_cons,Zhx (fun r hr=>h r (List.mem_cons_of_mem _ hr)) k,show (k+1)*w=r.length+k*w from by rw [e,Nat.succ_mul,Nat.add_comm],List.take_length_add_append]
theorem ZR.take {α:Type} {B:Kn} {l:Cells} {p:Option Addr} {c:Nat} {T:TypeId} {w:Nat} {R:Rel α} {xs:List α} (h:ZR B l p c T w R xs) {k:Nat} (hk:k≤xs.length):ZR B l p c T w R (xs.take k):=by
 obtain ⟨rows,h1,h2,h3⟩:=h
 refine ⟨rows.take k,h1.take k,fun r hr=>h2 r (List.mem_of_mem_take hr),?_⟩
 rw [Zhx h2]
 have:=h3.take hk
 rwa [show (xs.take k).length=k from by rw [List.length_take];omega]
end Go.BL
namespace Go.BL
open Go.Conc (G)
section
variable {P:PJ} {C:Cx P} {k:List Item} {n:Nat} {ops:Array Oper} {i:Nat} {S:Env} {D:List Deferred} {B:Kn} {L:List Cells} {Q:Exit→Zag}
variable {α:Type} {R:Rel α} {xs:List α} {l:Cells} {p:Option Addr} {cp:Nat} {T:TypeId} {w:Nat}
theorem Zgj {o:Oper} {K:Zag} (j:Nat) (hj:L[j]? = some l) (hv:ZR B l p cp T w R xs) (hR:Mono R) (hl:xs.length≤2000000)
  (h :∀B',B.le B'→SlK B' p cp w R xs→opW P n ops i o K S D B' (L.set j [])):opW P n ops i o K S D B L:=fun C todo k T ho hn hT hA=>by
 obtain ⟨r,h1,h2⟩:=ZT C.F [] hj
 exact C.X.publish rfl h1 fun B' hle hm=>C.X.perm (by simpa using h2.symm) (h B' hle ⟨hv.rows hR hle hm,hv.cap,hl⟩ C todo k T ho hn hT fun S' D' B'' L' T' hle' hq=>hA S' D' B'' L' T' (hle.trans hle') hq)
theorem ZFh {rs:List ResultVar} {Post:Value→Kn→List Cells→Prop} (e:Exit) (he:e = .ret∨e = .normal) (vs:List Value) (hr:Zcb P S B L rs vs) (hq:Post (Zc4 vs) B [[]]):Zgz P rs Post e S [] B L:=
 ⟨he,rfl,vs,[[]],hr,⟨L.flatten,by simp⟩,hq⟩
end
end Go.BL
namespace Go.BL
abbrev Str:=List UInt8
def Zel:Rel Str:=fun _ row x=>row=[str x]∧x.length≤2000000
theorem Zel.mono:Mono Zel:=fun _ _ _ h=>h
theorem Zel.one {B:Kn} :∀row y,Zel B row y→row.all ZgO=true∧row.length=1:=by rintro _ y ⟨rfl,_⟩;exact ⟨rfl,rfl⟩
def Z9:Rel Int:=fun _ row x=>row=[.int .i64 x]
theorem Z9.mono:Mono Z9:=fun _ _ _ h=>h
structure DUser where
 name:Str
 pass:Str
 quota:Int
deriving DecidableEq
def ZL:Rel DUser:=fun _ row x=>row=[str x.name,str x.pass,.int .i64 x.quota]∧x.name.length≤2000000∧x.pass.length≤2000000
theorem ZL.mono:Mono ZL:=fun _ _ _ h=>h
theorem ZL.one {B:Kn} :∀row y,ZL B row y→row.all ZgO=true∧row.length=3:=by rintro _ y ⟨rfl,_⟩;exact ⟨rfl,rfl⟩
structure DGrant where
 user:Str
 rights:Int
deriving DecidableEq
def Zaf:Rel DGrant:=fun _ row x=>row=[str x.user,.int .i64 x.rights]∧x.user.length≤2000000
theorem Zaf.mono:Mono Zaf:=fun _ _ _ h=>h
theorem Zaf.one {B:Kn} :∀row y,Zaf B row y→row.all ZgO=true∧row.length=2:=by rintro _ y ⟨rfl,_⟩;exact ⟨rfl,rfl⟩
structure DMail where
 uid:Int
 flags:Int
 text:Str
deriving DecidableEq
def Zah:Rel DMail:=fun _ row x=>row=[.int .i64 x.uid,.int .i64 x.flags,str x.text]∧x.text.length≤2000000
theorem Zah.mono:Mono Zah:=fun _ _ _ h=>h
theorem Zah.one {B:Kn} :∀row y,Zah B row y→row.all ZgO=true∧row.length=3:=by rintro _ y ⟨rfl,_⟩;exact ⟨rfl,rfl⟩
structure DSpan where
 low:Int
 high:Int
deriving DecidableEq
def ZN:Rel DSpan:=fun _ row x=>row=[.int .i64 x.low,.int .i64 x.high]
theorem ZN.mono:Mono ZN:=fun _ _ _ h=>h
structure DItem where
 id:Int
 fr:Str
 text:Str
 left:List Str
deriving DecidableEq
def Zar:Rel DItem:=fun B row x=>∃q cp,row=[.int .i64 x.id,str x.fr,str x.text,.slice q x.left.length cp]∧SlK B q cp 1 Zel x.left∧x.fr.length≤2000000∧x.text.length≤2000000
theorem Zar.mono:Mono Zar:=by rintro B B' hle row x ⟨q,cp,h1,h2,h3,h4⟩;exact ⟨q,cp,h1,h2.mono Zel.mono hle,h3,h4⟩
structure DQueue where
 next:Int
 items:List DItem
deriving DecidableEq
structure DLetter where
 fr:Str
 to_:List Str
 text:Str
deriving DecidableEq
structure DBox where
 next:Int
 mail:List DMail
deriving DecidableEq
structure DFolder where
 owner:Str
 name:Str
 grants:List DGrant
 next:Int
 mail:List DMail
deriving DecidableEq
def ZF:Rel DFolder:=fun B row x=>∃q cp q' cp',row=[str x.owner,str x.name,.slice q x.grants.length cp,.int .i64 x.next,.slice q' x.mail.length cp']∧SlK B q cp 2 Zaf x.grants∧SlK B q' cp' 3 Zah x.mail∧x.owner.length≤2000000∧x.name.length≤2000000
theorem ZF.mono:Mono ZF:=by rintro B B' hle row x ⟨q,cp,q',cp',h1,h2,h3,h4⟩;exact ⟨q,cp,q',cp',h1,h2.mono Zaf.mono hle,h3.mono Zah.mono hle,h4⟩
structure DHost where
 domain:Str
 users:List DUser
 folders:List DFolder
 queue:DQueue
deriving DecidableEq
end Go.BL
namespace Go.BL
end Go.BL
namespace Go.BL
end Go.BL
namespace Go.BL
open Go.Conc (G)
def ZB4 {P:PJ} (X:Lg P) (l:Cells) (hn:(l.map (·.1)).Nodup):Lg P where
 join:=fun h hlB=>X.join (P.Join.lend hn hlB h)
 main:=X.main
 R:=fun g B L=>(∀p,p∈l→B.mem p.1=some p.2)→X.R g (B.minus l) (l ++ L)
 conv:=fun {g B B' L L'} hle hs hb hl h hlB=>by
  have hlB' :∀p,p∈l→B'.mem p.1=some p.2:=fun p hp=>hle _ _ (hlB p hp)
  refine X.conv (fun b o hb=>?_) (fun w s=>ZjP hlB' hn (hs w (Zj8 hlB s))) (fun b o hbo=>?_) (fun p hp=>?_) (h hlB')
  ·obtain ⟨h1,h2⟩:=Kn.minus_mem.1 hb
   exact Kn.minus_mem.2 ⟨hle b o h1,h2⟩
  ·obtain ⟨h1,h2⟩:=Kn.minus_mem.1 hbo
   rcases hb b o h1 with hx | ⟨p,hp,e⟩
   ·obtain ⟨o',ho'⟩:=Option.isSome_iff_exists.1 hx
    exact .inl (by rw [Kn.minus_mem.2 ⟨ho',h2⟩];rfl)
   ·exact .inr ⟨p,List.mem_append.2 (.inr hp),e⟩
  ·rcases List.mem_append.1 hp with hp | hp
   ·exact ⟨p,List.mem_append.2 (.inl hp),rfl⟩
   ·obtain ⟨q,hq,e⟩:=hl p hp
    exact ⟨q,List.mem_append.2 (.inr hq),e⟩
 step:=fun {g B L} hg h hlB=>by
  refine X.step hg fun w s=>?_
  obtain ⟨g',w',es,B',L',h1,h2,h3,h4⟩:=h w (Zj8 hlB s)
  have hlB' :∀p,p∈l→B'.mem p.1=some p.2:=fun p hp=>h3.le _ _ (hlB p hp)
  refine ⟨g',w',es,B'.minus l,l ++ L',h1,fun e he=>?_,⟨fun b o hb=>?_,ZjP hlB' hn h3.sat,h3.size,fun b hb hn'=>h3.keep b hb fun p hp=>hn' p (List.mem_append.2 (.inr hp)),fun b o hbo=>?_,fun p hp=>?_,h3.tape,h3.os,h3.output⟩,h4 hlB'⟩
  ·rcases h2 e he with hx | ⟨hs,blk,hloc,hx⟩
   ·exact .inl hx
   ·refine .inr ⟨hs,blk,hloc,?_⟩
    rcases hx with ⟨o,ho⟩ | ⟨hw,hb⟩ | hge
    ·exact .inl ⟨o,List.mem_append.2 (.inr ho)⟩
    ·cases hi:inL l blk with
     | true=>
      obtain ⟨p,hp,rfl⟩:=Zkf.1 hi
      exact .inl ⟨p.2,List.mem_append.2 (.inl hp)⟩
     | false=>
      obtain ⟨o,ho⟩:=Option.isSome_iff_exists.1 hb
      exact .inr (.inl ⟨hw,by rw [Kn.minus_mem.2 ⟨ho,hi⟩];rfl⟩)
    ·exact .inr (.inr hge)
  ·obtain ⟨a1,a2⟩:=Kn.minus_mem.1 hb
   exact Kn.minus_mem.2 ⟨h3.le b o a1,a2⟩
  ·obtain ⟨a1,a2⟩:=Kn.minus_mem.1 hbo
   rcases h3.newB b o a1 with hx | ⟨p,hp,e⟩ | hge
   ·obtain ⟨o',ho'⟩:=Option.isSome_iff_exists.1 hx
    exact .inl (by rw [Kn.minus_mem.2 ⟨ho',a2⟩];rfl)
   ·exact .inr (.inl ⟨p,List.mem_append.2 (.inr hp),e⟩)
   ·exact .inr (.inr hge)
  ·rcases List.mem_append.1 hp with hp | hp
   ·exact .inl ⟨p,List.mem_append.2 (.inl hp),rfl⟩
   ·rcases h3.newL p hp with ⟨q,hq,e⟩ | hge
    ·exact .inl ⟨q,List.mem_append.2 (.inr hq),e⟩
    ·exact .inr hge
theorem Zu.borrow {P:PJ} {f:FuncId} {args:List Value} {B:Kn} {l:Cells} {Ls:List Cells} {Post:Value→Kn→List Cells→Prop}
  (h:(∀p,p∈l→(B.add l).mem p.1=some p.2)→Zu P f args (B.add l) Ls Post) :
  Zu P f args B (l :: Ls) (fun v B' Ls'=>∃B₂ Ls₂,Ls'=l :: Ls₂∧B'=B₂.minus l∧(B.add l).le B₂∧(∀p,p∈l→(B.add l).mem p.1=some p.2)∧(B.add l).minus l=B∧Post v B₂ Ls₂):=fun X kind c cs F hk hA=>by
 refine X.assume rfl fun ha hnd=>?_
 rw [List.flatten_cons,List.append_assoc] at ha hnd ⊢
 have hnl:(l.map (·.1)).Nodup:=by rw [List.map_append] at hnd;exact (List.nodup_append.1 hnd).1
 have hal :∀p,p∈l→B.mem p.1=none:=fun p hp=>ha p (List.mem_append.2 (.inl hp))
 have hm :∀p,p∈l→(B.add l).mem p.1=some p.2:=fun p hp=>Kn.add_mem hal hnl hp
 have e:(B.add l).minus l=B:=by
  have :∀b,((B.add l).minus l).mem b=B.mem b:=fun b=>by
   simp only [Kn.minus]
   cases hb:inL l b with
   | true=>
    obtain ⟨p,hp,rfl⟩:=Zkf.1 hb
    simp [hal p hp]
   | false=>
    simp only [Kn.add]
    cases hx:B.mem b with
    | some o=>simp
    | none=>
     have:l.find? (fun p=>p.1 == b)=none:=List.find?_eq_none.2 fun p hp=>by simpa using Ze0.1 hb p hp
     simp [this]
  cases B
  simp only [Kn.minus] at this ⊢
  congr 1
  funext b
  exact this b
 have key:=h hm (ZB4 X l hnl) kind c cs F hk fun v B₂ Ls₂ hle hq hlB=>by
  have:=hA v (B₂.minus l) (l :: Ls₂) (fun b o hb=>by
    have h1:=Kn.le_add B l b o hb
    refine Kn.minus_mem.2 ⟨hle b o h1,Ze0.2 fun p hp he=>?_⟩
    rw [← he,hal p hp] at hb;cases hb) ⟨B₂,Ls₂,rfl,rfl,hle,hm,e,hq⟩
  rwa [List.flatten_cons,List.append_assoc] at this
 have:=key hm
 rwa [e] at this
end Go.BL
namespace Go.BL
open Go.Conc (G)
def Zqp {α:Type} (R:Rel α):Prop:=∀{B B':Kn} {row:List Value} {x:α},R B row x→R B' row x
theorem Zel.any:Zqp Zel:=fun h=>h
theorem Z9.any:Zqp Z9:=fun h=>h
theorem ZL.any:Zqp ZL:=fun h=>h
theorem Zaf.any:Zqp Zaf:=fun h=>h
theorem Zah.any:Zqp Zah:=fun h=>h
theorem ZN.any:Zqp ZN:=fun h=>h
theorem ZR.rowsF {α:Type} {B B':Kn} {l:Cells} {p:Option Addr} {c:Nat} {T:TypeId} {w:Nat} {R:Rel α} {xs:List α} (h:ZR B l p c T w R xs) (hR:Zqp R) (hm :∀q,q∈l→B'.mem q.1=some q.2):ZdC B' p w R xs:=by
 obtain ⟨rows,h1,h2,h3⟩:=h
 have h':ZR B' l p c T w R xs:=⟨rows,h1.mono fun _ _=>hR,h2,h3⟩
 have:=h'.rows (fun _ _ _ h=>hR h) (Kn.le.refl B') hm
 exact this
theorem ZR.anyK {α:Type} {B B':Kn} {l:Cells} {p:Option Addr} {c:Nat} {T:TypeId} {w:Nat} {R:Rel α} {xs:List α} (h:ZR B l p c T w R xs) (hR:Zqp R):ZR B' l p c T w R xs:=by
 obtain ⟨rows,h1,h2,h3⟩:=h
 exact ⟨rows,h1.mono fun _ _=>hR,h2,h3⟩
section
variable {P:PJ} {C:Cx P} {k:List Item} {n:Nat} {ops:Array Oper} {i:Nat} {S:Env} {D:List Deferred} {B BV B0:Kn} {L:List Cells} {Q:Exit→Zag}
variable {α:Type} {R:Rel α} {xs:List α} {l:Cells} {p:Option Addr} {cp:Nat} {T:TypeId} {w:Nat}
def ZBX (E:α→Env) (Sg:α→List Cells) (F:α→Kn→Prop) (D:List Deferred):Zag:=fun S' D' B' L'=>D'=D∧∃x,F x B'∧Sub (E x) S'∧∃js r,ZaA L' js=some (Sg x,r)
theorem ZeQ {x y:Code} (ks:List Nat) (V:α→Env) (js:List Nat) (M N:α→List Cells) (F:α→Kn→Prop)
  (h:wpS P n x (thn (ZBX (fun g=>V g ++ sel ks S) (fun g=>Zhg L js (M g) ++ N g) F D) Q) S D B L)
  (h' :∀g B',B.le B'→F g B'→wpS P n y Q (V g ++ sel ks S) D B' (Zhg L js (M g) ++ N g)):wpS P n (.seq x y) Q S D B L:=
 ZwZ _ h fun S' D' B' L' hle ⟨hD,g,hF,hs,jj,r,hp⟩=>by
  subst hD
  exact Z0 _ hs (ZmJ jj hp (h' g B' hle hF))
theorem ZX {E:α→Env} {Sg:α→List Cells} {F:α→Kn→Prop} (g:α) (js:List Nat) {r:List Cells} (hF:F g B) (hs:Sub (E g) S) (hp:ZaA L js=some (Sg g,r)):thn (ZBX E Sg F D) Q .normal S D B L:=⟨rfl,g,hF,hs,js,r,hp⟩
end
end Go.BL
namespace Go.BL
open Go.Conc (G)
theorem Z1.borrow {P:PJ} {f:FuncId} {args:List Value} {B:Kn} {l:Cells} {v:Value} (h:(∀p,p∈l→(B.add l).mem p.1=some p.2)→Z1 P f args (B.add l) v):ZwN P f args B l v l:=
 (Zu.borrow h).mono fun v' B' Ls' _ ⟨B₂,Ls₂,h1,h2,_,_,h3,h4,h5,h6⟩=>by subst h5;subst h6;exact ⟨h4,h2.trans h3,h1⟩
theorem ZR.lend {α:Type} {B:Kn} {l:Cells} {p:Option Addr} {c:Nat} {T:TypeId} {w:Nat} {R:Rel α} {xs:List α} (h:ZR B l p c T w R xs) (hR:Mono R) (hm :∀q,q∈l→(B.add l).mem q.1=some q.2) (hl:xs.length≤2000000):SlK (B.add l) p c w R xs:=⟨h.rows hR (Kn.le_add B l) hm,h.cap,hl⟩
end Go.BL
namespace Go.BL
open Go.Conc (G)
section
variable {P:PJ} {C:Cx P} {k:List Item} {n:Nat} {ops:Array Oper} {i:Nat} {K:ZaE} {S:Env} {D:List Deferred} {B:Kn} {L:List Cells} {Q:Exit→Zag}
variable {dst:Option Tmp} {ty:TypeId} {pos:String} {after:Array Edge} {g:Option (Nat × Bool)}
theorem ZgI {t e:TypeId} {x y:Operand} {k:IntKind} {p:Option Addr} {b len cap sz:Nat} {ix:Int} (hp:p=some ⟨b,0,none⟩) (hg:Zk ops S g=some true) (hd:Zw n dst=true) (hu:P.underlying t=some (.slice e)) (hsz:ZG P e=some sz)
  (hx:ev S x=some (.slice p len cap)) (hy:ev S y=some (.int k ix)) (h0:0≤ix) (h1:ix<len) (h:K (ptr ⟨b,ix.toNat*sz,none⟩) D B L):opX P n ops i ⟨dst,.indexAddr t x y,ty,pos,after,g⟩ K S D B L:=by
 subst hp
 exact Zb3 hg hd hu hsz hx hy h0 h1 (by rw [Addr.add_off _ _ rfl,Nat.zero_add];exact h)
end
end Go.BL
namespace Go.BL
open Go.Conc (G)
theorem ZR.ints {B:Kn} {b:Nat} {T:TypeId} {ls:List Int} : ZR B (ZP b (ls.map int) T) (some ⟨b,0,none⟩) ls.length T 1 Z9 ls:=by
 have e:ls.map int=(ls.map fun x=>[int x]).flatten:=by induction ls with
  | nil=>rfl
  | cons x r ih=>simp [ih]
 rw [e]
 refine ZR.lit ?_ (fun row hr=>by obtain ⟨x,_,rfl⟩:=List.mem_map.1 hr;rfl)
 clear e
 induction ls with
 | nil=>exact .nil
 | cons x r ih=>exact .cons rfl ih
theorem Zh2 :∀(a b:List Value) (k:Nat) (us:List Value),Z7 (a ++ b) (a.length+k) us=a ++ Z7 b k us
 | [],b,k,us=>by simp
 | x :: a,b,k,us=>by
  cases us with
  | nil=>simp [Zbh]
  | cons u us=>
   have:=Zh2 a b k (u :: us)
   rw [List.length_cons,show a.length+1+k=(a.length+k)+1 from by omega]
   simp only [List.cons_append,Z7]
   rw [this]
theorem Zfd :∀(a b:List Value) (k:Nat) (us:List Value),k+us.length≤a.length→Z7 (a ++ b) k us=Z7 a k us ++ b
 | a,b,k,[],_=>by simp [Zbh]
 | [],b,k,u :: us,h=>by simp at h
 | x :: a,b,0,u :: us,h=>by
  have:=Zfd a b 0 us (by simpa using h)
  simp [Z7,this]
 | x :: a,b,k+1,u :: us,h=>by
  have:=Zfd a b k (u :: us) (by simp only [List.length_cons] at h ⊢;omega)
  simp only [Z7,List.cons_append,this]
theorem Zeu (l:List Value) (i k:Nat) (us:List Value) (h:i+us.length≤k) (hk:k≤l.length):(Z7 l i us).take k=Z7 (l.take k) i us:=by
 have e:l=l.take k ++ l.drop k:=(List.take_append_drop k l).symm
 have hl:(l.take k).length=k:=by rw [List.length_take];omega
 conv=>lhs;rw [e,Zfd _ _ _ _ (by rw [hl];exact h)]
 rw [List.take_append_of_le_length (by rw [Z6,hl];exact Nat.le_refl _),List.take_of_length_le (by rw [Z6,hl];exact Nat.le_refl _)]
theorem Zd4 {w:Nat} {us:List Value} :∀{rows:List (List Value)} {i off:Nat} {row:List Value},wide w rows→rows[i]? = some row→off+us.length≤w→Z7 rows.flatten (i*w+off) us=(rows.set i (Z7 row off us)).flatten
 | [],i,off,row,_,h,_=>by simp at h
 | r :: rows,0,off,row,hw,h,ho=>by
  simp only [List.getElem?_cons_zero,Option.some.injEq] at h
  subst h
  have e:=hw r (List.mem_cons_self ..)
  rw [Nat.zero_mul,Nat.zero_add,List.flatten_cons,Zfd _ _ _ _ (by rw [e];exact ho),List.set_cons_zero,List.flatten_cons]
 | r :: rows,i+1,off,row,hw,h,ho=>by
  have e:=hw r (List.mem_cons_self ..)
  have:=Zd4 (rows:=rows) (i:=i) (off:=off) (fun r hr=>hw r (List.mem_cons_of_mem _ hr)) (by simpa using h) ho
  rw [show (i+1)*w+off=r.length+(i*w+off) from by rw [e,Nat.succ_mul];omega,List.flatten_cons,Zh2,this,List.set_cons_succ,List.flatten_cons]
section
variable {P:PJ} {C:Cx P} {k:List Item} {n:Nat} {ops:Array Oper} {i:Nat} {K:ZaE} {S:Env} {D:List Deferred} {B BV:Kn} {L:List Cells} {Q:Exit→Zag}
variable {dst:Option Tmp} {ty:TypeId} {pos:String} {after:Array Edge} {g:Option (Nat × Bool)}
theorem Zf9 {t T:TypeId} {x y:Operand} {v:Value} {α:Type} {R:Rel α} {xs:List α} {z:α} (z':α) (us:List Value) {l:Cells} {p:Option Addr} {cp sz k off b:Nat} (j:Nat) (hv:ZR BV l p cp T sz R xs) (hp:p=some ⟨b,0,none⟩) (hz:xs[k]? = some z) (hg:Zk ops S g=some true) (hd:Zw n dst=true) (hsz:ZG P t=some us.length)
  (hx:ev S x=some (ptr ⟨b,k*sz+off,none⟩)) (hy:ev S y=some v) (hvc:v.cells=us.toArray) (ho:us.all ZgO=true) (hj:L[j]? = some l) (hoff:Nat.ble (off+us.length) sz=true) (hrow :∀row,R BV row z→R BV (Z7 row off us) z')
  (h :∀l',ZR BV l' p cp T sz R (xs.set k z')→K undef D B (L.set j l')):opX P n ops i ⟨dst,.store t x y,ty,pos,after,g⟩ K S D B L:=by
 obtain ⟨rows,h1,h2,h3,⟨rfl,_,_,_⟩ | ⟨b',arr,rfl,ha,ht,rfl,hmc⟩⟩:=hv
 ·cases hp
 ·cases hp
  obtain ⟨row,hr1,hr2⟩:=h1.get hz
  have hoff':=Nat.le_of_ble_eq_true hoff
  have hk:k<xs.length:=(List.getElem?_eq_some_iff.1 hz).1
  have hb1:k*sz+off+us.length≤xs.length*sz:=by
   have:(k+1)*sz≤xs.length*sz:=Nat.mul_le_mul_right sz hk
   rw [Nat.succ_mul] at this;omega
  have hb2:xs.length*sz≤arr.length:=by rw [ha];exact Nat.mul_le_mul_right sz hmc
  refine Zav us j (Z7 arr (k*sz+off) us) hg hd hsz hx hy hvc ho (r:=[]) hj rfl (Nat.ble_eq_true_of_le (by simpa using (by omega:k*sz+off+us.length≤arr.length))) rfl (h _ ?_)
  refine ⟨rows.set k (Z7 row off us),h1.set (hrow row hr2) k,fun r hr=>?_,?_⟩
  ·rcases List.mem_or_eq_of_mem_set hr with hr | rfl
   ·exact h2 r hr
   ·rw [Z6];exact h2 row (List.mem_of_getElem? hr1)
  ·have e:=Zd4 (us:=us) h2 hr1 hoff'
   refine ⟨?_,.inr ⟨b,_,rfl,by rw [Z6];exact ha,?_,rfl,by rw [List.length_set];exact hmc⟩⟩
   ·rw [← e,Z6,List.length_set];exact h3
   ·rw [List.length_set,Zeu _ _ _ _ hb1 hb2,ht,e]
end
end Go.BL
namespace Go.BL
open Go.Conc (G)
section
variable {P:PJ} {B:Kn} {L L₁:Cells} {l:Nat} {lp:Loop}
theorem Zfj {Q:Loop→Kn→Cells→Prop} (h:ZiL B L l (.loop lp)) (q:Q lp B L):hb P (Instr.getLoop l) Q B L:=by
 simp only [Instr.getLoop,Zi]
 exact ⟨.loop lp,h,rfl,rfl,q⟩
theorem ZjT (hp:L.Perm ((l,.loop lp) :: L₁)):ZiL B L l (.loop lp):=.inr (hp.mem_iff.2 (List.mem_cons_self ..))
theorem Zvh {Q:Next→Kn→Cells→Prop} {args:Array Value} (h:ZiL B L l (.loop lp)) (hs:args.size=lp.params.size)
  (q:Q (.round l lp.fn ((lp.params.zip args).foldl (fun tmps (x:Tmp × Value)=>tmps.setIfInBounds x.1 x.2) lp.tmps) lp.assign lp.body) B L):hb P (Instr.yield l args) Q B L:=by
 simp only [Instr.yield,Zi]
 refine Zfj h ?_
 rw [if_neg (by simp [hs])]
 exact q
theorem Zkk {Q:Unit→Kn→Cells→Prop} (hp:L.Perm ((l,.loop lp) :: L₁)) (hst:lp.state = .ready) (q:Q () B ((l,.loop { lp with state:=.busy }) :: L₁)):hb P (Instr.beginRound l) Q B L:=by
 simp only [Instr.beginRound,Zi]
 refine Zfj (ZjT hp) ?_
 refine ⟨⟨rfl,rfl⟩,.loop lp,L₁,hp,rfl,?_⟩
 show hb P (match lp.state with | .ready=>_ | .done=>_ | .busy=>_ | .exhausted=>_) Q B _
 rw [hst]
 exact q
theorem ZnC {Q:Value→Kn→Cells→Prop} (hp:L.Perm ((l,.loop lp) :: L₁)) (q:Q (.bool true) B ((l,.loop { lp with state:=.ready,pending:=none }) :: L₁)):hb P (Instr.endRound l none) Q B L:=by
 simp only [Instr.endRound,Zi]
 refine Zfj (ZjT hp) ?_
 exact ⟨⟨rfl,rfl⟩,.loop lp,L₁,hp,rfl,q⟩
theorem Zp0 {Q:Option Code→Kn→Cells→Prop} (hp:L.Perm ((l,.loop lp) :: L₁)) (hst:(lp.state == .busy)=false) (q:Q lp.pending B ((l,.loop { lp with state:=.exhausted }) :: L₁)):hb P (Instr.endLoop l) Q B L:=by
 simp only [Instr.endLoop,Zi]
 refine Zfj (ZjT hp) ?_
 simp only [hst,Bool.false_eq_true,if_false,Zi]
 exact ⟨⟨rfl,rfl⟩,.loop lp,L₁,hp,rfl,q⟩
theorem Zl3 {Q:Nat × List Deferred→Kn→Cells→Prop} {fn:FuncId} {T:Array Value} {ps:Array Tmp} {asg body:Code}
  (q :∀r l,Q (l,[{ target:=.collected r,args:=#[] }]) B ((l,.loop { state:=.ready,pending:=none,fn:=fn,tmps:=T,params:=ps,assign:=asg,body:=body,defers:=r }) :: (r,.deferred (some [])) :: L)):hb P (Instr.enterLoop fn T ps asg body none) Q B L:=by
 simp only [Instr.enterLoop,Zi]
 refine ⟨rfl,fun r _ _=>?_⟩
 refine ⟨rfl,fun l _ _=>?_⟩
 exact q r l
theorem Zim {Q:List Deferred→Kn→Cells→Prop} {r:Nat} {ds:List Deferred} (hp:L.Perm ((r,.deferred (some ds)) :: L₁)) (q:Q ds B ((r,.deferred none) :: L₁)):hb P (Instr.takeDeferred r) Q B L:=by
 simp only [Instr.takeDeferred,Zi]
 refine ⟨.deferred (some ds),.inr (hp.mem_iff.2 (List.mem_cons_self ..)),rfl,rfl,?_⟩
 exact ⟨⟨rfl,rfl⟩,.deferred (some ds),L₁,hp,rfl,q⟩
end
section moves
variable {P:PJ} {X:Lg P} {b:Frame} {T:Array Value} {D:List Deferred} {k:List Item} {cs:List Frame} {B:Kn} {L L₁:Cells} {l:Nat} {lp:Loop}
theorem ZwR (hr:b.roundOf=some l) (hke:b.kind≠.early) (hp:L.Perm ((l,.loop lp) :: L₁)) (hst:lp.state = .ready)
  (h:X.R (G (fat b T D k) cs) B ((l,.loop { lp with state:=.busy }) :: L₁)):X.R (G (fat b T D (.beginRound :: k)) cs) B L:=X.step rfl fun w s=>by
 have hq:hb P (do Instr.beginRound l;Pure.pure Next.skip:Sem Next) (fun nx B' L'=>nx = .skip∧B'=B∧L'=(l,.loop { lp with state:=.busy }) :: L₁) B L:=by
  simp only [Zi]
  exact Zkk hp hst ⟨rfl,rfl,rfl⟩
 obtain ⟨a,w',es,B',L',h1,h2,h3,rfl,rfl,rfl⟩:=Zcq _ _ _ _ hq w #[] s
 simp only [Array.empty_append] at h1
 have ha:=ZjA (fr:=fat b T D (.beginRound :: k)) (cs:=cs) hke h1
 refine ⟨G (fat b T D k) cs,w',seen P b.fn es,B',_,?_,fun e he=>h2 e (ZbY he),h3,h⟩
 have ha':stepG.apply P true (fat b T D (.beginRound :: k)) cs none (do Instr.beginRound l;Pure.pure Next.skip) w = .go (G (fat b T D k) cs) w' (seen P b.fn es):=ha
 simp only [fat,hr,G] at ha'
 simp only [G,stepG,stepG.exec,fat,hr,Option.elim]
 exact ha'
theorem Zo0 {c:Frame} (hr:b.roundOf=some l) (hke:b.kind = .normal) (hp:L.Perm ((l,.loop lp) :: L₁))
  (h:X.R (G (c.finish (.bool true)) cs) B ((l,.loop { lp with state:=.ready,pending:=none }) :: L₁)):X.R (G (fat b T D []) (c :: cs)) B L:=X.step rfl fun w s=>by
 have hq:hb P (Instr.endRound l none) (fun v B' L'=>v = .bool true∧B'=B∧L'=(l,.loop { lp with state:=.ready,pending:=none }) :: L₁) B L:=ZnC hp ⟨rfl,rfl,rfl⟩
 obtain ⟨a,w',es,B',L',h1,h2,h3,rfl,rfl,rfl⟩:=Zcq _ _ _ _ hq w #[] s
 simp only [Array.empty_append] at h1
 refine ⟨G (c.finish (.bool true)) cs,w',seen P b.fn es,B',_,?_,fun e he=>h2 e (ZbY he),h3,h⟩
 have hd:doReturn P X.main (fat b T D []) (c :: cs) none (.bool true) w' = .go (G (c.finish (.bool true)) cs) w' #[]:=by simp [doReturn,fat,hke,G]
 simp only [fat,hr,hke,G] at hd
 obtain ⟨r1,r2⟩:=Zbf h1
 simp [G,stepG,stepG.exec,fat,hr,hke,r1,r2,GStep.after,hd]
theorem Zo1 (hp:L.Perm ((l,.loop lp) :: L₁)) (hst:(lp.state == .busy)=false) (hpe:lp.pending=none)
  (h:X.R (G (fat b T D k) cs) B ((l,.loop { lp with state:=.exhausted }) :: L₁)):X.R (G (fat b T D (.endRangeFunc l :: k)) cs) B L:=X.step rfl fun w s=>by
 have hq:hb P (Instr.endLoop l) (fun v B' L'=>v=none∧B'=B∧L'=(l,.loop { lp with state:=.exhausted }) :: L₁) B L:=Zp0 hp hst ⟨hpe,rfl,rfl⟩
 obtain ⟨a,w',es,B',L',h1,h2,h3,rfl,rfl,rfl⟩:=Zcq _ _ _ _ hq w #[] s
 simp only [Array.empty_append] at h1
 refine ⟨G (fat b T D k) cs,w',seen P b.fn es,B',_,?_,fun e he=>h2 e (ZbY he),h3,h⟩
 obtain ⟨r1,r2⟩:=Zbf h1
 simp [G,stepG,stepG.exec,fat,r1,r2,GStep.after]
theorem Zqu {r:Nat} {todo:List Item} (hp:L.Perm ((r,.deferred (some [])) :: L₁))
  (h:X.R (G { fat b T D todo with mode:=.returning } cs) B ((r,.deferred none) :: L₁)):X.R (G { fat b T ({ target:=.collected r,args:=#[] } :: D) todo with mode:=.returning } cs) B L:=X.step rfl fun w s=>by
 have hq:hb P (Instr.takeDeferred r) (fun v B' L'=>v=[]∧B'=B∧L'=(r,.deferred none) :: L₁) B L:=Zim hp ⟨rfl,rfl,rfl⟩
 obtain ⟨a,w',es,B',L',h1,h2,h3,rfl,rfl,rfl⟩:=Zcq _ _ _ _ hq w #[] s
 simp only [Array.empty_append] at h1
 refine ⟨G { fat b T D todo with mode:=.returning } cs,w',seen P b.fn es,B',_,?_,fun e he=>h2 e (ZbY he),h3,h⟩
 obtain ⟨r1,r2⟩:=Zbf h1
 simp [G,stepG,unwind,fat,r1,r2,GStep.after]
theorem ZwQ {f:Operand} {F:FuncId} {cap:Array Value} {ps:Array Tmp} {asg body:Code} (hr:b.roundOf=none) (hke:b.kind≠.early) (hf:evT T f = .func (.func F) #[] cap) (hen:enters P F=true)
  (h :∀r l,X.R (G (Frame.enter P F (#[.func (.yield l) #[] #[]] ++ cap) .normal) (fat b T ({ target:=.collected r,args:=#[] } :: D) (.inRangeFunc l :: k) :: cs)) B
   ((l,.loop { state:=.ready,pending:=none,fn:=b.fn,tmps:=T,params:=ps,assign:=asg,body:=body,defers:=r }) :: (r,.deferred (some [])) :: L)):X.R (G (fat b T D (.code (.rangeFunc f ps asg body) :: k)) cs) B L:=X.step rfl fun w s=>by
 have hq:hb P (Instr.enterLoop b.fn T ps asg body none) (fun v B' L'=>∃r l,v=(l,[{ target:=.collected r,args:=#[] }])∧B'=B∧L'=(l,.loop { state:=.ready,pending:=none,fn:=b.fn,tmps:=T,params:=ps,assign:=asg,body:=body,defers:=r }) :: (r,.deferred (some [])) :: L) B L:=
  Zl3 fun r l=>⟨r,l,rfl,rfl,rfl⟩
 obtain ⟨a,w',es,B',L',h1,h2,h3,r,l,rfl,rfl,rfl⟩:=Zcq _ _ _ _ hq w #[] s
 simp only [Array.empty_append] at h1
 let fr:=fat b T ({ target:=.collected r,args:=#[] } :: D) (.inRangeFunc l :: k)
 let call:Call:={ callee:=.value f,args:=#[.const (.func (.yield l) #[] #[])],argTypes:=#[] }
 have hq2:hb P (do let d ← resolve fr.eval call 0;invoke d.target d.args:Sem Next) (fun nx B₂ L₂=>nx = .enter F (#[.func (.yield l) #[] #[]] ++ cap)∧B₂=B'∧L₂=(l,.loop { state:=.ready,pending:=none,fn:=b.fn,tmps:=T,params:=ps,assign:=asg,body:=body,defers:=r }) :: (r,.deferred (some [])) :: L) B' ((l,.loop { state:=.ready,pending:=none,fn:=b.fn,tmps:=T,params:=ps,assign:=asg,body:=body,defers:=r }) :: (r,.deferred (some [])) :: L):=by
  have e1:fr.eval=evT T:=Zkv b T _ _
  simp only [call,resolve,Zi,Zp,e1,hf,Deferred.ofValue,invoke]
  refine Zf1 hen ⟨?_,rfl,rfl⟩
  simp [evT]
 obtain ⟨a2,w2,es2,B₂,L₂,g1,g2,g3,rfl,rfl,rfl⟩:=Zcq _ _ _ _ hq2 w' #[] h3.sat
 simp only [Array.empty_append] at g1
 have ha:=Zf3 (fr:=fr) (cs:=cs) hke (by intro a b c d r;simp [fr,fat]) g1
 refine ⟨_,w2,seen P b.fn es ++ seen P b.fn es2,B₂,_,?_,fun e he=>?_,h3.trans g3,h r l⟩
 ·have ha':stepG.apply P true fr cs none (do let d ← resolve fr.eval call 0;invoke d.target d.args) w' = .go (G (Frame.enter P F (#[.func (.yield l) #[] #[]] ++ cap) .normal) (fr :: cs)) w2 (seen P b.fn es2):=ha
  simp only [fr,fat,call,hr,G] at ha'
  simp only [G,stepG,stepG.exec,fat,hr,h1,GStep.after,List.singleton_append,ha']
 ·rcases Array.mem_append.1 he with he | he
  ·exact (h2 e (ZbY he)).up g3.size
  ·exact Ev.after h3 g3.size (g2 e (ZbY he))
end moves
end Go.BL
namespace Go.BL
open Go.Conc (G)
def ZtE (P:PJ) (l:Nat) (fn:FuncId) (T:Array Value) (asg body:Code) (B:Kn) (s:Cells) (Post:Kn→Cells→Prop):Prop:=
∀(X:Lg P) (c:Frame) (cs:List Frame) (F:Cells),(∀B' s',B.le B'→Post B' s'→X.R (G (c.finish (.bool true)) cs) B' (s' ++ F))→X.R (G (Frame.round l fn T asg body .normal) (c :: cs)) B (s ++ F)
def ZE4 (l:Nat) (lp:Loop) (Post:Kn→Cells→Prop):Exit→Zag:=fun e S D B L=>
 e = .normal∧L[0]? = some [(l,.loop { lp with state:=.busy })]∧∃s' gl,((L.set 0 [(l,.loop { lp with state:=.ready,pending:=none })]).flatten).Perm (s' ++ gl)∧Post B s'
theorem Zrl {P:PJ} {l:Nat} {fn:FuncId} {n:Nat} {T:Array Value} {asg body:Code} {B:Kn} {s:Cells} {Post:Kn→Cells→Prop} {lp:Loop} {L:List Cells} (hT:T.size=n) (S:Env) (hS:Ag T S) (hs:s.Perm ((l,.loop lp) :: L.flatten)) (hst:lp.state = .ready)
  (h:wpS P n asg (fun e S' D' B' L'=>e = .normal∧D'=[]∧L'[0]? = some [(l,.loop lp)]∧wpS P n body (ZE4 l lp Post) S' [] B' (L'.set 0 [(l,.loop { lp with state:=.busy })])) S [] B ([(l,.loop lp)] :: L)):ZtE P l fn T asg body B s Post:=fun X c cs F hA=>by
 let b0:Frame:={ fn:=fn,tmps:=#[],todo:=[],defers:=[],mode:=.run,kind:=.normal,roundOf:=some l }
 have e0:Frame.round l fn T asg body .normal=fat b0 T [] [.code asg,.beginRound,.code body]:=rfl
 rw [e0]
 refine X.perm (L':=([(l,.loop lp)] :: L).flatten ++ F) (by simpa using hs.append_right F) ?_
 refine h ⟨X,b0,c :: cs,F,by simp [b0]⟩ [.beginRound,.code body] T hT hS fun e S' D' B' L' T' hle hq hn' hT'=>?_
 obtain ⟨rfl,rfl,h0,hb⟩:=hq
 obtain ⟨r,p1,p2⟩:=ZT F [(l,.loop { lp with state:=.busy })] h0
 refine ZwR rfl (by simp [b0]) (by simpa using p1) hst ?_
 refine X.perm (by simpa using p2.symm) ?_
 refine hb ⟨X,b0,c :: cs,F,by simp [b0]⟩ [] T' hn' hT' fun e₂ S₂ D₂ B₂ L₂ T₂ hle₂ hq₂ hn₂ hT₂=>?_
 obtain ⟨rfl,h1,s',gl,hp,hq⟩:=hq₂
 obtain ⟨r₂,p3,p4⟩:=ZT F [(l,.loop { lp with state:=.ready,pending:=none })] h1
 refine Zo0 rfl rfl (lp:={ lp with state:=.busy }) (by simpa using p3) ?_
 refine X.drop (r:=s' ++ F) (gl:=gl) ?_ (hA B₂ s' (hle.trans hle₂) hq)
 refine (List.Perm.trans (by simpa using p4.symm) (hp.append_right F)).trans ?_
 rw [List.append_assoc,List.append_assoc]
 exact List.Perm.append_left _ List.perm_append_comm
theorem ZnT {P:PJ} {fr:Frame} {cs:List Frame} {s:Sem Next} {w w':World} {l:Nat} {f:FuncId} {T:Array Value} {asg body:Code} {es:Array Event} (hk:fr.kind≠.early) (h:s.runT P w #[]=(.ok (.round l f T asg body) w',es)) :
  stepG.apply P true fr cs none s w = .go (G (Frame.round l f T asg body .normal) (fr :: cs)) w' (seen P fr.fn es):=by
 have hk':(fr.kind == CallKind.early)=false:=by simpa using hk
 obtain ⟨hr,he⟩:=Zbf h
 rw [← he]
 simp [stepG.apply,hr,hk',GStep.after,G]
section
variable {P:PJ} {n:Nat} {ops:Array Oper} {i:Nat} {K:ZaE} {S:Env} {D:List Deferred} {B:Kn} {L:List Cells} {Q:Exit→Zag}
variable {dst:Option Tmp} {ty:TypeId} {pos:String} {after:Array Edge} {g:Option (Nat × Bool)}
def Zmv (ps:Array Tmp) (T:Array Value) (vs:List Value):Array Value:=(ps.zip vs.toArray).foldl (fun tmps (x:Tmp × Value)=>tmps.setIfInBounds x.1 x.2) T
theorem Zw0 {x:Operand} {l j:Nat} {s:Cells} {lp:Loop} {xs:List Operand} {vs:List Value} {ats:Array TypeId} {Post:Kn→Cells→Prop} (hj:L[j]? = some s) (hl:(l,Obj.loop lp)∈s) (hg:Zk ops S g=some true) (hd:Zw n dst=true)
  (hx:ev S x=some (.func (.yield l) #[] #[])) (ha:evs S xs=some vs) (hs:vs.length=lp.params.size) (hc:ZtE P l lp.fn (Zmv lp.params lp.tmps vs) lp.assign lp.body B s Post)
  (h :∀B' s',B.le B'→Post B' s'→K (.bool true) D B' (L.set j s')):opX P n ops i ⟨dst,.call ⟨.value x,xs.toArray,ats⟩,ty,pos,after,g⟩ K S D B L:=⟨hd,fun C todo k T ho hn hT hA=>by
 refine C.X.step rfl fun w st=>?_
 have hq:hb P (execOp (evT T) ⟨dst,.call ⟨.value x,xs.toArray,ats⟩,ty,pos,after,g⟩) (fun nx B' L'=>nx = .round l lp.fn (Zmv lp.params lp.tmps vs) lp.assign lp.body∧B'=B∧L'=L.flatten ++ C.F) B (L.flatten ++ C.F):=by
  simp only [execOp,resolve,ZeL hT hx,Deferred.ofValue,Zi,Zp,invoke]
  refine Zvh (lp:=lp) (.inr (List.mem_append.2 (.inl (List.mem_flatten.2 ⟨s,List.mem_of_getElem? hj,hl⟩)))) ?_ ⟨?_,rfl,rfl⟩
  ·rw [List.map_toArray,Zkw hT ha];simpa using hs
  ·rw [List.map_toArray,Zkw hT ha];simp [Zmv]
 obtain ⟨a,w',es,B',L',h1,h2,h3,rfl,rfl,rfl⟩:=Zcq _ _ _ _ hq w #[] st
 simp only [Array.empty_append] at h1
 rw [ZjL rfl ho (ZbW hT hg)]
 have hk:(fat C.b T D (.inRegion ops (i :: todo) :: k)).kind≠.early:=C.early
 refine ⟨_,w',_,B',L.flatten ++ C.F,ZnT hk h1,fun e he=>h2 e (ZbY he),h3,?_⟩
 obtain ⟨r,p1,p2⟩:=ZT C.F [] hj
 refine C.X.perm p1 (hc C.X _ C.cs r fun B₂ s' hle hp=>?_)
 obtain ⟨r2,p3,p4⟩:=ZT C.F s' hj
 have hr:r.Perm r2:=(List.perm_append_left_iff s).1 (p1.symm.trans p3)
 show C.X.R (G ((fat C.b T D (.inRegion ops (i :: todo) :: k)).finish (.bool true)) C.cs) B₂ _
 rw [Zfm ho]
 exact C.X.perm ((List.Perm.append_left s' hr).trans p4.symm) (hA _ D B₂ (L.set j s') hle (h B₂ s' hle hp))⟩
def wpT (P:PJ) (n:Nat) (c:Code) (Q:Exit→Zag):Zag:=fun S D B L=>
∀(C:Cx P) (k:List Item) (T:Array Value),C.b.roundOf=none→T.size=n→Ag T S→
  (∀e S' D' B' L' T',B.le B'→Q e S' D' B' L'→T'.size=n→Ag T' S'→After C k T' D' B' L' e)→C.X.R (G (fat C.b T D (.code c :: k)) C.cs) B (L.flatten ++ C.F)
theorem ZBs {x y:Code} (h:wpS P n x (thn (wpT P n y Q) Q) S D B L):wpT P n (.seq x y) Q S D B L:=fun C k T hr hn hT hA=>by
 refine C.X.ctl rfl (fun w=>Zle) (h C (.code y :: k) T hn hT fun e S' D' B' L' T' hle hq hn' hT'=>?_)
 cases e with
 | normal=>exact hq C k T' hr hn' hT' fun e₂ S₂ D₂ B₂ L₂ T₂ hle₂ hq₂=>hA e₂ S₂ D₂ B₂ L₂ T₂ (hle.trans hle₂) hq₂
 | exit id=>exact After.push rfl (by simp) (hA (.exit id) S' D' B' L' T' hle hq hn' hT')
 | ret=>exact After.push (x:=.code y) rfl (by simp) (hA .ret S' D' B' L' T' hle hq hn' hT')
 | goto l=>exact (hA (.goto l) S' D' B' L' T' hle hq hn' hT')
 | panic ch=>exact (hA (.panic ch) S' D' B' L' T' hle hq hn' hT')
 | outgrown=>exact (hA .outgrown S' D' B' L' T' hle hq hn' hT')
theorem Zzp {x y:Code} (h:wpT P n x (thn (wpS P n y Q) Q) S D B L):wpT P n (.seq x y) Q S D B L:=fun C k T hr hn hT hA=>by
 refine C.X.ctl rfl (fun w=>Zle) (h C (.code y :: k) T hr hn hT fun e S' D' B' L' T' hle hq hn' hT'=>?_)
 cases e with
 | normal=>exact hq C k T' hn' hT' fun e₂ S₂ D₂ B₂ L₂ T₂ hle₂ hq₂=>hA e₂ S₂ D₂ B₂ L₂ T₂ (hle.trans hle₂) hq₂
 | exit id=>exact After.push rfl (by simp) (hA (.exit id) S' D' B' L' T' hle hq hn' hT')
 | ret=>exact After.push (x:=.code y) rfl (by simp) (hA .ret S' D' B' L' T' hle hq hn' hT')
 | goto l=>exact (hA (.goto l) S' D' B' L' T' hle hq hn' hT')
 | panic ch=>exact (hA (.panic ch) S' D' B' L' T' hle hq hn' hT')
 | outgrown=>exact (hA .outgrown S' D' B' L' T' hle hq hn' hT')
theorem Zxd {id:Nat} {c:Code} (h:wpT P n c (inB id Q) S D B L):wpT P n (.block id c) Q S D B L:=fun C k T hr hn hT hA=>by
 refine C.X.ctl rfl (fun w=>ZjM) (h C (.inBlock id :: k) T hr hn hT fun e S' D' B' L' T' hle hq hn' hT'=>?_)
 cases e with
 | normal=>exact C.X.ctl rfl (fun w=>ZgK) (hA .normal S' D' B' L' T' hle hq hn' hT')
 | exit id'=>
  by_cases hid:id'=id
  ·subst hid
   have hq':Q .normal S' D' B' L':=by simpa [inB] using hq
   exact ⟨k,by simp [exitTo],hA .normal S' D' B' L' T' hle hq' hn' hT'⟩
  ·have hb:Nat.beq id' id=false:=by
    cases h:Nat.beq id' id with
    | false=>rfl
    | true=>exact absurd (Nat.eq_of_beq_eq_true h) hid
   have hq':Q (.exit id') S' D' B' L':=by simpa [inB,hb] using hq
   obtain ⟨k',hk',hg⟩:=hA (.exit id') S' D' B' L' T' hle hq' hn' hT'
   have:(id == id')=false:=by simp;exact fun h=>hid h.symm
   exact ⟨k',by simp [exitTo,this,hk'],hg⟩
 | ret=>exact hA .ret S' D' B' L' T' hle hq hn' hT'
 | goto l=>exact hA (.goto l) S' D' B' L' T' hle hq hn' hT'
 | panic ch=>exact hA (.panic ch) S' D' B' L' T' hle hq hn' hT'
 | outgrown=>exact hA .outgrown S' D' B' L' T' hle hq hn' hT'
theorem ZeS {id:Nat} {l:List Oper} {y:Code} (h:Zql P n l.toArray 0 l (wpT P n y Q) S D B L):wpT P n (.seq (.region id l.toArray false) y) Q S D B L:=
 ZBs (Zd h)
theorem Zzq {c:Code} (S':Env) (hs:Sub S' S) (h:wpT P n c Q S' D B L):wpT P n c Q S D B L:=fun C k T hr hn hT hA=>h C k T hr hn (hT.sub hs) hA
theorem ZqY {c:Code} (S':Env) (L':List Cells) (hs:Sub S' S) (hl:L=L') (h:wpT P n c Q S' D B L'):wpT P n c Q S D B L:=by subst hl;exact Zzq S' hs h
theorem ZBu {c:Code} (i:Nat) {l:Cells} (hi:L[i]? = some l) (h :∀B',B.le B'→(∀p,p∈l→B'.mem p.1=some p.2)→wpT P n c Q S D B' (L.set i [])):wpT P n c Q S D B L:=fun C k T hr hn hT hA=>by
 obtain ⟨r,h1,h2⟩:=ZT C.F [] hi
 exact C.X.publish rfl h1 fun B' hle hm=>C.X.perm (by simpa using h2.symm) (h B' hle hm C k T hr hn hT fun e S' D' B'' L' T' hle' hq=>hA e S' D' B'' L' T' (hle.trans hle') hq)
theorem Zxc {f:Operand} {F:FuncId} {cap:Array Value} {ps:Array Tmp} {asg body:Code} {J:Kn→List Cells→Prop} (hf:ev S f=some (.func (.func F) #[] cap)) (hen:enters P F=true)
  (hc :∀fn T r l,T.size=n→Ag T S→Zu P F (.func (.yield l) #[] #[] :: cap.toList) B [(l,.loop { state:=.ready,pending:=none,fn:=fn,tmps:=T,params:=ps,assign:=asg,body:=body,defers:=r }) :: L.flatten] (fun v B' Ls=>∃lp L' s,Ls=[s]∧s.Perm ((l,Obj.loop lp) :: L'.flatten)∧(lp.state == .busy)=false∧lp.pending=none∧J B' L'))
  (h :∀r B' L',B.le B'→J B' L'→Q .normal S ({ target:=.collected r,args:=#[] } :: D) B' (L' ++ [[(r,.deferred (some []))]])):wpT P n (.rangeFunc f ps asg body) Q S D B L:=fun C k T hr hn hT hA=>by
 refine ZwQ hr C.early (ZeL hT hf) hen fun r l=>?_
 have e1:(#[Value.func (.yield l) #[] #[]] ++ cap)=(Value.func (.yield l) #[] #[] :: cap.toList).toArray:=by apply Array.ext';simp
 rw [e1]
 refine C.X.perm (L':=[(l,Obj.loop { state:=.ready,pending:=none,fn:=C.b.fn,tmps:=T,params:=ps,assign:=asg,body:=body,defers:=r }) :: L.flatten].flatten ++ ((r,.deferred (some [])) :: C.F)) ?_ (hc C.b.fn T r l hn hT C.X .normal _ C.cs ((r,.deferred (some [])) :: C.F) (.inl rfl) fun v B' Ls hle hq=>?_)
 ·simp only [List.flatten_cons,List.flatten_nil,List.append_nil,List.cons_append]
  exact List.Perm.cons _ List.perm_middle.symm
 ·obtain ⟨lp,L',s,rfl,hsp,h1,h2,hJ⟩:=hq
  show C.X.R (G (fat C.b T ({ target:=.collected r,args:=#[] } :: D) (.endRangeFunc l :: k)) C.cs) B' _
  refine Zo1 (lp:=lp) (L₁:=L'.flatten ++ ((r,.deferred (some [])) :: C.F)) (by simpa using hsp.append_right ((r,.deferred (some [])) :: C.F)) h1 h2 ?_
  refine C.X.drop (r:=(L' ++ [[(r,Obj.deferred (some []))]]).flatten ++ C.F) (gl:=[(l,.loop { lp with state:=.exhausted })]) ?_ (hA .normal S _ B' _ T hle (h r B' L' hle hJ) hn hT)
  refine List.perm_append_comm (l₁:=[(l,Obj.loop { lp with state:=.exhausted })]) |>.trans ?_
  simp
end
def ZEg (P:PJ) (rs:List ResultVar) (Post:Value→Kn→List Cells→Prop):Exit→Zag:=fun e S D B L=>
 (e = .ret∨e = .normal)∧∃r j,D=[{ target:=.collected r,args:=#[] }]∧L[j]? = some [(r,.deferred (some []))]∧∃vs Lr,Zcb P S B (L.set j []) rs vs∧(∃gl,(L.set j []).flatten.Perm (Lr.flatten ++ gl))∧Post (Zc4 vs) B Lr
theorem Zmn {P:PJ} {f:FuncId} {fn:Func} {code:Code} {rs:List ResultVar} (n:Nat) (hf:P.funcs[f]? = some fn) (hb:fn.body=some code) (hn:fn.ntmps=n) (hrs:fn.results.toList=rs) {args:List Value} (ha:args.length≤n) {B:Kn} {Ls:List Cells} {Post:Value→Kn→List Cells→Prop}
  (h:wpT P n code (ZEg P rs Post) (ZdA args 0) [] B Ls):Zu P f args B Ls Post:=fun X kind c cs F hk hA=>by
 have hke:kind≠.early:=by rcases hk with rfl | ⟨rfl,_⟩ <;> simp
 let b0:Frame:={ fn:=f,tmps:=#[],todo:=[],defers:=[],mode:=.run,kind:=kind }
 let T0:Array Value:=args.toArray ++ Array.replicate (n - args.length) undef
 have hen:Frame.enter P f args.toArray kind=fat b0 T0 [] [.code code]:=by
  simp [Frame.enter,fat,hf,hb,hn,b0,T0]
 rw [hen]
 have hT:Ag T0 (ZdA args 0):=fun i v hv=>by
  obtain ⟨_,h2⟩:=Zdl args 0 i v hv
  have hlt:=ZS (a:=args.toArray) (i:=i) (x:=v) (by simpa using h2)
  simp only [T0]
  rw [Array.getElem?_append_left hlt]
  simpa using h2
 refine h ⟨X,b0,c :: cs,F,hke⟩ [] T0 rfl (by simp [T0];omega) hT fun e S' D' B' L' T' hle hq hn' hT'=>?_
 obtain ⟨he,r,j,rfl,hj,vs,Lr,hr,⟨gl,hp⟩,hq⟩:=hq
 rw [← hrs] at hr
 have key :∀todo,X.R (G { fat b0 T' [{ target:=.collected r,args:=#[] }] todo with mode:=.returning } (c :: cs)) B' (L'.flatten ++ F):=fun todo=>by
  obtain ⟨q,p1,p2⟩:=ZT F [] hj
  refine Zqu (L₁:=q) (by simpa using p1) ?_
  refine X.drop (r:=(L'.set j []).flatten ++ F) (gl:=[(r,.deferred none)]) ?_ ?_
  ·refine (List.Perm.cons _ (by simpa using p2.symm)).trans ?_
   exact List.perm_append_comm (l₁:=[(r,Obj.deferred none)])
  ·exact Zcd hf hk rfl rfl rfl rfl hT' hr hp (hA _ B' Lr hle hq)
 rcases he with rfl | rfl
 ·exact ⟨rfl,key⟩
 ·exact X.ctl rfl (fun w=>Zi3 rfl) (key _)
end Go.BL
namespace Go.BL
open Go.Conc (G)
def Kn.none:Kn:=⟨fun _=>Option.none⟩
abbrev Zg6 (α:Type):=List Value→α→Cells→Prop
inductive All3 {α:Type} (R:Zg6 α):List (List Value)→List α→Cells→Prop
 | nil:All3 R [] [] []
 | cons {row:List Value} {x:α} {ins rest:Cells} {rows:List (List Value)} {xs:List α} : R row x ins→All3 R rows xs rest→All3 R (row :: rows) (x :: xs) (ins ++ rest)
theorem All3.len {α:Type} {R:Zg6 α} {rows:List (List Value)} {xs:List α} {s:Cells} (h:All3 R rows xs s):rows.length=xs.length:=by
 induction h with
 | nil=>rfl
 | cons _ _ ih=>simp [ih]
theorem All3.snoc {α:Type} {R:Zg6 α} {rows:List (List Value)} {xs:List α} {s:Cells} (h:All3 R rows xs s) {row:List Value} {x:α} {ins:Cells} (hx:R row x ins):All3 R (rows ++ [row]) (xs ++ [x]) (s ++ ins):=by
 induction h with
 | nil=>have:=All3.cons hx All3.nil;simpa using this
 | cons h1 _ ih=>rw [List.append_assoc];exact .cons h1 ih
def ZaM {α:Type} (l:Cells) (p:Option Addr) (c:Nat) (T:TypeId) (w:Nat) (R:Zg6 α) (xs:List α):Prop:=
∃rows blk ins,All3 R rows xs ins∧wide w rows∧l.Perm (blk ++ ins)∧ZgC blk p xs.length c T w rows.flatten
theorem ZaM.lit0 {α:Type} {b:Nat} {T:TypeId} {w:Nat} {R:Zg6 α} : ZaM (ZP b [] T) (some ⟨b,0,Option.none⟩) 0 T w R ([]:List α):=⟨[],_,[],.nil,(fun _ h=>by cases h),by simp,ZgC.lit (by simp)⟩
theorem ZaM.nil {α:Type} {T:TypeId} {w:Nat} {R:Zg6 α} : ZaM [] Option.none 0 T w R ([]:List α):=⟨[],[],[],.nil,(fun _ h=>by cases h),by simp,ZgC.nil T w⟩
theorem ZaM.cap {α:Type} {l:Cells} {p:Option Addr} {c:Nat} {T:TypeId} {w:Nat} {R:Zg6 α} {xs:List α} (h:ZaM l p c T w R xs):xs.length≤c:=by
 obtain ⟨rows,blk,ins,_,_,_,_,⟨_,h0,_,_⟩ | ⟨b,arr,_,_,_,_,hm⟩⟩:=h
 ·omega
 ·exact hm
theorem All3.known {α:Type} {R:Zg6 α} {R':Rel α} {B:Kn} (hR :∀row x ins,R row x ins→(∀q,q∈ins→B.mem q.1=some q.2)→R' B row x) :∀{rows:List (List Value)} {xs:List α} {s:Cells},All3 R rows xs s→(∀q,q∈s→B.mem q.1=some q.2)→All2 (R' B) rows xs:=by
 intro rows xs s h
 induction h with
 | nil=>intro _;exact .nil
 | cons h1 _ ih=>intro hm;exact .cons (hR _ _ _ h1 fun q hq=>hm q (List.mem_append.2 (.inl hq))) (ih fun q hq=>hm q (List.mem_append.2 (.inr hq)))
theorem ZaM.known {α:Type} {l:Cells} {p:Option Addr} {c:Nat} {T:TypeId} {w:Nat} {R:Zg6 α} {R':Rel α} {B:Kn} {xs:List α} (h:ZaM l p c T w R xs) (hR :∀row x ins,R row x ins→(∀q,q∈ins→B.mem q.1=some q.2)→R' B row x) (hM:Mono R') (hm :∀q,q∈l→B.mem q.1=some q.2) (hl:xs.length≤2000000):SlK B p c w R' xs:=by
 have hc:=h.cap
 obtain ⟨rows,blk,ins,h1,h2,h3,h4⟩:=h
 have h5:ZR B blk p c T w R' xs:=⟨rows,h1.known hR fun q hq=>hm q (h3.mem_iff.2 (List.mem_append.2 (.inr hq))),h2,h4⟩
 exact ⟨h5.rows hM (Kn.le.refl B) fun q hq=>hm q (h3.mem_iff.2 (List.mem_append.2 (.inl hq))),hc,hl⟩
abbrev ZtC (T:TypeId) (s:Cells) (q:Option Addr) (c:Nat) (ls:List Str):Prop:=ZR Kn.none s q c T 1 Zel ls
def ZbE (T:TypeId):Zg6 DItem:=fun row x ins=>∃q c,row=[.int .i64 x.id,str x.fr,str x.text,.slice q x.left.length c]∧ZtC T ins q c x.left∧x.fr.length≤2000000∧x.text.length≤2000000∧x.left.length≤2000000
theorem ZbE.known {T:TypeId} {B:Kn} {row:List Value} {x:DItem} {ins:Cells} (h:ZbE T row x ins) (hm :∀q,q∈ins→B.mem q.1=some q.2):Zar B row x:=by
 obtain ⟨q,c,h1,h2,h3,h4,h5⟩:=h
 exact ⟨q,c,h1,⟨h2.rowsF Zel.any hm,h2.cap,h5⟩,h3,h4⟩
def Zg7 (T Tn:TypeId):Value→List DItem→Cells→Prop
 | v,[],s=>v = .pointer Option.none∧s=[]
 | v,x :: xs,s=>∃b row nx ins rest,v=ptr ⟨b,0,Option.none⟩∧s.Perm (ZP b (row ++ [nx]) Tn ++ (ins ++ rest))∧ZbE T row x ins∧Zg7 T Tn nx xs rest
section
variable {P:PJ} {n:Nat} {ops:Array Oper} {i:Nat} {K:ZaE} {S:Env} {D:List Deferred} {B:Kn} {L:List Cells} {Q:Exit→Zag}
variable {dst:Option Tmp} {ty:TypeId} {pos:String} {after:Array Edge} {g:Option (Nat × Bool)}
theorem Zos {o:Oper} {L':List Cells} {K':ZaE} (hp:L.flatten.Perm L'.flatten) (h:opX P n ops i o K' S D B L') (hk :∀v D' B' L₁,B.le B'→K' v D' B' L₁→∃L₂,L₁.flatten.Perm L₂.flatten∧K v D' B' L₂):opX P n ops i o K S D B L:=⟨h.1,fun C todo k T ho hn hT hA=>
 C.X.perm (hp.append_right _) (h.2 C todo k T ho hn hT fun v D' B' L₁ hle hK=>by
  obtain ⟨L₂,hp2,hK2⟩:=hk v D' B' L₁ hle hK
  exact C.X.perm (hp2.append_right _) (hA v D' B' L₂ hle hK2))⟩
theorem Zgi {L:List Cells} {j:Nat} {s:Cells} (s':Cells) (hj:L[j]? = some s) :∃r,L.flatten.Perm (s ++ r)∧((L.set j s').flatten).Perm (s' ++ r):=by
 obtain ⟨r,h1,h2⟩:=ZT [] s' hj
 exact ⟨r,by simpa using h1,by simpa using h2⟩
theorem Zzj {α:Type} {R:Zg6 α} {xs:List α} {z:α} {t u e:TypeId} {x y:Operand} {sz by_ m c c2:Nat} {p q:Option Addr} {row:List Value} {l ins:Cells} (j k:Nat) (hjk:Nat.beq j k=false) (hj:L[j]? = some l) (hk:L[k]? = some ins) (hv:ZaM l p c e sz R xs) (hm:m=xs.length) (hg:Zk ops S g=some true) (hd:Zw n dst=true)
  (he:ZbL P t e sz by_=true) (hu:(match P.underlying u with | some (.slice _)=>true | _=>false)=true) (hx:ev S x=some (.slice p m c)) (hy:ev S y=some (.slice q 1 c2)) (hs:ZcX B L.flatten q row) (hone:row.all ZgO=true) (hrl:row.length=sz) (hr:R row z ins) (hb1:(xs.length+1)*by_≤140737488355328)
  (h :∀l' p' c',ZaM l' p' c' e sz R (xs ++ [z])→K (.slice p' (xs ++ [z]).length c') D B ((L.set j l').set k [])):opX P n ops i ⟨dst,.call ⟨.builtin .append,#[x,y],#[t,u]⟩,ty,pos,after,g⟩ K S D B L:=by
 subst hm
 obtain ⟨rows,blk,inn,h1,h2,h3,h4⟩:=hv
 obtain ⟨r,p1,_⟩:=Zgi [] hj
 have hne:j≠k:=fun e=>by subst e;simp at hjk
 have hk2 :∀l',(L.set j l')[k]? = some ins:=fun l'=>by rw [List.getElem?_set,if_neg hne];exact hk
 refine Zos (L':=[blk,inn ++ r]) (K':=fun v D' B' L₁=>∃blk' p' c',L₁=[blk',inn ++ r]∧v = .slice p' (xs.length+1) c'∧D'=D∧B'=B∧ZgC blk' p' (xs.length+1) c' e sz (rows.flatten ++ row)) ?_ ?_ ?_
 ·refine p1.trans ?_
  simp only [List.flatten_cons,List.flatten_nil,List.append_nil]
  rw [← List.append_assoc]
  exact h3.append_right r
 ·refine Zfc 0 rfl h4 hg hd he hu hx hy ?_ (by rw [hrl,Nat.one_mul]) hone hb1 fun l' p' c' hv'=>⟨l',p',c',rfl,rfl,rfl,rfl,hv'⟩
  cases q with
  | none=>exact hs
  | some a=>
   intro jj v hjj
   refine (hs jj v hjj).perm (p1.trans ?_)
   simp only [List.flatten_cons,List.flatten_nil,List.append_nil]
   rw [← List.append_assoc]
   exact h3.append_right r
 ·rintro v D' B' L₁ hle ⟨blk',p',c',rfl,rfl,rfl,rfl,hv'⟩
  have hnew:ZaM (blk' ++ (inn ++ ins)) p' c' e sz R (xs ++ [z]):=⟨rows ++ [row],blk',inn ++ ins,h1.snoc hr,fun r' hr'=>by
   rcases List.mem_append.1 hr' with hr' | hr'
   ·exact h2 r' hr'
   ·rw [List.mem_singleton.1 hr'];exact hrl,.refl _,by rw [List.length_append,List.flatten_append];simpa using hv'⟩
  refine ⟨_,?_,by have:=h _ _ _ hnew;rwa [List.length_append] at this⟩
  obtain ⟨r2,q1,q2⟩:=Zgi (blk' ++ (inn ++ ins)) hj
  have hrr:r.Perm r2:=(List.perm_append_left_iff l).1 (p1.symm.trans q1)
  obtain ⟨r3,q3,q4⟩:=Zgi [] (hk2 (blk' ++ (inn ++ ins)))
  have e1:(ins ++ r3).Perm (ins ++ (blk' ++ (inn ++ r))):=by
   refine (q3.symm.trans q2).trans ?_
   refine (List.Perm.append_left _ hrr.symm).trans ?_
   have:(blk' ++ (inn ++ ins) ++ r).Perm (ins ++ (blk' ++ inn ++ r)):=by
    have a1:(blk' ++ (inn ++ ins) ++ r)=(blk' ++ inn) ++ (ins ++ r):=by simp
    rw [a1]
    have a2:ins ++ (blk' ++ inn ++ r)=(ins ++ (blk' ++ inn)) ++ r:=by simp
    rw [a2,← List.append_assoc]
    exact List.Perm.append_right r List.perm_append_comm
   simpa using this
  have e2:=(List.perm_append_left_iff ins).1 e1
  refine List.Perm.trans ?_ q4.symm
  simp only [List.flatten_cons,List.flatten_nil,List.append_nil,List.nil_append]
  exact e2.symm
end
theorem ZBt {P:PJ} {n:Nat} {Q:Exit→Zag} {S:Env} {D:List Deferred} {B:Kn} {L:List Cells} {c:Code} (js:List Nat) {ss r:List Cells} (hp:ZaA L js=some (ss,r)) (h:wpT P n c Q S D B ss):wpT P n c Q S D B L:=fun C k T hr hn hT hA=>by
 have h1:=(Zau js L ss r hp).append_right C.F
 refine C.X.drop (r:=ss.flatten ++ C.F) (gl:=r.flatten) (h1.trans ?_) (h C k T hr hn hT hA)
 rw [List.append_assoc,List.append_assoc]
 exact List.Perm.append_left _ List.perm_append_comm
end Go.BL
namespace Go.BL
open Go.Conc (G)
section
variable {P:PJ} {n:Nat} {ops:Array Oper} {i:Nat} {K:ZaE} {S:Env} {D:List Deferred} {B:Kn} {L:List Cells} {Q:Exit→Zag}
variable {dst:Option Tmp} {ty:TypeId} {pos:String} {after:Array Edge} {g:Option (Nat × Bool)}
theorem Zdj {f:Fn} {xs ys:List Operand} {us vs:List Value} (hg:Zk ops S g=some true) (hd:Zw n dst=true) (hx:evs S xs=some us) (hy:evs S ys=some vs) (h:K (.func f us.toArray vs.toArray) D B L):opX P n ops i ⟨dst,.makeFunc f xs.toArray ys.toArray,ty,pos,after,g⟩ K S D B L:=
 ZE hg hd (fun ρ hρ Q F q=>by
  simp only [execOp,Instr.makeFunc,Zi,Zp,List.map_toArray,ZaQ hρ hx,ZaQ hρ hy]
  exact q) h
theorem ZaU {t:TypeId} {x:Operand} {v:Value} {d:TypeDesc} (hg:Zk ops S g=some true) (hd:Zw n dst=true) (hu:P.underlying t=some d) (hni:(match d with | .interface _=>false | _=>true)=true) (hx:ev S x=some v) (h:K (.iface t v) D B L):opX P n ops i ⟨dst,.makeInterface t x,ty,pos,after,g⟩ K S D B L:=
 ZE hg hd (fun ρ hρ Q F q=>by
  simp only [execOp,Instr.makeInterface,Zi,Zo hu,hρ x _ hx]
  cases d <;> first | (simp only [Zp];exact q) | cases hni) h
end
end Go.BL
namespace Go.BL
open Go.Conc (G)
theorem Zuf {P:PJ} {n:Nat} {S:Env} {D:List Deferred} {B:Kn} {L:List Cells} {Q:Exit→Zag} {f:Operand} {F:FuncId} {cap:List Value} {ps:Array Tmp} {asg body:Code} {J:Kn→List Cells→Prop} (hf:ev S f=some (.func (.func F) #[] cap.toArray)) (hen:enters P F=true)
  (hc :∀(lp:Loop) (l:Nat),lp.tmps.size=n→Ag lp.tmps S→lp.params=ps→lp.assign=asg→lp.body=body→lp.state = .ready→({ lp with state:=.ready,pending:=none } : Loop)=lp→Zu P F (.func (.yield l) #[] #[] :: cap) B [(l,.loop lp) :: L.flatten] (fun v B' Ls=>∃L' s,Ls=[s]∧s.Perm ((l,Obj.loop lp) :: L'.flatten)∧J B' L'))
  (h :∀r B' L',B.le B'→J B' L'→Q .normal S ({ target:=.collected r,args:=#[] } :: D) B' (L' ++ [[(r,.deferred (some []))]])):wpT P n (.rangeFunc f ps asg body) Q S D B L:=by
 refine Zxc (J:=J) hf hen (fun fn T r l hn hT=>?_) h
 have:=hc { state:=.ready,pending:=none,fn:=fn,tmps:=T,params:=ps,assign:=asg,body:=body,defers:=r } l hn hT rfl rfl rfl rfl rfl
 refine Zu.mono this fun v B' Ls hle ⟨L',s,h1,h2,h3⟩=>⟨_,L',s,h1,h2,rfl,rfl,h3⟩
theorem Zv0 {T:Array Value} {S:Env} {n a b:Nat} {x y:Value} (h:Ag T S) (hn:T.size=n) (ha:Nat.blt a n=true) (hb:Nat.blt b n=true):Ag (Zmv #[a,b] T [x,y]) ((b,y) :: (a,x) :: S)∧(Zmv #[a,b] T [x,y]).size=n:=by
 rw [Nat.blt_eq] at ha hb
 have e:Zmv #[a,b] T [x,y]=(T.setIfInBounds a x).setIfInBounds b y:=by simp [Zmv]
 rw [e]
 exact ⟨(h.put (by omega) x).put (by simp;omega) y,by simp [hn]⟩
theorem ZbA {B:Kn} {b:Nat} {row:List Value} {T:TypeId} (hm :∀p,p∈ZP b row T→B.mem p.1=some p.2):Zam B b 0 row:=fun L j u hj=>by
 refine atB (hm (b,_) (List.mem_singleton.2 rfl)) rfl ?_
 simpa using hj
theorem Zg7.ptr {T Tn:TypeId} {v:Value} {xs:List DItem} {s:Cells} (h:Zg7 T Tn v xs s) :∃p,v = .pointer p:=by
 cases xs with
 | nil=>exact ⟨_,h.1⟩
 | cons x xs=>obtain ⟨b,_,_,_,_,rfl,_⟩:=h;exact ⟨_,rfl⟩
theorem Zg7.more {T Tn:TypeId} {p:Option Addr} {xs:List DItem} {s:Cells} (h:Zg7 T Tn (.pointer p) xs s) (hp:p.isNone=false) :∃y ys b q c np ins rest,p=some ⟨b,0,Option.none⟩∧xs=y :: ys∧s.Perm (ZP b [.int .i64 y.id,str y.fr,str y.text,.slice q y.left.length c,.pointer np] Tn ++ [ins,rest].flatten)∧ZtC T ins q c y.left∧y.fr.length≤2000000∧y.text.length≤2000000∧y.left.length≤2000000∧Zg7 T Tn (.pointer np) ys rest:=by
 cases xs with
 | nil=>cases h.1;cases hp
 | cons y ys=>
  obtain ⟨b,row,nx,ins,rest,h1,h2,⟨q,c,rfl,h4,h5,h6,h7⟩,h8⟩:=h
  obtain ⟨np,rfl⟩:=h8.ptr
  cases h1
  exact ⟨y,ys,b,q,c,np,ins,rest,rfl,rfl,by simpa using h2,h4,h5,h6,h7,h8⟩
theorem Zg7.done {T Tn:TypeId} {p:Option Addr} {xs:List DItem} {s:Cells} (h:Zg7 T Tn (.pointer p) xs s) (hp:p.isNone=true):xs=[]:=by
 cases xs with
 | nil=>rfl
 | cons y ys=>obtain ⟨b,row,nx,ins,rest,h1,_⟩:=h;cases h1;cases hp
theorem Zkx {P:PJ} {t e:TypeId} {p:Option Addr} (hu:P.underlying t=some (.pointer e)):ZAp P t (.pointer p) (.pointer Option.none) p.isNone:=fun B L Q q=>by
 show hb P (Op.equalIn (9999+1) t _ _) Q B L
 rw [Op.equalIn,Zi,Zo hu]
 cases p <;> (simp only [Zp];exact q)
theorem ZgH {P:PJ} {n:Nat} {Q:Exit→Zag} {S:Env} {D:List Deferred} {B:Kn} {L:List Cells} {c:Code} {s a:Cells} {bs:List Cells} (j:Nat) (hj:L[j]? = some s) (hp:s.Perm (a ++ bs.flatten)) (h:wpS P n c Q S D B (L.set j a ++ bs)):wpS P n c Q S D B L:=fun C k T hn hT hA=>by
 refine C.X.perm ?_ (h C k T hn hT hA)
 refine List.Perm.append_right _ ?_
 obtain ⟨r,h1,h2⟩:=Zgi a hj
 refine h1.trans ((hp.append_right r).trans ?_)
 rw [List.flatten_append]
 refine List.Perm.trans ?_ (h2.symm.append_right _)
 rw [List.append_assoc,List.append_assoc]
 exact List.Perm.append_left _ List.perm_append_comm
end Go.BL
namespace Go.BL
open Go.Conc (G)
section
variable {P:PJ}
def Zj0 (P:Program) (t:TypeId) (name:String) (f:FuncId) (pr:Bool):Bool:=
 match P.info? t with
 | some i=>match i.methods.find? (·.name == name) with
  | some m=>m.path.isEmpty && (m.func == some (f,pr))
  | none=>false
 | none=>false
def Found (P:Program) (B:Kn) (L:List Cells) (t:TypeId) (v:Value) (name:String) (f:FuncId) (u:Value):Prop:=
∀(k:Nat) (F:Cells) (Q:FuncId × Value→Kn→Cells→Prop),Q (f,u) B (L.flatten ++ F)→hb P (method (k+1) t v name) Q B (L.flatten ++ F)
theorem Zwr {t:TypeId} {name:String} {f:FuncId} {pr:Bool} (h:Zj0 P t name f pr=true) {k:Nat} {v:Value} {Q:FuncId × Value→Kn→Cells→Prop} {B:Kn} {L:Cells}
  (q:hb P (receiverAt t (.val v) pr (some ((name.splitOn ".").getLastD name))) (fun u B L=>Q (f,u) B L) B L):hb P (method (k+1) t v name) Q B L:=by
 unfold Zj0 at h
 split at h
 ·rename_i i hi
  split at h
  ·rename_i m hm
   simp only [Bool.and_eq_true,beq_iff_eq] at h
   obtain ⟨hp,hf⟩:=h
   have hp':m.path.toList=[]:=by
    have:=Array.isEmpty_iff.1 hp
    rw [this]
   unfold method
   simp only [Zi,Za7 hi,hm,hp',follow,Zp,hf,hp,if_true]
   exact q
  ·cases h
 ·cases h
theorem Zl6 {B:Kn} {L:List Cells} {t e:TypeId} {v:Value} {name:String} {f:FuncId} (h:Zj0 P t name f true=true) (hu:P.underlying t=some (.pointer e)):Found P B L t v name f v:=fun k F Q q=>by
 refine Zwr h ?_
 unfold receiverAt
 simp only [Zi,Zo hu,Place.get,Zp]
 exact q
theorem ZzS {ts:Array TypeId} {t:TypeId} {a:Addr} {x y:String} : Builtin.ssaWrapNilChk_ ts t #[.pointer (some a),strVal x,strVal y]=pure (.pointer (some a)):=rfl
theorem Zbj {B:Kn} {L:List Cells} {t e:TypeId} {a:Addr} {u:Value} {name:String} {f:FuncId} (h:Zj0 P t name f false=true) (hu:P.underlying t=some (.pointer e)) (hl:lk P e=some none) (ha:At B L a u):Found P B L t (.pointer (some a)) name f u:=fun k F Q q=>by
 refine Zwr h ?_
 unfold receiverAt
 simp only [Zi,Zo hu,Place.get,Zp,ZzS,asAddr]
 exact ZfZ hl (ZaY.app ha) q
theorem ZpS {n:Nat} {S:Env} {L:List Cells} {B:Kn} {dst:Option Tmp} {ty:TypeId} {pos:String} {after:Array Edge} {g:Option (Nat × Bool)} {x:Operand} {t:TypeId} {v u:Value} {name:String} {f:FuncId} {xs:List Operand} {vs:List Value} {ats:Array TypeId} (he:enters P f=true) (hx:ev S x=some (.iface t v)) (ha:evs S xs=some vs) (hm:Found P B L t v name f u) :
∀ρ:Operand→Value,(∀x u,ev S x=some u→ρ x=u)→∀(Q:Next→Kn→Cells→Prop) F,Q (.enter f (u :: vs).toArray) B (L.flatten ++ F)→hb P (execOp ρ ⟨dst,.call ⟨.invoke x name,xs.toArray,ats⟩,ty,pos,after,g⟩) Q B (L.flatten ++ F):=by
 intro ρ hρ Q F q
 have e1:(#[Value.iface t v] ++ vs.toArray)[0]? = some (.iface t v):=by simp
 have e2:(#[Value.iface t v] ++ vs.toArray).extract 1 (#[Value.iface t v] ++ vs.toArray).size=vs.toArray:=by apply Array.ext';simp
 have e3 : #[u] ++ vs.toArray=(u :: vs).toArray:=by simp
 simp only [execOp,resolve,hρ x _ hx,Zi,Zp,invoke,List.map_toArray,ZaQ hρ ha,e1,e2,callMethod,ZaT]
 exact hm _ F _ (Zf1 he (by rw [e3];exact q))
end
section
variable {P:PJ} {n:Nat} {ops:Array Oper} {i:Nat} {K:ZaE} {S:Env} {D:List Deferred} {B:Kn} {L:List Cells}
variable {dst:Option Tmp} {ty:TypeId} {pos:String} {after:Array Edge} {g:Option (Nat × Bool)}
theorem Zhe {f:FuncId} {x:Operand} {t:TypeId} {v u:Value} {name:String} {xs:List Operand} {vs:List Value} {ats:Array TypeId} {Post:Value→Kn→List Cells→Prop} (js:List Nat) {ss r:List Cells} (hp:ZaA L js=some (ss,r)) (hn:ZeW js=true) (hg:Zk ops S g=some true) (hd:Zw n dst=true) (he:enters P f=true) (hx:ev S x=some (.iface t v)) (ha:evs S xs=some vs) (hm:Found P B L t v name f u) (hc:Zu P f (u :: vs) B ss Post)
  (h :∀v B' Ls',B.le B'→Post v B' Ls'→K v D B' (ZcS r js Ls')):opX P n ops i ⟨dst,.call ⟨.invoke x name,xs.toArray,ats⟩,ty,pos,after,g⟩ K S D B L:=
 Zd7 (o:=⟨dst,.call ⟨.invoke x name,xs.toArray,ats⟩,ty,pos,after,g⟩) (vs:=u :: vs) hg (ZpS (n:=n) he hx ha hm) hd (Ls:=ss) (Lk:=r) (Zau js L ss r hp) hc
  fun v B' Ls' hle hq=>⟨ZcS r js Ls',ZcE Ls' r js (ZcG hn) (fun j hj=>ZcF js L ss r hp j (.inr hj)),h v B' Ls' hle hq⟩
theorem ZkY {x:Operand} {xt t:TypeId} {v:Value} {d:TypeDesc} (hg:Zk ops S g=some true) (hd:Zw n dst=true) (hu:P.underlying t=some d) (hni:(match d with | .interface _=>false | _=>true)=true) (hx:ev S x=some (.iface t v)) (h:K v D B L):opX P n ops i ⟨dst,.typeAssert x xt t false,ty,pos,after,g⟩ K S D B L:=
 ZE hg hd (fun ρ hρ Q F q=>by
  simp only [execOp,Instr.typeAssert,Zi,Zo hu,hρ x _ hx]
  cases d <;> first | (simp only [if_true,Bool.false_eq_true,if_false,Zp];exact q) | cases hni) h
theorem ZfI {f:FuncId} {x:Operand} {t:TypeId} {v u:Value} {name:String} {xs:List Operand} {vs:List Value} {ats:Array TypeId} {r:Value} (j:Nat) {s:Cells} (hj:L[j]? = some s) (hg:Zk ops S g=some true) (hd:Zw n dst=true) (he:enters P f=true) (hx:ev S x=some (.iface t v)) (ha:evs S xs=some vs) (hm:Found P B L t v name f u) (hc:ZwN P f (u :: vs) B s r s)
  (h:K r D B L):opX P n ops i ⟨dst,.call ⟨.invoke x name,xs.toArray,ats⟩,ty,pos,after,g⟩ K S D B L:=
 Zhe [j] (ss:=[s]) (r:=L.set j []) (by simp [ZaA,hj]) rfl hg hd he hx ha hm hc fun v' B' Ls' hle hq=>by
  obtain ⟨rfl,rfl,rfl⟩:=hq
  simp only [ZcS,List.set_set]
  rw [Zgh hj];exact h
end
end Go.BL
namespace Go.BL
open Go.Conc (G)
theorem ZzI {a b:Cells} (h :∀(f:Cells→Nat) (g:Nat × Obj→Nat),f []=0→(∀x y,f (x ++ y)=f x+f y)→(∀x l,f (x :: l)=g x+f l)→f a=f b):a.Perm b:=by
 classical
 rw [List.perm_iff_count]
 intro x
 exact h (fun l=>l.count x) (fun y=>if y == x then 1 else 0) (by simp) (fun l m=>by simp [List.count_append]) (fun y l=>by rw [List.count_cons,Nat.add_comm])
section
variable {P:PJ} {n:Nat} {ops:Array Oper} {i:Nat} {K:ZaE} {S:Env} {D:List Deferred} {B:Kn} {L:List Cells} {Q:Exit→Zag}
variable {dst:Option Tmp} {ty:TypeId} {pos:String} {after:Array Edge} {g:Option (Nat × Bool)}
theorem Zd2 {s a:Cells} {bs:List Cells} (j:Nat) (hj:L[j]? = some s) (hp:s.Perm (a ++ bs.flatten)):L.flatten.Perm (L.set j a ++ bs).flatten:=by
 obtain ⟨r,h1,h2⟩:=Zgi a hj
 refine h1.trans ((hp.append_right r).trans ?_)
 rw [List.flatten_append]
 refine List.Perm.trans ?_ (h2.symm.append_right _)
 rw [List.append_assoc,List.append_assoc]
 exact List.Perm.append_left _ List.perm_append_comm
end
end Go.BL
namespace Go.BL
open Go.Conc (G)
end Go.BL
namespace Go.BL
open Go.Conc (G)
theorem Zrh {l:List Value} {i:Nat} {v:Value} (h:i<l.length):Z7 l i [v]=l.set i v:=by
 induction l generalizing i with
 | nil=>simp at h
 | cons x l ih=>
  cases i with
  | zero=>simp [Z7]
  | succ i=>simp only [Z7,List.set_cons_succ];rw [ih (by simpa using h)]
end Go.BL
namespace Go.BL
open Go.Conc (G)
section
variable {P:PJ} {n:Nat} {ops:Array Oper} {i:Nat} {K:ZaE} {S:Env} {D:List Deferred} {B:Kn} {L:List Cells}
variable {dst:Option Tmp} {ty:TypeId} {pos:String} {after:Array Edge} {g:Option (Nat × Bool)}
theorem Zv8 {f:FuncId} {x:Operand} {cap:Array Value} {xs:List Operand} {vs:List Value} {ats:Array TypeId} {v:Value} (hg:Zk ops S g=some true) (hd:Zw n dst=true) (he:enters P f=true) (hx:ev S x=some (.func (.func f) #[] cap)) (ha:evs S xs=some vs) (hc:Z1 P f (vs ++ cap.toList) B v)
  (h:K v D B L):opX P n ops i ⟨dst,.call ⟨.value x,xs.toArray,ats⟩,ty,pos,after,g⟩ K S D B L:=
 Zd7 (o:=⟨dst,.call ⟨.value x,xs.toArray,ats⟩,ty,pos,after,g⟩) (vs:=vs ++ cap.toList) hg (fun ρ hρ Q F q=>by
   have:=ZeD (P:=P) (B:=B) (L:=L) (dst:=dst) (ty:=ty) (pos:=pos) (after:=after) (g:=g) (x:=x) (first:=#[]) (cap:=cap) (ats:=ats) he hx ha ρ hρ Q F
   exact this (by simpa using q)) hd (Ls:=[]) (Lk:=L) (by simp) hc
  fun v' B' Ls' hle ⟨h1,h2,h3⟩=>⟨L,by subst h3;simp,by subst h1;subst h2;exact h⟩
end
theorem Z1.borrow2 {P:PJ} {f:FuncId} {args:List Value} {B:Kn} {l l':Cells} {v:Value} (h:(∀p,p∈l→((B.add l).add l').mem p.1=some p.2)→(∀p,p∈l'→((B.add l).add l').mem p.1=some p.2)→Z1 P f args ((B.add l).add l') v) :
  Zu P f args B [l,l'] (fun v' B' Ls=>v'=v∧B'=B∧Ls=[l,l']):=
 (Zu.borrow (Ls:=[l']) (Post:=fun v' B' Ls=>v'=v∧B'=B.add l∧Ls=[l']) fun h1=>
  (Zu.borrow (P:=P) (Ls:=[]) fun h2=>h (fun p hp=>Kn.le_add _ _ _ _ (h1 p hp)) h2).mono fun v' B' Ls' _ ⟨B₂,Ls₂,a1,a2,_,_,a3,a4,a5,a6⟩=>by subst a5;subst a6;exact ⟨a4,a2.trans a3,a1⟩).mono
  fun v' B' Ls' _ ⟨B₂,Ls₂,a1,a2,_,_,a3,a4,a5,a6⟩=>by subst a5;subst a6;exact ⟨a4,a2.trans a3,a1⟩
theorem Zy3 {P:PJ} {n:Nat} {ops:Array Oper} {i:Nat} {K:ZaE} {S:Env} {D:List Deferred} {B:Kn} {L:List Cells} {dst:Option Tmp} {ty:TypeId} {pos:String} {after:Array Edge} {g:Option (Nat × Bool)}
  {f:FuncId} {xs:List Operand} {vs:List Value} {ats:Array TypeId} {v:Value} (j j':Nat) {l l':Cells} {r:List Cells} (hp:ZaA L [j,j']=some ([l,l'],r)) (hput:ZcS r [j,j'] [l,l']=L) (hn:ZeW [j,j']=true) (hg:Zk ops S g=some true) (hd:Zw n dst=true) (he:enters P f=true) (ha:evs S xs=some vs)
  (hc:Zu P f vs B [l,l'] (fun v' B' Ls=>v'=v∧B'=B∧Ls=[l,l'])) (h:K v D B L):opX P n ops i ⟨dst,.call ⟨.value (.func f),xs.toArray,ats⟩,ty,pos,after,g⟩ K S D B L:=
 Zbx [j,j'] hp hn hg hd he ha hc fun v' B' Ls' hle ⟨h1,h2,h3⟩=>by subst h1;subst h2;subst h3;rw [hput];exact h
end Go.BL
namespace Go.BL
open Go.Conc (G)
abbrev KV:=List (List UInt8 × Int)
def mput:KV→List UInt8→Int→KV
 | [],k,v=>[(k,v)]
 | (a,w) :: r,k,v=>if k=a then (k,v) :: r else (a,w) :: mput r k v
def mdel:KV→List UInt8→KV
 | [],_=>[]
 | (a,w) :: r,k=>if k=a then r else (a,w) :: mdel r k
def mget:KV→List UInt8→Option Int
 | [],_=>none
 | (a,w) :: r,k=>if k=a then some w else mget r k
def mlook:KV→List UInt8→Nat→Option (Nat × Value)
 | [],_,_=>none
 | (a,w) :: r,k,i=>if k=a then some (i,.int .i64 w) else mlook r k (i+1)
def ZyA (e:MapEntry):Value × Value:=(e.key,e.val)
def kvV (p:List UInt8 × Int):Value × Value:=(str p.1,.int .i64 p.2)
structure MapOk (es:Array MapEntry) (clock:Nat) (kvs:KV):Prop where
 ent:es.toList.map ZyA=kvs.map kvV
 born:(es.toList.map (·.born)).Nodup
 old :∀e,e∈es.toList→e.born<clock
 keys:(kvs.map (·.1)).Nodup
def ZyQ (l:Cells) (b:Nat) (kvs:KV):Prop:=∃es clock,l=[(b,Obj.map es clock)]∧MapOk es clock kvs
theorem Zmu (a b:List UInt8):(({ data:=a.toArray } : ByteArray) == { data:=b.toArray })=decide (a=b):=by
 have h :∀x y:ByteArray,(x == y)=(x.data == y.data):=fun x y=>rfl
 rw [h,Bool.eq_iff_iff];simp
theorem Zjq (k:List UInt8) :∀(es:List MapEntry) (kvs:KV) (i:Nat),es.map ZyA=kvs.map kvV→Instr.findNow .string (str k) es i=some (mlook kvs k i)
 | [],[],i,_=>rfl
 | e :: es,(a,w) :: r,i,h=>by
  simp only [List.map_cons,List.cons.injEq,ZyA,kvV,Prod.mk.injEq] at h
  obtain ⟨⟨h1,h2⟩,h3⟩:=h
  rw [Instr.findNow,h1,h2]
  simp only [Instr.sameNow,Zmu]
  by_cases ha:k=a
  ·simp [ha,mlook]
  ·simp only [decide_eq_false ha,mlook,if_neg ha]
   exact Zjq k es r (i+1) h3
 | [],_ :: _,i,h=>by simp at h
 | _ :: _,[],i,h=>by simp at h
theorem ZgR {k:List UInt8} :∀{kvs:KV} {i:Nat},mlook kvs k i=none→k ∉ kvs.map (·.1)∧mput kvs k=(fun v=>kvs ++ [(k,v)])∧mdel kvs k=kvs∧mget kvs k=none
 | [],_,_=>⟨by simp,rfl,rfl,rfl⟩
 | (a,w) :: r,i,h=>by
  simp only [mlook] at h
  split at h
  ·cases h
  ·rename_i ha
   obtain ⟨h1,h2,h3,h4⟩:=ZgR h
   refine ⟨by simp only [List.map_cons,List.mem_cons,not_or];exact ⟨ha,h1⟩,?_,?_,?_⟩
   ·funext v;simp only [mput,if_neg ha,h2,List.cons_append]
   ·simp only [mdel,if_neg ha,h3]
   ·simp only [mget,if_neg ha,h4]
theorem ZgQ {k:List UInt8} :∀{kvs:KV} {i j:Nat} {u:Value},mlook kvs k i=some (j,u)→∃n w,j=i+n∧u = .int .i64 w∧kvs[n]? = some (k,w)∧(∀v,mput kvs k v=kvs.set n (k,v))∧mdel kvs k=kvs.eraseIdx n∧mget kvs k=some w
 | [],_,_,_,h=>by cases h
 | (a,w) :: r,i,j,u,h=>by
  simp only [mlook] at h
  split at h
  ·rename_i ha
   cases h
   subst ha
   exact ⟨0,w,rfl,rfl,rfl,fun v=>by simp [mput],by simp [mdel],by simp [mget]⟩
  ·rename_i ha
   obtain ⟨n,w',h1,h2,h3,h4,h5,h6⟩:=ZgQ h
   exact ⟨n+1,w',by omega,h2,by simpa using h3,fun v=>by simp [mput,if_neg ha,h4],by simp [mdel,if_neg ha,h5],by simp [mget,if_neg ha,h6]⟩
section
variable {P:PJ} {n:Nat} {ops:Array Oper} {i:Nat} {K:ZaE} {S:Env} {D:List Deferred} {B:Kn} {L:List Cells}
variable {dst:Option Tmp} {ty:TypeId} {pos:String} {after:Array Edge} {g:Option (Nat × Bool)}
theorem Ziq {P:Program} {B:Kn} {L:Cells} {Q:Unit→Kn→Cells→Prop} {em:Bool} {t:TypeId} {k:List UInt8} (hu:P.underlying t=some .string) (q:Q () B L):hb P (Instr.checkKey em 10000 t (str k)) Q B L:=by
 show hb P (Instr.checkKey em (9999+1) t _) Q B L
 rw [Instr.checkKey,Zi,Zo hu]
 exact q
theorem Zjn {P:Program} {B:Kn} {L:Cells} {Q:Option (Nat × Value)→Kn→Cells→Prop} {t:TypeId} {k:List UInt8} {es:List MapEntry} {kvs:KV} (hu:P.underlying t=some .string) (he:es.map ZyA=kvs.map kvV) (q:Q (mlook kvs k 0) B L):hb P (Instr.findKey t (str k) es) Q B L:=by
 rw [Instr.findKey,Zi,Zo hu,Zjq k es kvs 0 he]
 exact q
theorem ZqD {t:TypeId} (hg:Zk ops S g=some true) (hd:Zw n dst=true) (h :∀b l,ZyQ l b []→K (.map (some b)) D B (L ++ [l])):opX P n ops i ⟨dst,.makeMap t none,ty,pos,after,g⟩ K S D B L:=
 Zcx hg hd fun ρ hρ F=>by
  simp only [execOp,Instr.makeMap,Zi,Option.map_none,Zp]
  refine ⟨rfl,fun b _ _=>?_⟩
  refine ⟨L ++ [[(b,Obj.map #[] 0)]],?_,h b _ ⟨#[],0,rfl,⟨rfl,by simp,by simp,by simp⟩⟩⟩
  exact .of (Zef L [(b,Obj.map #[] 0)] F)
theorem Zln (k:List UInt8):Instr.sameBits 10000 (str k) (str k)=true:=by
 show Instr.sameBits (9999+1) _ _=true
 simp only [Instr.sameBits,Zmu];simp
theorem ZmK {t kt et:TypeId} {x y z:Operand} {b:Nat} {l:Cells} {kvs:KV} {k:List UInt8} {v:Int} (j:Nat) (hj:L[j]? = some l) (hl:ZyQ l b kvs) (hg:Zk ops S g=some true) (hd:Zw n dst=true) (hu:P.underlying t=some (.map kt et)) (hk:P.underlying kt=some .string)
  (hx:ev S x=some (.map (some b))) (hy:ev S y=some (str k)) (hz:ev S z=some (.int .i64 v)) (h :∀l',ZyQ l' b (mput kvs k v)→K undef D B (L.set j l')):opX P n ops i ⟨dst,.mapUpdate t x y z,ty,pos,after,g⟩ K S D B L:=
 Zcx hg hd fun ρ hρ F=>by
  obtain ⟨es,clock,rfl,ok⟩:=hl
  have hput :∀l',((L.set j l').flatten ++ F).Perm (l' ++ ((ZT F [] hj).choose)):=fun l'=>by
   have hc:=(ZT F [] hj).choose_spec
   obtain ⟨rr,h1,h2⟩:=ZT F l' hj
   have:(ZT F [] hj).choose.Perm rr:=(List.perm_append_left_iff [(b,Obj.map es clock)]).1 (hc.1.symm.trans h1)
   exact h2.trans (List.Perm.append_left l' this.symm)
  have hin:(b,Obj.map es clock)∈L.flatten ++ F:=by
   rw [((ZT F [] hj).choose_spec.1).mem_iff];simp
  simp only [execOp,Instr.mapUpdate,hρ x _ hx,hρ y _ hy,hρ z _ hz,Zi,Zo hu]
  refine ⟨_,.inr hin,rfl,rfl,?_⟩
  simp only [Zad,Zi]
  refine Ziq hk ?_
  rw [Zi]
  refine Zjn hk ok.ent ?_
  cases hm:mlook kvs k 0 with
  | none=>
   obtain ⟨m1,m2,_,_⟩:=ZgR hm
   refine ⟨⟨rfl,rfl⟩,_,(ZT F [] hj).choose,(ZT F [] hj).choose_spec.1,rfl,?_⟩
   refine ⟨L.set j [(b,Obj.map (es.push ⟨str k,.int .i64 v,clock⟩) (clock+1))],.of (hput [(b,Obj.map (es.push ⟨str k,.int .i64 v,clock⟩) (clock+1))]).symm,h _ ⟨_,_,rfl,⟨?_,?_,?_,?_⟩⟩⟩
   ·rw [m2];simp [ok.ent,ZyA,kvV]
   ·rw [Array.toList_push,List.map_append,List.nodup_append]
    refine ⟨ok.born,by simp,fun a ha b' hb' e=>?_⟩
    obtain ⟨e1,he1,rfl⟩:=List.mem_map.1 ha
    simp only [List.map_cons,List.map_nil,List.mem_singleton] at hb'
    have:=ok.old e1 he1
    omega
   ·intro e he
    rw [Array.toList_push] at he
    rcases List.mem_append.1 he with he | he
    ·have:=ok.old e he;omega
    ·rw [List.mem_singleton.1 he];exact Nat.lt_succ_self _
   ·rw [m2,List.map_append,List.nodup_append]
    refine ⟨ok.keys,by simp,fun a ha b' hb' e=>?_⟩
    simp only [List.map_cons,List.map_nil,List.mem_singleton] at hb'
    exact m1 (hb' ▸ e ▸ ha)
  | some p=>
   obtain ⟨jj,u⟩:=p
   obtain ⟨m,w,rfl,rfl,m3,m4,_,_⟩:=ZgQ hm
   rw [Nat.zero_add]
   have hem :∃e,es[m]? = some e∧e.key=str k:=by
    have h1:=congrArg (fun l=>l[m]?) ok.ent
    simp only [List.getElem?_map,m3,Option.map_some,Array.getElem?_toList] at h1
    cases he:es[m]? with
    | none=>rw [he] at h1;cases h1
    | some e=>
     rw [he] at h1
     simp only [Option.map_some,Option.some.injEq,ZyA,kvV,Prod.mk.injEq] at h1
     exact ⟨e,rfl,h1.1⟩
   obtain ⟨e,he,hek⟩:=hem
   simp only [he,Option.map_some,Option.getD_some,hek,Instr.keyThatStays,Zln,if_true,Zp,Zi]
   refine ⟨⟨rfl,rfl⟩,_,(ZT F [] hj).choose,(ZT F [] hj).choose_spec.1,rfl,?_⟩
   refine ⟨L.set j [(b,Obj.map (es.modify m fun e=>{ e with key:=str k,val:=.int .i64 v }) clock)],.of (hput [(b,Obj.map (es.modify m fun e=>{ e with key:=str k,val:=.int .i64 v }) clock)]).symm,h _ ⟨_,_,rfl,⟨?_,?_,?_,?_⟩⟩⟩
   ·rw [m4]
    apply List.ext_getElem?
    intro q
    have h1:=congrArg (fun l=>l[q]?) ok.ent
    simp only [List.getElem?_map,Array.getElem?_toList] at h1
    simp only [List.getElem?_map,Array.getElem?_toList,Array.getElem?_modify,List.getElem?_set]
    have hlen:m<kvs.length:=by
     obtain ⟨hh,_⟩:=List.getElem?_eq_some_iff.1 m3;exact hh
    by_cases hq:m=q
    ·subst hq
     simp [he,hlen,ZyA,kvV]
    ·simp [hq,h1]
   ·have e1:(es.modify m fun e=>{ e with key:=str k,val:=.int .i64 v }).toList.map (·.born)=es.toList.map (·.born):=by
     apply List.ext_getElem?
     intro q
     simp only [List.getElem?_map,Array.getElem?_toList,Array.getElem?_modify]
     by_cases hq:m=q
     ·subst hq;simp [he]
     ·simp [hq]
    rw [e1];exact ok.born
   ·intro e' he'
    obtain ⟨q,hq⟩:=List.mem_iff_getElem?.1 he'
    simp only [Array.getElem?_toList,Array.getElem?_modify] at hq
    by_cases hmq:m=q
    ·subst hmq
     simp only [if_true,he,Option.map_some,Option.some.injEq] at hq
     rw [← hq]
     exact ok.old e (List.mem_of_getElem? (by simpa using he))
    ·rw [if_neg hmq] at hq
     exact ok.old e' (List.mem_of_getElem? (by simpa using hq))
   ·rw [m4]
    have:(kvs.set m (k,v)).map (·.1)=kvs.map (·.1):=by
     apply List.ext_getElem?
     intro q
     simp only [List.getElem?_map,List.getElem?_set]
     by_cases hq:m=q
     ·subst hq
      obtain ⟨hh,he2⟩:=List.getElem?_eq_some_iff.1 m3
      simp [hh,he2]
     ·simp [hq]
    rw [this];exact ok.keys
end
end Go.BL
namespace Go.BL
open Go.Conc (G)
section
variable {P:PJ} {n:Nat} {ops:Array Oper} {i:Nat} {K:ZaE} {S:Env} {D:List Deferred} {B:Kn} {L:List Cells}
variable {dst:Option Tmp} {ty:TypeId} {pos:String} {after:Array Edge} {g:Option (Nat × Bool)}
theorem ZBn {f:FuncId} {fn:Func} {x y:Operand} {ats:Array TypeId} {a b:List UInt8} (hg:Zk ops S g=some true) (hd:Zw n dst=true) (hf:P.funcs[f]? = some fn) (hname:(fn.name == "runtime.NumGoroutine")=false) (hb:fn.body.isNone=true) (hn:Extern.findNext fn=none) (he:Extern.find fn=some Extern.BytealgCompare.compare)
  (hx:ev S x=some (str a)) (hy:ev S y=some (str b)) (h:K (.int .i64 (Lib.compareBytes a b)) D B L):opX P n ops i ⟨dst,.call ⟨.value (.func f),#[x,y],ats⟩,ty,pos,after,g⟩ K S D B L:=
 Zcx hg hd fun ρ hρ F=>by
  have e0:ρ (.func f) = .func (.func f) #[] #[]:=hρ (.func f) _ rfl
  simp only [execOp,resolve,e0,Deferred.ofValue,Zi,Zp,invoke,List.map_toArray,List.map_cons,List.map_nil,hρ x _ hx,hρ y _ hy]
  have e:(#[] ++ #[str a,str b]:Array Value) ++ #[] = #[str a,str b]:=by simp
  rw [e]
  simp only [callFunc,Zi,ZaT,hf,hname,Bool.false_eq_true,if_false,hb,if_true,hn,he]
  refine ⟨rfl,?_⟩
  have e3:Extern.BytealgCompare.compare #[str a,str b]=(do Pure.pure (goInt (Extern.BytealgCompare.cmp (← Extern.Bytes.bytesOf (str a)) (← Extern.Bytes.bytesOf (str b))))):=rfl
  simp only [Zad,Zp,Zi,e3,Extern.Bytes.bytesOf,Lib.cmp_eq]
  exact ⟨L,.of (.refl _),h⟩
end
theorem ZnO :∀(a b:List UInt8),(Lib.compareBytes a b<0↔Op.bytesLess a b=true)∧(Lib.compareBytes a b=0↔a=b)
 | [],[]=>by simp [Lib.compareBytes,Op.bytesLess]
 | [],_ :: _=>by simp [Lib.compareBytes,Op.bytesLess]
 | _ :: _,[]=>by simp [Lib.compareBytes,Op.bytesLess]
 | a :: x,b :: y=>by
  have ih:=ZnO x y
  simp only [Lib.compareBytes,Op.bytesLess,Bool.or_eq_true,decide_eq_true_eq,Bool.and_eq_true,beq_iff_eq,List.cons.injEq]
  by_cases h:a<b
  ·simp [h,UInt8.ne_of_lt h]
  ·by_cases h':b<a
   ·have hne:a≠b:=(UInt8.ne_of_lt h').symm
    simp [h,h',hne]
   ·have e:a=b:=UInt8.le_antisymm (UInt8.not_lt.1 h') (UInt8.not_lt.1 h)
    subst e
    simpa [h] using ih
section
variable {P:PJ} {n:Nat} {ops:Array Oper} {i:Nat} {K:ZaE} {S:Env} {D:List Deferred} {B:Kn} {L:List Cells}
variable {dst:Option Tmp} {ty:TypeId} {pos:String} {after:Array Edge} {g:Option (Nat × Bool)}
theorem ZBm {x y:Operand} {ats:Array TypeId} {a b:Int} {k k':IntKind} {m:Nat} (hg:Zk ops S g=some true) (hd:Zw n dst=true) (hx:ev S x=some (.int k a)) (hy:ev S y=some (.int k' b)) (hm:(if b > a then b else a)=(m:Int)) (h:K (.int k (m:Int)) D B L):opX P n ops i ⟨dst,.call ⟨.builtin .max,#[x,y],ats⟩,ty,pos,after,g⟩ K S D B L:=
 ZE hg hd (fun ρ hρ Q F q=>by
  simp only [execOp,resolve,Zi,Zp,invoke,builtin,Builtin.max_,List.map_toArray,List.map_cons,List.map_nil,hρ x _ hx,hρ y _ hy,List.foldlM_cons,List.foldlM_nil,Builtin.max2,hm]
  exact q) h
end
end Go.BL
namespace Go.BL
open Go.Conc (G)
def zrow (z:List Value) (c:Nat):List Value:=(List.replicate c z).flatten
theorem Zci {z:List Value} {c:Nat} : (zrow z c).length=c*z.length:=by
 induction c with
 | zero=>simp [zrow]
 | succ c ih=>
  simp only [zrow,List.replicate_succ,List.flatten_cons,List.length_append] at ih ⊢
  rw [ih,Nat.succ_mul,Nat.add_comm]
theorem ZnW {z:List Value} :∀{c i:Nat},i<c*z.length→(zrow z c)[i]? = z[i % z.length]?
 | 0,i,h=>by simp at h
 | c+1,i,h=>by
  have e:zrow z (c+1)=z ++ zrow z c:=by simp [zrow,List.replicate_succ]
  rw [e]
  by_cases hi:i<z.length
  ·rw [List.getElem?_append_left hi,Nat.mod_eq_of_lt hi]
  ·have hz:0<z.length:=by
    rcases Nat.eq_zero_or_pos z.length with h0 | h0
    ·rw [h0] at h;simp at h
    ·exact h0
   rw [List.getElem?_append_right (by omega),ZnW (by rw [Nat.succ_mul] at h;omega)]
   congr 1
   conv=>rhs;rw [show i=(i - z.length)+z.length from by omega,Nat.add_mod_right]
theorem Zqt {z:List Value} {c:Nat} : (Array.range (c*z.length)).map (fun i=>z.toArray[i % z.toArray.size]!)=(zrow z c).toArray:=by
 apply Array.ext'
 apply List.ext_getElem?
 intro i
 simp only [Array.toList_map,Array.toList_range,List.getElem?_map,List.size_toArray]
 by_cases hi:i<c*z.length
 ·have hz:0<z.length:=by
   rcases Nat.eq_zero_or_pos z.length with h0 | h0
   ·rw [h0] at hi;simp at hi
   ·exact h0
  rw [List.getElem?_range hi,ZnW hi,Option.map_some]
  have hm:i % z.length<z.length:=Nat.mod_lt _ hz
  rw [getElem!_pos z.toArray _ (by simpa using hm)]
  simp [List.getElem?_eq_getElem hm]
 ·have h1:(List.range (c*z.length))[i]? = none:=by simp;omega
  have h2:(zrow z c)[i]? = none:=by rw [List.getElem?_eq_none_iff,Zci];omega
  rw [h1,h2];rfl
section
variable {P:PJ} {n:Nat} {ops:Array Oper} {i:Nat} {K:ZaE} {S:Env} {D:List Deferred} {B:Kn} {L:List Cells}
variable {dst:Option Tmp} {ty:TypeId} {pos:String} {after:Array Edge} {g:Option (Nat × Bool)}
theorem Zin {P:Program} {B:Kn} {L:Cells} {Q:Addr→Kn→Cells→Prop} {e:TypeId} {cs:Array Value} (h :∀b,Q ⟨b,0,none⟩ B ((b,.cells cs e) :: L)):hb P (newRow e cs) Q B L:=by
 simp only [newRow,Zi,Zp]
 exact ⟨rfl,fun b _ _=>h b⟩
theorem Zab {t e:TypeId} {x y:Operand} {m c sz by_:Nat} {z:Value} (zs:List Value) (hg:Zk ops S g=some true) (hd:Zw n dst=true) (he:ZbL P t e sz by_=true) (hz:ZZ P e=some z) (hzs:z.cells=zs.toArray) (hzl:zs.length=sz)
  (hx :∃k,∃q:Int,ev S x=some (.int k q)∧q=m) (hy :∃k,∃q:Int,ev S y=some (.int k q)∧q=c) (hmc:m≤c) (hfit:c*by_≤140737488355328)
  (h :∀b,K (.slice (some ⟨b,0,none⟩) m c) D B (L ++ [ZP b (zrow zs c) e])):opX P n ops i ⟨dst,.makeSlice t x y,ty,pos,after,g⟩ K S D B L:=
 Zcx hg hd fun ρ hρ F=>by
  unfold ZbL at he
  split at he
  ·rename_i e' inf hut hie
   simp only [Bool.and_eq_true,beq_iff_eq] at he
   obtain ⟨⟨⟨⟨rfl,hsz⟩,hby⟩,hpos⟩,hzz⟩:=he
   have hby0:0<by_:=by simpa using hpos
   have hsi:ZG P e'=some sz:=by simp [ZG,hie,hsz]
   obtain ⟨k1,q1,h1,rfl⟩:=hx
   obtain ⟨k2,q2,h2,rfl⟩:=hy
   have hc0:c≤140737488355328:=Nat.le_trans (Nat.le_mul_of_pos_right c hby0) hfit
   have wr :∀q:Nat,q≤140737488355328→IntKind.wrap .i64 (q:Int)=q:=fun q hq=>Zb2 (by omega) (by omega)
   have t1:(decide ((c:Int)<0) || decide ((by_:Int)*(c:Int) > 2 ^ 48))=false:=by
    have:(by_:Int)*(c:Int)≤140737488355328:=by
     rw [← Int.natCast_mul]
     have:by_*c≤140737488355328:=by rw [Nat.mul_comm];exact hfit
     omega
    simp only [Bool.or_eq_false_iff,decide_eq_false_iff_not]
    refine ⟨by omega,by omega⟩
   have t2:(decide ((m:Int)<0) || decide ((m:Int) > (c:Int)))=false:=by
    simp only [Bool.or_eq_false_iff,decide_eq_false_iff_not]
    omega
   simp only [execOp,Instr.makeSlice,Zi,Zo hut,asInt,asIntOf,hρ x _ h1,hρ y _ h2,Zp,Za7 hie,hby,wr c hc0,wr m (by omega),t1,t2,Bool.false_or,Bool.or_eq_true,Bool.false_eq_true,if_false]
   rw [if_neg (by
    simp only [Bool.or_eq_false_iff] at t1 t2
    rw [t1.1,t1.2,t2.1,t2.2];simp)]
   simp only [Int.toNat_natCast,Zi]
   refine Zfk ?_
   simp only [Z4 hsi,Zi]
   by_cases h0:c*sz=0
   ·rw [if_pos h0]
    simp only [Zi,Zp,h0]
    refine Zin fun b=>?_
    have hzr:zrow zs c=[]:=List.eq_nil_of_length_eq_zero (by rw [Zci,hzl];exact h0)
    refine ⟨L ++ [ZP b (zrow zs c) e'],?_,h b⟩
    rw [hzr]
    have e0:Array.map (fun x=>(#[]:Array Value)[x % (#[]:Array Value).size]!) (Array.range 0)=([]:List Value).toArray:=by simp
    rw [e0]
    exact .of (Zef L (ZP b [] e') F)
   ·rw [if_neg h0]
    simp only [Zi,ZaS hz,Zp,hzs]
    rw [← hzl,Zqt]
    refine Zin fun b=>?_
    exact ⟨L ++ [ZP b (zrow zs c) e'],.of (Zef L (ZP b (zrow zs c) e') F),h b⟩
  ·cases he
end
theorem ZR.zeros {α:Type} {B:Kn} {b:Nat} {T:TypeId} {R:Rel α} {zs:List Value} {d:α} {m c w:Nat} (hw:zs.length=w) (hR:R B zs d) (hmc:m≤c):ZR B (ZP b (zrow zs c) T) (some ⟨b,0,none⟩) c T w R (List.replicate m d):=by
 refine ⟨List.replicate m zs,?_,fun r hr=>by rw [(List.mem_replicate.1 hr).2];exact hw,?_,.inr ⟨b,_,rfl,by rw [Zci,hw],?_,rfl,by rw [List.length_replicate];exact hmc⟩⟩
 ·induction m with
  | zero=>exact .nil
  | succ m ih=>rw [List.replicate_succ,List.replicate_succ];exact .cons hR (ih (by omega))
 ·rw [List.length_replicate]
  exact (Zci (z:=zs) (c:=m)).trans (by rw [hw])
 ·rw [List.length_replicate]
  have e:zrow zs c=zrow zs m ++ zrow zs (c - m):=by
   simp only [zrow,← List.flatten_append,List.replicate_append_replicate]
   rw [show m+(c - m)=c from by omega]
  rw [e,List.take_append_of_le_length (by rw [Zci,hw];exact Nat.le_refl _),List.take_of_length_le (by rw [Zci,hw];exact Nat.le_refl _)]
  rfl
section
variable {P:PJ} {C:Cx P} {n:Nat} {k:List Item} {T:Array Value} {S:Env} {D:List Deferred} {B:Kn} {L:List Cells}
theorem Zbl {x y:Code} (h:C.X.R (G (fat C.b T D (.code x :: .code y :: k)) C.cs) B (L.flatten ++ C.F)):C.X.R (G (fat C.b T D (.code (.seq x y) :: k)) C.cs) B (L.flatten ++ C.F):=
 C.X.ctl rfl (fun w=>Zle) h
theorem ZoT {id:Nat} {c:Code} (h:C.X.R (G (fat C.b T D (.code c :: .inBlock id :: k)) C.cs) B (L.flatten ++ C.F)):C.X.R (G (fat C.b T D (.code (.block id c) :: k)) C.cs) B (L.flatten ++ C.F):=
 C.X.ctl rfl (fun w=>ZjM) h
theorem Zp9 {id:Nat} (h:C.X.R (G (fat C.b T D k) C.cs) B (L.flatten ++ C.F)):C.X.R (G (fat C.b T D (.inBlock id :: k)) C.cs) B (L.flatten ++ C.F):=
 C.X.ctl rfl (fun w=>ZgK) h
theorem Ztc (h:C.X.R (G (fat C.b T D k) C.cs) B (L.flatten ++ C.F)):C.X.R (G (fat C.b T D (.code .skip :: k)) C.cs) B (L.flatten ++ C.F):=
 C.X.ctl rfl (fun w=>Zq9) h
theorem ZyI {id:Nat} {k':List Item} (hk:exitTo id k=some k') (h:C.X.R (G (fat C.b T D k') C.cs) B (L.flatten ++ C.F)):C.X.R (G (fat C.b T D (.code (.exit id) :: k)) C.cs) B (L.flatten ++ C.F):=
 C.X.ctl rfl (fun w=>Zra hk) h
theorem Zg3 {t:Bool} {c:Operand} {x y:Code} (hc:ev S c=some (.bool t)) (hT:Ag T S) (h:C.X.R (G (fat C.b T D (.code (if t then x else y) :: k)) C.cs) B (L.flatten ++ C.F)):C.X.R (G (fat C.b T D (.code (.cond c x y) :: k)) C.cs) B (L.flatten ++ C.F):=
 C.X.ctl rfl (fun w=>Zrb (ZeL hT hc)) h
theorem ZaD {id:Nat} {ops:Array Oper} (h:C.X.R (G (fat C.b T D (.inRegion ops (List.range ops.size) :: k)) C.cs) B (L.flatten ++ C.F)):C.X.R (G (fat C.b T D (.code (.region id ops false) :: k)) C.cs) B (L.flatten ++ C.F):=
 C.X.ctl rfl (fun w=>Zgg) h
theorem ZY {ops:Array Oper} (h:C.X.R (G (fat C.b T D k) C.cs) B (L.flatten ++ C.F)):C.X.R (G (fat C.b T D (.inRegion ops [] :: k)) C.cs) B (L.flatten ++ C.F):=
 C.X.ctl rfl (fun w=>Zcm) h
end
theorem Zdb {P:Program} {t:TypeId} {k:Nat} (h:ZG P t=some k) (w:World) (es:Array Event):(sizeOf t).events P w es=es:=by
 obtain ⟨i,hi,_⟩:=Option.map_eq_some_iff.1 h
 simp [sizeOf,typeInfo,Go.program,hi,Sem.events,Sem.runT,Bind.bind,Sem.bind,Pure.pure]
section
variable {P:PJ} {C:Cx P} {n:Nat} {k:List Item} {T:Array Value} {S:Env} {D:List Deferred} {B:Kn} {L:List Cells}
theorem Zjw {id:Nat} {l:List Oper} (hn:T.size=n) (hT:Ag T S) (h:Zql P n l.toArray 0 l (fun S' D' B' L'=>∀T',T'.size=n→Ag T' S'→C.X.R (G (fat C.b T' D' k) C.cs) B' (L'.flatten ++ C.F)) S D B L):C.X.R (G (fat C.b T D (.code (.region id l.toArray false) :: k)) C.cs) B (L.flatten ++ C.F):=by
 refine C.X.ctl rfl (fun w=>Zgg) ?_
 rw [List.size_toArray,List.range_eq_range']
 exact ZgM l 0 (fun j=>by simp) h C k T hn hT fun S' D' B' L' T' hle hq hn' hT'=>C.X.ctl rfl (fun w=>Zcm) (hq T' hn' hT')
theorem Zmg {g:Goroutine} (hs:g=G g.frame g.callers) (i:Nat) {l:Cells} (hi:L[i]? = some l) (h :∀B',B.le B'→(∀p,p∈l→B'.mem p.1=some p.2)→C.X.R g B' ((L.set i []).flatten ++ C.F)):C.X.R g B (L.flatten ++ C.F):=by
 obtain ⟨r,h1,h2⟩:=ZT C.F [] hi
 exact C.X.publish hs h1 fun B' hle hm=>C.X.perm (by simpa using h2.symm) (h B' hle hm)
theorem Zch {ops:Array Oper} {i:Nat} {todo:List Nat} {o:Oper} (ho:ops[i]? = some o) (hn:T.size=n) (hT:Ag T S) (h:opW P n ops i o (fun S' D' B' L'=>∀T',T'.size=n→Ag T' S'→C.X.R (G (fat C.b T' D' (.inRegion ops todo :: k)) C.cs) B' (L'.flatten ++ C.F)) S D B L):C.X.R (G (fat C.b T D (.inRegion ops (i :: todo) :: k)) C.cs) B (L.flatten ++ C.F):=
 h C todo k T ho hn hT fun S' D' B' L' T' _ hq hn' hT'=>hq T' hn' hT'
theorem Ag.sub' {T:Array Value} {S S':Env} (h:Ag T S) (hs:Sub S' S):Ag T S':=h.sub hs
end
end Go.BL
namespace Go.BL
structure SlB {α:Type} (B:Kn) (q:Option Addr) (cp w:Nat) (R:Rel α) (xs:List α):Prop where
 rows:ZdC B q w R xs
 cap:xs.length≤cp
 len:xs.length≤140737488355328
theorem SlB.base {α:Type} {B:Kn} {q:Option Addr} {cp w:Nat} {R:Rel α} {xs:List α} (h:SlB B q cp w R xs) {i:Nat} {z:α} (hz:xs[i]? = some z) :∃b o,q=some ⟨b,o,none⟩:=h.rows.base hz
theorem SlB.elem {α:Type} {B:Kn} {b o cp w:Nat} {R:Rel α} {xs:List α} (h:SlB B (some ⟨b,o,none⟩) cp w R xs) {i:Nat} {z:α} (hz:xs[i]? = some z) :∃row,R B row z∧Zam B b (o+i*w) row:=h.rows.elem hz
theorem SlB.small {α:Type} {B:Kn} {q:Option Addr} {cp w:Nat} {R R':Rel α} {xs:List α} (h:SlB B q cp w R xs) (hl:xs.length≤2000000) (hR :∀x,x∈xs→∀row,R B row x→R' B row x):SlK B q cp w R' xs:=
 ⟨fun i x hi=>by obtain ⟨b,o,row,h1,h2,h3⟩:=h.rows i x hi;exact ⟨b,o,row,h1,hR x (List.mem_of_getElem? hi) row h2,h3⟩,h.cap,hl⟩
def ZiJ:Rel Str:=fun _ row x=>row=[str x]∧x.length≤140737488355328
def ZmB:Rel DUser:=fun _ row x=>row=[str x.name,str x.pass,.int .i64 x.quota]∧x.name.length≤140737488355328∧x.pass.length≤140737488355328
def ZiM:Rel DGrant:=fun _ row x=>row=[str x.user,.int .i64 x.rights]∧x.user.length≤140737488355328
def ZiV:Rel DMail:=fun _ row x=>row=[.int .i64 x.uid,.int .i64 x.flags,str x.text]∧x.text.length≤140737488355328
def ZiK:Rel DItem:=fun B row x=>∃q cp,row=[.int .i64 x.id,str x.fr,str x.text,.slice q x.left.length cp]∧SlB B q cp 1 ZiJ x.left∧x.fr.length≤140737488355328∧x.text.length≤140737488355328
def Zfa:Rel DFolder:=fun B row x=>∃q cp q' cp',row=[str x.owner,str x.name,.slice q x.grants.length cp,.int .i64 x.next,.slice q' x.mail.length cp']∧SlB B q cp 2 ZiM x.grants∧SlB B q' cp' 3 ZiV x.mail∧x.owner.length≤140737488355328∧x.name.length≤140737488355328
def szL {α:Type} (f:α→Nat) (xs:List α):Nat:=xs.length+(xs.map f).sum
def Zfy (xs:List Str):Nat:=szL List.length xs
def Zdo (u:DUser):Nat:=u.name.length+u.pass.length
def ZcA (g:DGrant):Nat:=g.user.length
def ZdI (m:DMail):Nat:=m.text.length
def ZbQ (x:DItem):Nat:=x.fr.length+x.text.length+Zfy x.left
def Zay (f:DFolder):Nat:=f.owner.length+f.name.length+szL ZcA f.grants+szL ZdI f.mail
def Zc3 (h:DHost):Nat:=h.domain.length+szL Zdo h.users+szL Zay h.folders+szL ZbQ h.queue.items
def szI (left:Int) (s:Nat):Int:=if left<s then -1 else left - s
theorem Zbn {left:Int} {s:Nat} (h:left<s):szI left s = -1:=if_pos h
theorem Zlb {left:Int} {s:Nat} (h:s≤left):szI left s=left - s:=if_neg (by omega)
theorem ZbN {left:Int} {s:Nat} (h:0≤left):szI left s<0↔left<s:=by unfold szI;split <;> omega
theorem Zby {left:Int} {s:Nat} (h0:0≤left) (h:0≤szI left s):szI left s=left - s∧s≤left:=by unfold szI at *;split at h <;> split <;> omega
theorem ZdJ {α:Type} (f:α→Nat) {xs:List α} {k:Nat} {x:α} (hx:xs[k]? = some x):((xs.take (k+1)).map f).sum=((xs.take k).map f).sum+f x:=by
 have:xs.take (k+1)=xs.take k ++ [x]:=by rw [List.take_add_one,hx];rfl
 simp [this]
theorem ZhY {α:Type} (f:α→Nat) (xs:List α) (k:Nat):((xs.take k).map f).sum≤(xs.map f).sum:=by
 conv=>rhs;rw [← List.take_append_drop k xs]
 rw [List.map_append,List.sum_append];omega
theorem ZfO {α:Type} {f:α→Nat} {xs:List α} {left:Int} (h:left<xs.length):szI left (szL f xs) = -1:=Zbn (by unfold szL;omega)
theorem ZfM {α:Type} {f:α→Nat} {xs:List α} {k:Nat} {x:α} {left l:Int} (hx:xs[k]? = some x) (hl:l=left - xs.length - ((xs.take k).map f).sum) (h:l<f x):szI left (szL f xs) = -1:=by
 have h1:=ZdJ f hx
 have h2:=ZhY f xs (k+1)
 exact Zbn (by unfold szL;omega)
theorem ZfN {α:Type} {f:α→Nat} {xs:List α} {k:Nat} {left l:Int} (hl:l=left - xs.length - ((xs.take k).map f).sum) (h0:0≤l) (hk:xs.length≤k):szI left (szL f xs)=l:=by
 rw [List.take_of_length_le hk] at hl
 rw [Zlb (by unfold szL;omega)]
 unfold szL;omega
theorem Zaz {α:Type} {f:α→Nat} {xs:List α} {n:Nat} (h:szL f xs≤n):xs.length≤n∧∀x,x∈xs→f x≤n:=by
 unfold szL at h
 refine ⟨by omega,fun x hx=>?_⟩
 have:f x≤(xs.map f).sum:=by
  clear h
  induction xs with
  | nil=>cases hx
  | cons y ys ih=>
   simp only [List.map_cons,List.sum_cons]
   rcases List.mem_cons.1 hx with rfl | hx
   ·omega
   ·have:=ih hx;omega
 omega
theorem ZxT {x:DItem} {n:Nat} (h:ZbQ x≤n):Zfy x.left≤n:=by unfold ZbQ at h;omega
theorem Zsr {x:DFolder} {n:Nat} (h:Zay x≤n):szL ZcA x.grants≤n∧szL ZdI x.mail≤n:=by unfold Zay at h;omega
theorem Zsj {x:DHost} {n:Nat} (h:Zc3 x≤n):x.domain.length≤n∧szL Zdo x.users≤n∧szL Zay x.folders≤n∧szL ZbQ x.queue.items≤n:=by unfold Zc3 at h;omega
theorem Zxk {xs:List Str} {n:Nat} (h:Zfy xs≤n):xs.length≤n:=(Zaz h).1
theorem Zpd {B:Kn} {q:Option Addr} {cp:Nat} {xs:List Str} (h:SlB B q cp 1 ZiJ xs) (hs:Zfy xs≤1048576):SlK B q cp 1 Zel xs:=
 h.small (by have:=(Zaz hs).1;omega) fun x hx row hr=>⟨hr.1,by have:=(Zaz hs).2 x hx;omega⟩
theorem ZmM {B:Kn} {q:Option Addr} {cp:Nat} {xs:List DUser} (h:SlB B q cp 3 ZmB xs) (hs:szL Zdo xs≤1048576):SlK B q cp 3 ZL xs:=
 h.small (by have:=(Zaz hs).1;omega) fun x hx row hr=>by
  have:=(Zaz hs).2 x hx
  unfold Zdo at this
  exact ⟨hr.1,by omega,by omega⟩
theorem Zl5 {B:Kn} {q:Option Addr} {cp:Nat} {xs:List DGrant} (h:SlB B q cp 2 ZiM xs) (hs:szL ZcA xs≤1048576):SlK B q cp 2 Zaf xs:=
 h.small (by have:=(Zaz hs).1;omega) fun x hx row hr=>by
  have:=(Zaz hs).2 x hx
  unfold ZcA at this
  exact ⟨hr.1,by omega⟩
theorem Znm {B:Kn} {q:Option Addr} {cp:Nat} {xs:List DMail} (h:SlB B q cp 3 ZiV xs) (hs:szL ZdI xs≤1048576):SlK B q cp 3 Zah xs:=
 h.small (by have:=(Zaz hs).1;omega) fun x hx row hr=>by
  have:=(Zaz hs).2 x hx
  unfold ZdI at this
  exact ⟨hr.1,by omega⟩
theorem Znu {B:Kn} {q:Option Addr} {cp:Nat} {xs:List DItem} (h:SlB B q cp 4 ZiK xs) (hs:szL ZbQ xs≤1048576):SlK B q cp 4 Zar xs:=
 h.small (by have:=(Zaz hs).1;omega) fun x hx row hr=>by
  have:=(Zaz hs).2 x hx
  unfold ZbQ at this
  obtain ⟨q,cp,h1,h2,h3,h4⟩:=hr
  exact ⟨q,cp,h1,Zpd h2 (by omega),by omega,by omega⟩
theorem Zkl {B:Kn} {q:Option Addr} {cp:Nat} {xs:List DFolder} (h:SlB B q cp 5 Zfa xs) (hs:szL Zay xs≤1048576):SlK B q cp 5 ZF xs:=
 h.small (by have:=(Zaz hs).1;omega) fun x hx row hr=>by
  have:=(Zaz hs).2 x hx
  unfold Zay at this
  obtain ⟨q,cp,q',cp',h1,h2,h3,h4,h5⟩:=hr
  exact ⟨q,cp,q',cp',h1,Zl5 h2 (by omega),Znm h3 (by omega),by omega,by omega⟩
end Go.BL
