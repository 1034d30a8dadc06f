/-
  THE WALK'S LOGIC: owned cells and known cells, goroutines started and awaited, calls, loops, data, and plain laws on lists: no program in sight.
-/
import Derived.Test.YtikanaeckjcelaaGreatDoorK0
import Derived.Orders
import Derived.Laws.Strings
import Derived.IntWalk
import Derived.RowKit3
import Derived.OpenShut
import Derived.WideKeyArgs
import Derived.ChangeSlices
import Derived.ChangeCalls
import Derived.ProofKit
import Derived.WalkKit
import Derived.Lib.Bytealg
import Derived.ChangeArms
import Derived.Stop.Asserts
import Derived.Conc.LeavingOf
import Derived.SevenTiedAt
import Derived.LaidMore
import Derived.MakeChecks
import Derived.Stop.Joined
import Derived.Stop.LaidErr
import Derived.KernelRfl
set_option linter.unusedVariables false
set_option linter.unusedSimpArgs false
set_option linter.unusedSectionVars false
namespace Go.BL
open Go.Conc (G)
abbrev Env:=List (Nat × Value)
def get:Env→Nat→Option Value
 | [],_=>none
 | (k,v) :: r,i=>bif Nat.beq k i then some v else get r i
def Ag (T:Array Value) (S:Env):Prop:=∀i v,get S i=some v→T[i]? = some v
def Sub:Env→Env→Prop
 | [],_=>True
 | p :: r,S=>get S p.1=some p.2∧Sub r S
theorem Sub.get_of :∀{S' S:Env},Sub S' S→∀{i v},get S' i=some v→get S i=some v
 | [],_,_,_,_,h=>by cases h
 | (k,x) :: r,S,⟨h1,h2⟩,i,v,h=>by
  simp only [get] at h
  cases hb:Nat.beq k i with
  | true=>
   rw [hb] at h
   simp only [cond_true,Option.some.injEq] at h
   subst h
   have:=Nat.eq_of_beq_eq_true hb
   subst this
   exact h1
  | false=>rw [hb] at h;exact Sub.get_of h2 h
theorem Ag.sub {T:Array Value} {S S':Env} (h:Ag T S) (hs:Sub S' S):Ag T S':=fun i v hv=>h i v (hs.get_of hv)
theorem Ag.put {T:Array Value} {S:Env} (h:Ag T S) {d:Nat} (hd:d<T.size) (v:Value):Ag (T.setIfInBounds d v) ((d,v) :: S):=by
 intro i x hx
 simp only [get] at hx
 cases hb:Nat.beq d i with
 | true=>
  rw [hb] at hx
  simp only [cond_true,Option.some.injEq] at hx
  subst hx
  have:=Nat.eq_of_beq_eq_true hb
  subst this
  simp [hd]
 | false=>
  rw [hb] at hx
  rw [Array.getElem?_setIfInBounds,if_neg (fun e=>by subst e;simp [Nat.beq_eq] at hb)]
  exact h i x hx
def ev (S:Env):Operand→Option Value
 | .tmp t=>get S t
 | .const v=>some v
 | .global g=>some (.pointer (some ⟨g,0,none⟩))
 | .func f=>some (.func (.func f) #[] #[])
def evT (T:Array Value):Operand→Value
 | .tmp t=>T.getD t undef
 | .const v=>v
 | .global g=>.pointer (some ⟨g,0,none⟩)
 | .func f=>.func (.func f) #[] #[]
theorem Zfu {T:Array Value} {S:Env} (h:Ag T S) {x:Operand} {v:Value} (hx:ev S x=some v):evT T x=v:=by
 cases x with
 | tmp t=>have:=h t v hx;simp only [evT,Array.getD_eq_getD_getElem?,this];rfl
 | const u=>simpa [ev,evT] using hx
 | global g=>simpa [ev,evT] using hx
 | func f=>simpa [ev,evT] using hx
def evs (S:Env):List Operand→Option (List Value)
 | []=>some []
 | x :: r=>match ev S x,evs S r with
  | some v,some vs=>some (v :: vs)
  | _,_=>none
theorem ZnQ {T:Array Value} {S:Env} (h:Ag T S) :∀{xs:List Operand} {vs:List Value},evs S xs=some vs→xs.map (evT T)=vs
 | [],vs,hx=>by simpa [evs] using hx
 | x :: r,vs,hx=>by
  simp only [evs] at hx
  cases h1:ev S x with
  | none=>rw [h1] at hx;cases hx
  | some v=>
   cases h2:evs S r with
   | none=>rw [h1,h2] at hx;cases hx
   | some us=>
    rw [h1,h2] at hx
    simp only [Option.some.injEq] at hx
    subst hx
    simp [Zfu h h1,ZnQ h h2]
def fat (b:Frame) (T:Array Value) (D:List Deferred) (todo:List Item):Frame:={ b with tmps:=T,todo,defers:=D,mode:=.run }
theorem Zlo (b:Frame) (T:Array Value) (D:List Deferred) (todo:List Item):(fat b T D todo).eval=evT T:=by
 funext x;cases x <;> rfl
section moves
variable {P:Program} {main:Bool} {b:Frame} {T:Array Value} {D:List Deferred} {k:List Item} {cs:List Frame} {w:World}
theorem ZqC:stepG P main (G (fat b T D (.code .skip :: k)) cs) w = .go (G (fat b T D k) cs) w #[]:=by simp [G,stepG,stepG.exec,fat]
theorem ZlY {x y:Code} : stepG P main (G (fat b T D (.code (.seq x y) :: k)) cs) w = .go (G (fat b T D (.code x :: .code y :: k)) cs) w #[]:=by simp [G,stepG,stepG.exec,fat]
theorem ZqE {c:Operand} {x y:Code} {t:Bool} (h:evT T c = .bool t) :
  stepG P main (G (fat b T D (.code (.cond c x y) :: k)) cs) w = .go (G (fat b T D (.code (if t then x else y) :: k)) cs) w #[]:=by
 have h':(fat b T D (.code (.cond c x y) :: k)).eval c = .bool t:=by rw [Zlo];exact h
 simp only [fat] at h'
 simp [G,stepG,stepG.exec,fat,h']
theorem ZkX {id:Nat} {c:Code} : stepG P main (G (fat b T D (.code (.block id c) :: k)) cs) w = .go (G (fat b T D (.code c :: .inBlock id :: k)) cs) w #[]:=by simp [G,stepG,stepG.exec,fat]
theorem Zhe {id:Nat} : stepG P main (G (fat b T D (.inBlock id :: k)) cs) w = .go (G (fat b T D k) cs) w #[]:=by simp [G,stepG,stepG.exec,fat]
theorem Znd {c:Code} : stepG P main (G (fat b T D (.code (.loop c) :: k)) cs) w = .go (G (fat b T D (.code c :: .inLoop c :: k)) cs) w #[]:=by simp [G,stepG,stepG.exec,fat]
theorem ZiG {c:Code} : stepG P main (G (fat b T D (.inLoop c :: k)) cs) w = .go (G (fat b T D (.code c :: .inLoop c :: k)) cs) w #[]:=by simp [G,stepG,stepG.exec,fat]
theorem ZqD {id:Nat} {k':List Item} (h:exitTo id k=some k'):stepG P main (G (fat b T D (.code (.exit id) :: k)) cs) w = .go (G (fat b T D k') cs) w #[]:=by simp [G,stepG,stepG.exec,fat,h]
theorem ZgF {id:Nat} {ops:Array Oper} : stepG P main (G (fat b T D (.code (.region id ops false) :: k)) cs) w = .go (G (fat b T D (.inRegion ops (List.range ops.size) :: k)) cs) w #[]:=by simp [G,stepG,stepG.exec,fat]
theorem ZfR {id:Nat} {ops:Array Oper} : stepG P main (G (fat b T D (.code (.region id ops true) :: k)) cs) w =
  .go (G (fat b T D (.inRegion ops (Region.schedule (P.follows .mixedOrders) ops (w.tape w.drawn (.order b.fn id))) :: k)) cs) { w with drawn:=w.drawn+1 } #[]:=by
 simp [G,stepG,stepG.exec,fat,choose,Sem.run,Question.forced,Question.cut]
theorem ZcH {ops:Array Oper} : stepG P main (G (fat b T D (.inRegion ops [] :: k)) cs) w = .go (G (fat b T D k) cs) w #[]:=by simp [G,stepG,stepG.exec,fat]
theorem Zwq (hr:b.roundOf=none):stepG P main (G (fat b T D (.code .ret :: k)) cs) w = .go (G { fat b T D (.code .ret :: k) with mode:=.returning } cs) w #[]:=by
 simp [G,stepG,stepG.exec,fat,hr]
theorem Zoe (hr:b.roundOf=none):stepG P main (G (fat b T D []) cs) w = .go (G { fat b T D [] with mode:=.returning } cs) w #[]:=by
 simp [G,stepG,stepG.exec,fat,hr]
theorem Zo2 {ops:Array Oper} {i:Nat} {rest:List Nat} {o:Oper} (ho:ops[i]? = some o) (hw:Region.wanted o (yielded ops T)=false) :
  stepG P main (G (fat b T D (.inRegion ops (i :: rest) :: k)) cs) w = .go (G (fat b (match o.dst with | some d=>T.setIfInBounds d undef | none=>T) D (.inRegion ops rest :: k)) cs) w #[]:=by
 cases hd:o.dst <;> simp [G,stepG,stepG.exec,fat,ho,hw,Frame.finish,hd]
def Zi9:Op→Bool
 | .defer _=>true
 | _=>false
theorem ZkW {ops:Array Oper} {i:Nat} {rest:List Nat} {o:Oper} (hnd:Zi9 o.op=false) (ho:ops[i]? = some o) (hw:Region.wanted o (yielded ops T)=true) :
  stepG P main (G (fat b T D (.inRegion ops (i :: rest) :: k)) cs) w=stepG.apply P true (fat b T D (.inRegion ops (i :: rest) :: k)) cs none (execOp (evT T) o) w:=by
 have he:=Zlo b T D (.inRegion ops (i :: rest) :: k)
 simp only [fat] at he
 have key :∀(x:Option Nat),(match x,o.op with
   | some l,.defer c=>stepG.apply P true (fat b T D (.inRegion ops (i :: rest) :: k)) cs none (do Instr.deferInRound l (← resolve (fat b T D (.inRegion ops (i :: rest) :: k)).eval c o.type);pure .skip) w
   | _,_=>stepG.apply P true (fat b T D (.inRegion ops (i :: rest) :: k)) cs none (execOp (evT T) o) w)=stepG.apply P true (fat b T D (.inRegion ops (i :: rest) :: k)) cs none (execOp (evT T) o) w:=by
  intro x
  split
  ·rename_i h;rw [h] at hnd;cases hnd
  ·rfl
 have:=key b.roundOf
 simp only [fat] at this
 simp only [G,stepG,stepG.exec,fat,ho,Option.map_some,hw,Option.getD_some,if_true,stepG.oper,Frame.oper?,he]
 exact this
end moves
def putT (T:Array Value) (dst:Option Tmp) (v:Value):Array Value:=match dst with | some d=>T.setIfInBounds d v | none=>T
theorem ZbF (T:Array Value) (dst:Option Tmp) (v:Value):(putT T dst v).size=T.size:=by cases dst <;> simp [putT]
theorem ZfH {b:Frame} {T:Array Value} {D:List Deferred} {ops:Array Oper} {i:Nat} {rest:List Nat} {k:List Item} {o:Oper} (ho:ops[i]? = some o) (v:Value) :
  (fat b T D (.inRegion ops (i :: rest) :: k)).finish v=fat b (putT T o.dst v) D (.inRegion ops rest :: k):=by
 cases h:o.dst <;> simp [fat,Frame.finish,ho,h,putT]
structure Cx (P:PJ) where
 X:Lg P
 b:Frame
 cs:List Frame
 F:Cells
 early:b.kind≠.early
abbrev Zao:=Env→List Deferred→Kn→List Cells→Prop
def After {P:PJ} (C:Cx P) (k:List Item) (T:Array Value) (D:List Deferred) (B:Kn) (L:List Cells):Exit→Prop
 | .normal=>C.X.R (G (fat C.b T D k) C.cs) B (L.flatten ++ C.F)
 | .exit id=>∃k',exitTo id k=some k'∧C.X.R (G (fat C.b T D k') C.cs) B (L.flatten ++ C.F)
 | .ret=>C.b.roundOf=none∧∀todo,C.X.R (G { fat C.b T D todo with mode:=.returning } C.cs) B (L.flatten ++ C.F)
 | _=>False
def wpS (P:PJ) (n:Nat) (c:Code) (Q:Exit→Zao):Zao:=fun S D B L=>
∀(C:Cx P) (k:List Item) (T:Array Value),T.size=n→Ag T S→
  (∀e S' D' B' L' T',B.le B'→Q e S' D' B' L'→T'.size=n→Ag T' S'→After C k T' D' B' L' e)→C.X.R (G (fat C.b T D (.code c :: k)) C.cs) B (L.flatten ++ C.F)
def thn (K:Zao) (Q:Exit→Zao):Exit→Zao
 | .normal=>K
 | e=>Q e
def inB (id:Nat) (Q:Exit→Zao):Exit→Zao
 | .exit id'=>bif Nat.beq id' id then Q .normal else Q (.exit id')
 | e=>Q e
section rules
variable {P:PJ} {n:Nat} {Q:Exit→Zao} {S:Env} {D:List Deferred} {B:Kn} {L:List Cells}
theorem Zsu {c:Code} {Q':Exit→Zao} (h:wpS P n c Q' S D B L) (hq :∀e S D B' L,B.le B'→Q' e S D B' L→Q e S D B' L):wpS P n c Q S D B L:=
 fun C k T hn hT hA=>h C k T hn hT fun e S' D' B' L' T' hle hq'=>hA e S' D' B' L' T' hle (hq e S' D' B' L' hle hq')
theorem Z2 {c:Code} (S':Env) (hs:Sub S' S) (h:wpS P n c Q S' D B L):wpS P n c Q S D B L:=
 fun C k T hn hT hA=>h C k T hn (hT.sub hs) hA
theorem ZL (h:Q .normal S D B L):wpS P n .skip Q S D B L:=fun C k T hn hT hA=>
 C.X.ctl rfl (fun w=>ZqC) (hA .normal S D B L T (Kn.le.refl B) h hn hT)
theorem Zd (h:Q .ret S D B L):wpS P n .ret Q S D B L:=fun C k T hn hT hA=>by
 obtain ⟨hr,hR⟩:=hA .ret S D B L T (Kn.le.refl B) h hn hT
 exact C.X.ctl rfl (fun w=>Zwq hr) (hR _)
theorem ZS {id:Nat} (h:Q (.exit id) S D B L):wpS P n (.exit id) Q S D B L:=fun C k T hn hT hA=>by
 obtain ⟨k',hk,hR⟩:=hA (.exit id) S D B L T (Kn.le.refl B) h hn hT
 exact C.X.ctl rfl (fun w=>ZqD hk) hR
theorem After.push {C:Cx P} {x:Item} {k:List Item} {T:Array Value} {e:Exit} (hx:x.plain=true) (he:e≠.normal) (h:After C k T D B L e):After C (x :: k) T D B L e:=by
 cases e with
 | normal=>exact absurd rfl he
 | exit id=>obtain ⟨k',hk,hg⟩:=h;exact ⟨k',by cases x <;> simp_all [exitTo,Item.plain],hg⟩
 | ret=>exact h
 | goto l=>exact h
 | panic ch=>exact h
 | outgrown=>exact h
theorem Zg {x y:Code} (h:wpS P n x (thn (wpS P n y Q) Q) S D B L):wpS P n (.seq x y) Q S D B L:=fun C k T hn hT hA=>by
 refine C.X.ctl rfl (fun w=>ZlY) (h C (.code y :: k) T hn hT fun e S' D' B' L' T' hle hq hn' hT'=>?_)
 cases e with
 | normal=>exact hq C k T' hn' hT' fun e₂ S₂ D₂ B₂ L₂ T₂ hle₂ hq₂=>hA e₂ S₂ D₂ B₂ L₂ T₂ (hle.trans hle₂) hq₂
 | exit id=>exact After.push rfl (by simp) (hA (.exit id) S' D' B' L' T' hle hq hn' hT')
 | ret=>exact After.push (x:=.code y) rfl (by simp) (hA .ret S' D' B' L' T' hle hq hn' hT')
 | goto l=>exact (hA (.goto l) S' D' B' L' T' hle hq hn' hT')
 | panic ch=>exact (hA (.panic ch) S' D' B' L' T' hle hq hn' hT')
 | outgrown=>exact (hA .outgrown S' D' B' L' T' hle hq hn' hT')
theorem Zst {x y:Code} (M:Zao) (h:wpS P n x (thn M Q) S D B L) (h' :∀S' D' B' L',B.le B'→M S' D' B' L'→wpS P n y Q S' D' B' L'):wpS P n (.seq x y) Q S D B L:=
 Zg (Zsu h fun e S' D' B' L' hle hq=>by cases e <;> first | exact hq | exact h' _ _ _ _ hle hq)
theorem Zb {c:Operand} {x y:Code} {t:Bool} (hc:ev S c=some (.bool t)) (h1:t=true→wpS P n x Q S D B L) (h2:t=false→wpS P n y Q S D B L):wpS P n (.cond c x y) Q S D B L:=fun C k T hn hT hA=>by
 refine C.X.ctl rfl (fun w=>ZqE (Zfu hT hc)) ?_
 cases t
 ·exact h2 rfl C k T hn hT hA
 ·exact h1 rfl C k T hn hT hA
theorem Zl {id:Nat} {c:Code} (h:wpS P n c (inB id Q) S D B L):wpS P n (.block id c) Q S D B L:=fun C k T hn hT hA=>by
 refine C.X.ctl rfl (fun w=>ZkX) (h C (.inBlock id :: k) T hn hT fun e S' D' B' L' T' hle hq hn' hT'=>?_)
 cases e with
 | normal=>exact C.X.ctl rfl (fun w=>Zhe) (hA .normal S' D' B' L' T' hle hq hn' hT')
 | exit id'=>
  by_cases hid:id'=id
  ·subst hid
   have hq':Q .normal S' D' B' L':=by simpa [inB] using hq
   exact ⟨k,by simp [exitTo],hA .normal S' D' B' L' T' hle hq' hn' hT'⟩
  ·have hb:Nat.beq id' id=false:=by
    cases h:Nat.beq id' id with
    | false=>rfl
    | true=>exact absurd (Nat.eq_of_beq_eq_true h) hid
   have hq':Q (.exit id') S' D' B' L':=by simpa [inB,hb] using hq
   obtain ⟨k',hk',hg⟩:=hA (.exit id') S' D' B' L' T' hle hq' hn' hT'
   have:(id == id')=false:=by simp;exact fun h=>hid h.symm
   exact ⟨k',by simp [exitTo,this,hk'],hg⟩
 | ret=>exact hA .ret S' D' B' L' T' hle hq hn' hT'
 | goto l=>exact hA (.goto l) S' D' B' L' T' hle hq hn' hT'
 | panic ch=>exact hA (.panic ch) S' D' B' L' T' hle hq hn' hT'
 | outgrown=>exact hA .outgrown S' D' B' L' T' hle hq hn' hT'
def rnd {α:Type} (St:α→Env) (Lo:α→List Cells) (Iv:α→Kn→Prop) (μ:α→Nat) (D:List Deferred) (x:α) (Q:Exit→Zao):Exit→Zao
 | .normal=>fun S' D' B' L'=>∃x',μ x'<μ x∧Iv x' B'∧Sub (St x') S'∧L'=Lo x'∧D'=D
 | e=>Q e
theorem ZlH {c:Code} {α:Type} (St:α→Env) (Lo:α→List Cells) (Iv:α→Kn→Prop) (μ:α→Nat) (x₀:α) (hS:Sub (St x₀) S) (hL:L=Lo x₀) (hI:Iv x₀ B)
  (round :∀x B',B.le B'→Iv x B'→wpS P n c (rnd St Lo Iv μ D x Q) (St x) D B' (Lo x)):wpS P n (.loop c) Q S D B L:=fun C k T hn hT hA=>by
 have key :∀m x B' T,μ x=m→B.le B'→Iv x B'→T.size=n→Ag T (St x)→C.X.R (G (fat C.b T D (.code c :: .inLoop c :: k)) C.cs) B' ((Lo x).flatten ++ C.F):=by
  intro m
  induction m using Nat.strongRecOn with
  | _ m ih=>
   intro x B' T hm hle hI hn hT
   refine round x B' hle hI C (.inLoop c :: k) T hn hT fun e S' D' B'' L' T' hle' hq hn' hT'=>?_
   cases e with
   | normal=>
    obtain ⟨x',hlt,hI',hs',rfl,rfl⟩:=hq
    exact C.X.ctl rfl (fun w=>ZiG) (ih (μ x') (hm ▸ hlt) x' B'' T' rfl (hle.trans hle') hI' hn' (hT'.sub hs'))
   | exit id=>exact After.push rfl (by simp) (hA (.exit id) S' D' B'' L' T' (hle.trans hle') hq hn' hT')
   | ret=>exact After.push (x:=.inLoop c) rfl (by simp) (hA .ret S' D' B'' L' T' (hle.trans hle') hq hn' hT')
   | goto l=>exact hA (.goto l) S' D' B'' L' T' (hle.trans hle') hq hn' hT'
   | panic ch=>exact hA (.panic ch) S' D' B'' L' T' (hle.trans hle') hq hn' hT'
   | outgrown=>exact hA .outgrown S' D' B'' L' T' (hle.trans hle') hq hn' hT'
 subst hL
 exact C.X.ctl rfl (fun w=>Znd) (key _ x₀ B T rfl (Kn.le.refl B) hI hn (hT.sub hS))
theorem Lg.assume {P:PJ} (X:Lg P) {g:Goroutine} {B:Kn} {L:Cells} (hs:g=G g.frame g.callers) (h:(∀p,p∈L→B.mem p.1=none)→(L.map (·.1)).Nodup→X.R g B L):X.R g B L:=by
 by_cases hw :∃w,Sat B L w
 ·obtain ⟨w,s⟩:=hw
  exact h s.apart s.nodup
 ·exact X.step hs fun w s=>absurd ⟨w,s⟩ hw
def Kn.add (B:Kn) (l:Cells):Kn:=⟨fun b=>match B.mem b with | some o=>some o | none=>(l.find? (fun p=>p.1 == b)).map (·.2)⟩
theorem Kn.le_add (B:Kn) (l:Cells):B.le (B.add l):=fun b o h=>by simp [Kn.add,h]
theorem Zg4 :∀{l:Cells},(l.map (·.1)).Nodup→∀{p:Nat × Obj},p∈l→l.find? (fun q=>q.1 == p.1)=some p
 | [],_,_,hp=>by cases hp
 | q :: r,hn,p,hp=>by
  have hn':=List.nodup_cons.1 hn
  rcases List.mem_cons.1 hp with rfl | hp
  ·simp
  ·have:q.1≠p.1:=fun e=>hn'.1 (List.mem_map.2 ⟨p,hp,e.symm⟩)
   rw [List.find?_cons_of_neg (by simpa using this)]
   exact Zg4 hn'.2 hp
theorem Kn.add_mem {B:Kn} {l:Cells} (ha :∀p,p∈l→B.mem p.1=none) (hn:(l.map (·.1)).Nodup) {p:Nat × Obj} (hp:p∈l):(B.add l).mem p.1=some p.2:=by
 simp [Kn.add,ha p hp,Zg4 hn hp]
theorem Kn.add_inv {B:Kn} {l:Cells} {b:Nat} {o:Obj} (h:(B.add l).mem b=some o):B.mem b=some o∨(b,o)∈l:=by
 simp only [Kn.add] at h
 cases hm:B.mem b with
 | some o'=>rw [hm] at h;exact .inl h
 | none=>
  rw [hm] at h
  simp only [Option.map_eq_some_iff] at h
  obtain ⟨p,hp,rfl⟩:=h
  have h1:=List.mem_of_find?_eq_some hp
  have h2:=List.find?_some hp
  simp only [beq_iff_eq] at h2
  subst h2
  exact .inr h1
theorem Lg.publish {P:PJ} (X:Lg P) {g:Goroutine} {B:Kn} {L l r:Cells} (hs:g=G g.frame g.callers) (hp:L.Perm (l ++ r))
  (h :∀B',B.le B'→(∀p,p∈l→B'.mem p.1=some p.2)→X.R g B' r):X.R g B L:=by
 refine X.assume hs fun ha hn=>?_
 have hn':((l ++ r).map (·.1)).Nodup:=(hp.map _).nodup_iff.1 hn
 have hnl:(l.map (·.1)).Nodup:=by rw [List.map_append] at hn';exact (List.nodup_append.1 hn').1
 have hal :∀p,p∈l→B.mem p.1=none:=fun p hpl=>ha p (hp.mem_iff.2 (List.mem_append.2 (.inl hpl)))
 refine X.conv (B':=B.add l) (L':=r) (Kn.le_add B l) (fun w s=>?_) (fun b o hb=>?_) (fun p hpr=>⟨p,hp.mem_iff.2 (List.mem_append.2 (.inr hpr)),rfl⟩) (h _ (Kn.le_add B l) fun p hpl=>Kn.add_mem hal hnl hpl)
 ·have s':=s.perm hp
  refine ⟨fun b o hb=>?_,fun p hpr=>s'.own p (List.mem_append.2 (.inr hpr)),?_,fun p hpr=>?_⟩
  ·rcases Kn.add_inv hb with hb | hb
   ·exact s.ro b o hb
   ·exact s'.own (b,o) (List.mem_append.2 (.inl hb))
  ·have:=s'.nodup;rw [List.map_append] at this;exact (List.nodup_append.1 this).2.1
  ·cases hm:(B.add l).mem p.1 with
   | none=>rfl
   | some o=>
    rcases Kn.add_inv hm with hm | hm
    ·rw [s'.apart p (List.mem_append.2 (.inr hpr))] at hm;cases hm
    ·have:=s'.nodup;rw [List.map_append] at this
     exact absurd rfl ((List.nodup_append.1 this).2.2 _ (List.mem_map.2 ⟨_,hm,rfl⟩) _ (List.mem_map.2 ⟨p,hpr,rfl⟩))
 ·rcases Kn.add_inv hb with hb | hb
  ·exact .inl (by rw [hb];rfl)
  ·exact .inr ⟨(b,o),hp.mem_iff.2 (List.mem_append.2 (.inl hb)),rfl⟩
theorem Zaa :∀{L:List Cells} {i:Nat} {l:Cells} (F:Cells) (l':Cells),L[i]? = some l→∃r,(L.flatten ++ F).Perm (l ++ r)∧((L.set i l').flatten ++ F).Perm (l' ++ r)
 | [],_,_,_,_,h=>by simp at h
 | x :: L,0,l,F,l',h=>by
  simp only [List.getElem?_cons_zero,Option.some.injEq] at h
  subst h
  exact ⟨L.flatten ++ F,by simp,by simp⟩
 | x :: L,i+1,l,F,l',h=>by
  obtain ⟨r,h1,h2⟩:=Zaa (L:=L) (i:=i) F l' (by simpa using h)
  refine ⟨x ++ r,?_,?_⟩
  ·simp only [List.flatten_cons,List.append_assoc]
   exact (List.Perm.append_left x h1).trans (by simpa using (List.perm_append_comm_assoc x l r))
  ·simp only [List.set_cons_succ,List.flatten_cons,List.append_assoc]
   exact (List.Perm.append_left x h2).trans (by simpa using (List.perm_append_comm_assoc x l' r))
theorem Zm6 {c:Code} (i:Nat) {l:Cells} (hi:L[i]? = some l) (h :∀B',B.le B'→(∀p,p∈l→B'.mem p.1=some p.2)→wpS P n c Q S D B' (L.set i [])):wpS P n c Q S D B L:=fun C k T hn hT hA=>by
 obtain ⟨r,h1,h2⟩:=Zaa C.F [] hi
 exact C.X.publish rfl h1 fun B' hle hm=>C.X.perm (by simpa using h2.symm) (h B' hle hm C k T hn hT fun e S' D' B'' L' T' hle' hq=>hA e S' D' B'' L' T' (hle.trans hle') hq)
theorem Lg.drop {P:PJ} (X:Lg P) {g:Goroutine} {B:Kn} {L r gl:Cells} (hp:L.Perm (r ++ gl)) (h:X.R g B r):X.R g B L:=
 X.conv (Kn.le.refl B) (fun w s=>by
   have s':=s.perm hp
   exact ⟨s.ro,fun p hpr=>s'.own p (List.mem_append.2 (.inl hpr)),by have:=s'.nodup;rw [List.map_append] at this;exact (List.nodup_append.1 this).1,fun p hpr=>s'.apart p (List.mem_append.2 (.inl hpr))⟩)
  (fun b o hb=>.inl (by rw [hb];rfl)) (fun p hpr=>⟨p,hp.mem_iff.2 (List.mem_append.2 (.inl hpr)),rfl⟩) h
theorem ZtR {c:Code} {L':List Cells} (hp:L.flatten.Perm L'.flatten) (h:wpS P n c Q S D B L'):wpS P n c Q S D B L:=fun C k T hn hT hA=>
 C.X.perm (hp.append_right _) (h C k T hn hT hA)
theorem Zsv {c:Code} (h:(∀p,p∈L.flatten→B.mem p.1=none)→(L.flatten.map (·.1)).Nodup→wpS P n c Q S D B L):wpS P n c Q S D B L:=fun C k T hn hT hA=>
 C.X.assume rfl fun ha hnd=>h (fun p hp=>ha p (List.mem_append.2 (.inl hp))) (by rw [List.map_append] at hnd;exact (List.nodup_append.1 hnd).1) C k T hn hT hA
end rules
def ZbW (S:Env):Option Tmp→Value→Env
 | some d,v=>(d,v) :: S
 | none,_=>S
def ZC (n:Nat):Option Tmp→Bool
 | some d=>Nat.blt d n
 | none=>true
def opW (P:PJ) (n:Nat) (ops:Array Oper) (i:Nat) (o:Oper) (K:Zao):Zao:=fun S D B L=>
∀(C:Cx P) (todo:List Nat) (k:List Item) (T:Array Value),ops[i]? = some o→T.size=n→Ag T S→
  (∀S' D' B' L' T',B.le B'→K S' D' B' L'→T'.size=n→Ag T' S'→C.X.R (G (fat C.b T' D' (.inRegion ops todo :: k)) C.cs) B' (L'.flatten ++ C.F))→
  C.X.R (G (fat C.b T D (.inRegion ops (i :: todo) :: k)) C.cs) B (L.flatten ++ C.F)
abbrev Zbl:=Value→List Deferred→Kn→List Cells→Prop
def opX (P:PJ) (n:Nat) (ops:Array Oper) (i:Nat) (o:Oper) (K:Zbl) (S:Env) (D:List Deferred) (B:Kn) (L:List Cells):Prop:=
 ZC n o.dst=true∧∀(C:Cx P) (todo:List Nat) (k:List Item) (T:Array Value),ops[i]? = some o→T.size=n→Ag T S→
  (∀v D' B' L',B.le B'→K v D' B' L'→C.X.R (G (fat C.b (putT T o.dst v) D' (.inRegion ops todo :: k)) C.cs) B' (L'.flatten ++ C.F))→
  C.X.R (G (fat C.b T D (.inRegion ops (i :: todo) :: k)) C.cs) B (L.flatten ++ C.F)
def Zp4 (P:PJ) (n:Nat) (ops:Array Oper):Nat→List Oper→Zao→Zao
 | _,[],K=>K
 | i,o :: r,K=>opW P n ops i o (Zp4 P n ops (i+1) r K)
theorem Zhg {P:PJ} {n:Nat} {ops:Array Oper} {K:Zao} :∀(l:List Oper) (i:Nat) {S:Env} {D:List Deferred} {B:Kn} {L:List Cells},
  (∀j,l[j]? = ops[i+j]?)→Zp4 P n ops i l K S D B L→∀(C:Cx P) (k:List Item) (T:Array Value),T.size=n→Ag T S→
  (∀S' D' B' L' T',B.le B'→K S' D' B' L'→T'.size=n→Ag T' S'→C.X.R (G (fat C.b T' D' (.inRegion ops [] :: k)) C.cs) B' (L'.flatten ++ C.F))→
  C.X.R (G (fat C.b T D (.inRegion ops (List.range' i l.length) :: k)) C.cs) B (L.flatten ++ C.F)
 | [],i,S,D,B,L,_,h,C,k,T,hn,hT,hA=>hA S D B L T (Kn.le.refl B) h hn hT
 | o :: l,i,S,D,B,L,hl,h,C,k,T,hn,hT,hA=>by
  simp only [List.length_cons,List.range'_succ]
  refine h C _ k T (by simpa using (hl 0).symm) hn hT fun S' D' B' L' T' hle hK hn' hT'=>?_
  exact Zhg l (i+1) (fun j=>by have:=hl (j+1);simpa [Nat.add_assoc,Nat.add_comm 1 j] using this) hK C k T' hn' hT'
   fun S₂ D₂ B₂ L₂ T₂ hle₂ hK₂=>hA S₂ D₂ B₂ L₂ T₂ (hle.trans hle₂) hK₂
section
variable {P:PJ} {n:Nat} {Q:Exit→Zao} {S:Env} {D:List Deferred} {B:Kn} {L:List Cells}
theorem Zc {id:Nat} {l:List Oper} (h:Zp4 P n l.toArray 0 l (Q .normal) S D B L):wpS P n (.region id l.toArray false) Q S D B L:=fun C k T hn hT hA=>by
 refine C.X.ctl rfl (fun w=>ZgF) ?_
 rw [List.size_toArray,List.range_eq_range']
 exact Zhg l 0 (fun j=>by simp) h C k T hn hT fun S' D' B' L' T' hle hq hn' hT'=>
  C.X.ctl rfl (fun w=>ZcH) (hA .normal S' D' B' L' T' hle hq hn' hT')
theorem Za {id:Nat} {l:List Oper} {y:Code} (h:Zp4 P n l.toArray 0 l (wpS P n y Q) S D B L):wpS P n (.seq (.region id l.toArray false) y) Q S D B L:=
 Zg (Zc h)
end
def Zm (ops:Array Oper) (S:Env):Option (Nat × Bool)→Option Bool
 | none=>some true
 | some (j,want)=>match ops[j]? with
  | some oj=>match oj.dst with
   | some d=>match get S d with
    | some (.bool b)=>some (b == want)
    | some (.tuple _)=>some false
    | _=>none
   | none=>none
  | none=>none
theorem Zci {ops:Array Oper} {T:Array Value} {S:Env} (hT:Ag T S) {o:Oper} {t:Bool} (h:Zm ops S o.guard=some t):Region.wanted o (yielded ops T)=t:=by
 cases hg:o.guard with
 | none=>rw [hg] at h;simp only [Zm,Option.some.injEq] at h;simp [Region.wanted,hg,← h]
 | some p=>
  obtain ⟨j,want⟩:=p
  rw [hg] at h
  simp only [Zm] at h
  split at h
  ·rename_i oj hj
   split at h
   ·rename_i d hd
    split at h
    ·rename_i b hb
     simp only [Option.some.injEq] at h
     have:=hT _ _ hb
     simp [Region.wanted,hg,yielded,hj,hd,this,← h]
    ·rename_i b hb
     simp only [Option.some.injEq] at h
     have:=hT _ _ hb
     simp [Region.wanted,hg,yielded,hj,hd,this,← h]
    ·cases h
   ·cases h
  ·cases h
theorem Ag.putT {T:Array Value} {S:Env} (h:Ag T S) {n:Nat} (hn:T.size=n) {dst:Option Tmp} (hd:ZC n dst=true) (v:Value):Ag (putT T dst v) (ZbW S dst v):=by
 cases dst with
 | none=>exact h
 | some d=>exact h.put (by rw [hn];simpa [ZC] using hd) v
theorem Zl4 {e:Event} {f:Bool × Array Event→Event→Bool × Array Event} (hf :∀x a,(f x a).2=x.2∨(f x a).2=x.2.push a) :∀(l:List Event) (x:Bool × Array Event),e∈(l.foldl f x).2→e∈x.2∨e∈l
 | [],x,h=>.inl h
 | a :: l,x,h=>by
  rcases Zl4 hf l _ h with h | h
  ·rcases hf x a with e1 | e1
   ·rw [e1] at h;exact .inl h
   ·rw [e1] at h
    rcases Array.mem_push.1 h with h | h
    ·exact .inl h
    ·exact .inr (h ▸ List.mem_cons_self ..)
  ·exact .inr (List.mem_cons_of_mem _ h)
theorem Zcl {P:Program} {fn:FuncId} {es:Array Event} {e:Event} (h:e∈seen P fn es):e∈es:=by
 dsimp only [seen] at h
 rw [← Array.foldl_toList] at h
 refine Zl4 (fun x a=>?_) es.toList _ h |>.elim (fun h=>by simp at h) (fun h=>Array.mem_toList_iff.1 h)
 obtain ⟨q,kept⟩:=x
 dsimp only
 split
 ·exact .inl rfl
 ·dsimp only
  split
  ·exact .inl rfl
  ·exact .inr rfl
def Sup (a b:Cells):Prop:=∃gl,a.Perm (b ++ gl)
theorem Sup.of {a b:Cells} (h:a.Perm b):Sup a b:=⟨[],by rw [List.append_nil];exact h⟩
def yields (P:PJ) (n:Nat) (o:Oper) (K:Zbl) (S:Env) (D:List Deferred) (F:Cells):Next→Kn→Cells→Prop
 | .value v,B',L'=>∃LL:List Cells,Sup L' (LL.flatten ++ F)∧K v D B' LL
 | .skip,B',L'=>∃LL:List Cells,Sup L' (LL.flatten ++ F)∧K undef D B' LL
 | _,_,_=>False
section
variable {P:PJ} {n:Nat} {ops:Array Oper} {i:Nat} {o:Oper} {K:Zbl} {S:Env} {D:List Deferred} {B:Kn} {L:List Cells}
theorem ZbE {α:Type} {s:Sem α} {w:World} {r:Result α} {es:Array Event} (h:s.runT P w #[]=(r,es)):s.run P w=r∧s.events P w #[]=es:=by
 refine ⟨?_,?_⟩
 ·rw [← Sem.runT_fst P s w #[],h]
 ·show (s.runT P w #[]).2=es;rw [h]
theorem Zn0 {fr:Frame} {cs:List Frame} {s:Sem Next} {w w':World} {v:Value} {es:Array Event} (hk:fr.kind≠.early) (h:s.runT P w #[]=(.ok (.value v) w',es)) :
  stepG.apply P true fr cs none s w = .go (G (fr.finish v) cs) w' (seen P fr.fn es):=by
 have hk':(fr.kind == CallKind.early)=false:=by simpa using hk
 obtain ⟨hr,he⟩:=ZbE h
 rw [← he]
 simp [stepG.apply,hr,hk',GStep.after,G]
theorem ZkQ {fr:Frame} {cs:List Frame} {s:Sem Next} {w w':World} {es:Array Event} (hk:fr.kind≠.early) (h:s.runT P w #[]=(.ok .skip w',es)) :
  stepG.apply P true fr cs none s w = .go (G (fr.finish undef) cs) w' (seen P fr.fn es):=by
 have hk':(fr.kind == CallKind.early)=false:=by simpa using hk
 obtain ⟨hr,he⟩:=ZbE h
 rw [← he]
 simp [stepG.apply,hr,hk',GStep.after,G]
theorem Zgt {fr:Frame} {cs:List Frame} {s:Sem Next} {w w':World} {f:FuncId} {args:Array Value} {es:Array Event} (hk:fr.kind≠.early) (ht :∀a b c d r,fr.todo≠.call a b c d :: r) (h:s.runT P w #[]=(.ok (.enter f args) w',es)) :
  stepG.apply P true fr cs none s w = .go (G (Frame.enter P f args .normal) (fr :: cs)) w' (seen P fr.fn es):=by
 have hk':(fr.kind == CallKind.early)=false:=by simpa using hk
 obtain ⟨hr,he⟩:=ZbE h
 rw [← he]
 have hkd:(match fr.todo with | .call _ true _ _ :: _=>CallKind.wrapped | _=>.normal) = .normal:=by
  split
  ·rename_i h';exact absurd h' (ht _ _ _ _ _)
  ·rfl
 simp [stepG.apply,hr,hk',GStep.after,G]
 exact congrArg (Frame.enter P f args) hkd
theorem Zd7 (hg:Zm ops S o.guard=some true) (hd:ZC n o.dst=true)
  (h :∀(ρ:Operand→Value),(∀x v,ev S x=some v→ρ x=v)→∀F:Cells,hb P (execOp ρ o) (yields P n o K S D F) B (L.flatten ++ F)) (hnd:Zi9 o.op=false:=by rfl):opX P n ops i o K S D B L:=⟨hd,fun C todo k T ho hn hT hA=>by
 refine C.X.step rfl fun w s=>?_
 obtain ⟨a,w',es,B',L',h1,h2,h3,h4⟩:=ZcO _ _ _ _ (h (evT T) (fun x v hx=>Zfu hT hx) C.F) w #[] s
 simp only [Array.empty_append] at h1
 rw [ZkW hnd ho (Zci hT hg)]
 have hk:(fat C.b T D (.inRegion ops (i :: todo) :: k)).kind≠.early:=C.early
 cases a with
 | value v=>
  obtain ⟨LL,⟨gl,hp⟩,hK⟩:=h4
  refine ⟨_,w',_,B',L',Zn0 hk h1,fun e he=>h2 e (Zcl he),h3,?_⟩
  rw [ZfH ho]
  exact C.X.drop hp (hA v D B' LL h3.le hK)
 | skip=>
  obtain ⟨LL,⟨gl,hp⟩,hK⟩:=h4
  refine ⟨_,w',_,B',L',ZkQ hk h1,fun e he=>h2 e (Zcl he),h3,?_⟩
  rw [ZfH ho]
  exact C.X.drop hp (hA undef D B' LL h3.le hK)
 | _=>exact h4.elim⟩
theorem ZtU {dst:Option Tmp} {op:Op} {t:TypeId} {pos:String} {after:Array Edge} {g:Option (Nat × Bool)} (hg:Zm ops S g=some false) (hd:ZC n dst=true) (h:K undef D B L):opX P n ops i ⟨dst,op,t,pos,after,g⟩ K S D B L:=⟨hd,fun C todo k T ho hn hT hA=>by
 refine C.X.ctl rfl (fun w=>Zo2 ho (Zci (o:=⟨dst,op,t,pos,after,g⟩) hT hg)) ?_
 exact hA undef D B L (Kn.le.refl B) h⟩
theorem Zn {K:Zao} (h:opX P n ops i o (fun v D' B' L'=>K (ZbW S o.dst v) D' B' L') S D B L):opW P n ops i o K S D B L:=fun C todo k T ho hn hT hA=>
 h.2 C todo k T ho hn hT fun v D' B' L' hle hK=>hA _ D' B' L' _ hle hK (by rw [ZbF,hn]) (hT.putT hn h.1 v)
end
end Go.BL
namespace Go.BL
section
variable {K:Zao} {Q:Exit→Zao} {S:Env} {D:List Deferred} {B:Kn} {L:List Cells} {id id':Nat}
theorem Zj (h:K S D B L):thn K Q .normal S D B L:=h
theorem Zp (h:Q .ret S D B L):thn K Q .ret S D B L:=h
theorem Zae (h:Q (.exit id) S D B L):thn K Q (.exit id) S D B L:=h
theorem ZA (h:Q .normal S D B L):inB id Q .normal S D B L:=h
theorem ZH (h:Q .ret S D B L):inB id Q .ret S D B L:=h
theorem ZI (h:Q .normal S D B L):inB id Q (.exit id) S D B L:=by simpa [inB] using h
theorem ZfF (hb:Nat.beq id' id=false) (h:Q (.exit id') S D B L):inB id Q (.exit id') S D B L:=by simpa [inB,hb] using h
theorem ZuC {α:Type} {St:α→Env} {Lo:α→List Cells} {Iv:α→Kn→Prop} {μ:α→Nat} {D':List Deferred} {x:α} (h:Q .ret S D B L):rnd St Lo Iv μ D' x Q .ret S D B L:=h
theorem Zo8 {α:Type} {St:α→Env} {Lo:α→List Cells} {Iv:α→Kn→Prop} {μ:α→Nat} {D':List Deferred} {x:α} (h:Q (.exit id) S D B L):rnd St Lo Iv μ D' x Q (.exit id) S D B L:=h
theorem Zo9 {α:Type} {St:α→Env} {Lo:α→List Cells} {Iv:α→Kn→Prop} {μ:α→Nat} {x:α} (x':α) (hm:μ x'<μ x) (hi:Iv x' B) (hs:Sub (St x') S) (hl:L=Lo x'):rnd St Lo Iv μ D x Q .normal S D B L:=⟨x',hm,hi,hs,hl,rfl⟩
theorem ZM {P:PJ} {n:Nat} {c:Code} (S':Env) (L':List Cells) (hs:Sub S' S) (hl:L=L') (h:wpS P n c Q S' D B L'):wpS P n c Q S D B L:=by subst hl;exact Z2 S' hs h
end
end Go.BL
namespace Go.BL
open Go.Conc (G)
@[reducible] def str (l:List UInt8):Value:=.string ⟨l.toArray⟩
@[reducible] def int (x:Int):Value:=.int .i64 x
@[reducible] def Zah (b:Nat) (l:List Value) (T:TypeId):Cells:=[(b,.cells l.toArray T (0,0))]
@[reducible] def ptr (a:Addr):Value:=.pointer (some a)
def lk (P:Program) (t:TypeId):Option (Option Nat):=
 match P.underlying t,P.info? t with
 | some (.struct _),some i=>some (some i.size)
 | some (.array _ _),some i=>some (some i.size)
 | some _,some _=>some none
 | _,_=>none
def ZaB (P:Program) (t:TypeId):Option Value:=(P.info? t).bind (·.zero)
def Z8 (P:Program) (t:TypeId):Option Nat:=(P.info? t).map (·.size)
def ZP (P:Program) (s:TypeId) (i:Nat):Option Nat:=
 match P.underlying s with
 | some (.struct fs)=>match fs[i]? with
  | some f=>match P.info? f.type with
   | some j=>if j.size=0 then none else some f.offset
   | none=>none
  | none=>none
 | _=>none
section
variable {P:Program} {α:Type} {Q:α→Kn→Cells→Prop} {B:Kn} {L:Cells}
theorem ZbL {Q:Program→Kn→Cells→Prop} : hb P program Q B L=Q P B L:=rfl
theorem Zt {Q:TypeDesc→Kn→Cells→Prop} {t:TypeId} {d:TypeDesc} (h:P.underlying t=some d):hb P (underlying t) Q B L=Q d B L:=by
 simp only [underlying,Zk,ZbL,h,Zr]
theorem Zb1 {Q:TypeInfo→Kn→Cells→Prop} {t:TypeId} {i:TypeInfo} (h:P.info? t=some i):hb P (typeInfo t) Q B L=Q i B L:=by
 simp only [typeInfo,Zk,ZbL,h,Zr]
theorem Zb0 {Q:Value→Kn→Cells→Prop} {t:TypeId} {v:Value} (h:ZaB P t=some v):hb P (zeroValue t) Q B L=Q v B L:=by
 simp only [ZaB,Option.bind_eq_some_iff] at h
 obtain ⟨i,hi,hz⟩:=h
 simp only [zeroValue,Zk,Zb1 hi,hz,Zr]
theorem ZaS {Q:Nat→Kn→Cells→Prop} {t:TypeId} {n:Nat} (h:Z8 P t=some n):hb P (sizeOf t) Q B L=Q n B L:=by
 simp only [Z8,Option.map_eq_some_iff] at h
 obtain ⟨i,hi,rfl⟩:=h
 simp only [sizeOf,Zk,Zb1 hi,Zr]
theorem Zra {t:TypeId} (h:lk P t=some none) {Q:Bool→Kn→Cells→Prop} : hb P (isAgg t) Q B L=Q false B L:=by
 unfold lk at h
 cases hd:P.underlying t with
 | none=>rw [hd] at h;cases P.info? t <;> cases h
 | some d=>
  rw [hd] at h
  rw [isAgg,Zk,Zt hd]
  cases hi:P.info? t with
  | none=>rw [hi] at h;cases d <;> cases h
  | some i=>rw [hi] at h;cases d <;> first | rfl | cases h
theorem Zq9 {t:TypeId} {n:Nat} (h:lk P t=some (some n)) {Q:Bool→Kn→Cells→Prop} : hb P (isAgg t) Q B L=Q true B L∧Z8 P t=some n:=by
 unfold lk at h
 split at h
 ·rename_i fs i hd hi;simp only [Option.some.injEq] at h;exact ⟨by rw [isAgg,Zk,Zt hd];rfl,by simp [Z8,hi,h]⟩
 ·rename_i a e i hd hi;simp only [Option.some.injEq] at h;exact ⟨by rw [isAgg,Zk,Zt hd];rfl,by simp [Z8,hi,h]⟩
 ·cases h
 ·cases h
theorem Zrr {Q:Value→Kn→Cells→Prop} {a:Addr} {v:Value} (hc:Zbj B L a v) (h:Q v B L):hb P (load a) Q B L:=⟨rfl,v,hc,h⟩
theorem Zde {Q:Array Value→Kn→Cells→Prop} {a:Addr} :∀(vs:List Value) (i:Nat) (acc:Array Value),(∀j v,vs[j]? = some v→Zbj B L (a.add (i+j)) v)→Q (acc ++ vs.toArray) B L→
  hb P (loadCellsFrom a i vs.length acc) Q B L
 | [],i,acc,_,h=>by simp only [List.length_nil,loadCellsFrom,Zr];simpa using h
 | v :: vs,i,acc,hc,h=>by
  simp only [List.length_cons,loadCellsFrom,Zk]
  refine Zrr (hc 0 v (by simp)) ?_
  refine Zde vs (i+1) (acc.push v) (fun j u hj=>by have:=hc (j+1) u (by simpa using hj);rwa [show i+(j+1)=i+1+j from by omega] at this) ?_
  simpa using h
theorem Zgj {Q:Value→Kn→Cells→Prop} {t:TypeId} {a:Addr} {v:Value} (hl:lk P t=some none) (hc:Zbj B L a v) (h:Q v B L):hb P (loadVar t a) Q B L:=by
 simp only [loadVar,Zk,Zra hl]
 exact Zrr hc h
theorem Zjn {Q:Value→Kn→Cells→Prop} {t:TypeId} {a:Addr} {vs:List Value} (hl:lk P t=some (some vs.length)) (hc :∀j v,vs[j]? = some v→Zbj B L (a.add j) v) (h:Q (.agg vs.toArray) B L):hb P (loadVar t a) Q B L:=by
 simp only [loadVar,Zk,(Zq9 hl).1,if_true,ZaS (Zq9 (L:=L) (B:=B) (Q:=fun _ _ _=>True) hl).2,loadCells]
 refine Zde vs 0 #[] (fun j v hj=>by simpa using hc j v hj) ?_
 simp only [Zr]
 simpa using h
def Zav:List Value→Nat→List Value→List Value
 | l,_,[]=>l
 | [],_,_=>[]
 | _ :: l,0,v :: vs=>v :: Zav l 0 vs
 | x :: l,i+1,vs=>x :: Zav l i vs
theorem ZbX (l:List Value) (i:Nat):Zav l i []=l:=by cases l <;> cases i <;> rfl
theorem Zdw :∀(l:List Value) (i:Nat) (v:Value) (vs:List Value),Zav l i (v :: vs)=Zav (l.set i v) (i+1) vs
 | [],i,v,vs=>by cases i <;> cases vs <;> rfl
 | x :: l,0,v,vs=>by
  cases vs with
  | nil=>simp [Zav,ZbX]
  | cons u us=>simp [Zav]
 | x :: l,i+1,v,vs=>by
  simp only [Zav,List.set_cons_succ]
  cases vs with
  | nil=>simp [ZbX,Zdw l i v []]
  | cons u us=>simp only [Zav];rw [Zdw l i v (u :: us)]
theorem Zk5 {v:Value} {vs:List Value} (h:(v :: vs).all ZgT=true):ZgT v=true∧vs.all ZgT=true:=by simpa using h
theorem ZcN {Q:Unit→Kn→Cells→Prop} {a:Addr} (ha:a.spot=none) {T:TypeId} {L₁:Cells} :∀(vs:List Value) (i:Nat) (l:List Value) (L:Cells),vs.all ZgT=true→L.Perm ((a.block,.cells l.toArray T (0,0)) :: L₁)→a.off+i+vs.length≤l.length→
  (∀L',L'.Perm ((a.block,.cells (Zav l (a.off+i) vs).toArray T (0,0)) :: L₁)→Q () B L')→hb P (storeCells a vs i) Q B L
 | [],i,l,L,_,hp,_,h=>by
  simp only [storeCells,Zr]
  exact h L (by rw [ZbX];exact hp)
 | v :: vs,i,l,L,h1,hp,hlen,h=>by
  simp only [storeCells,Zk]
  have hoff:(a.add i).off=a.off+i:=by unfold Addr.add;split <;> simp_all
  have hbl:(a.add i).block=a.block:=by unfold Addr.add;split <;> rfl
  have hsp:(a.add i).spot=none:=by unfold Addr.add;split <;> simp_all
  obtain ⟨hv,hvs⟩:=Zk5 h1
  refine ⟨rfl,hv,hsp,l.toArray,T,(0,0),L₁,by rw [hbl];exact hp,by rw [hoff];simp only [List.size_toArray];simp only [List.length_cons] at hlen;omega,by simp,?_⟩
  rw [ZbQ]
  refine ZcN (T:=T) (L₁:=L₁) ha vs (i+1) (l.set (a.off+i) v) _ hvs (by rw [hbl,hoff];simp) (by simp only [List.length_set];simp only [List.length_cons] at hlen;omega) fun L' hp'=>h L' ?_
  rw [Zdw,Nat.add_assoc]
  exact hp'
end
@[reducible] def At (B:Kn) (L:List Cells) (a:Addr) (v:Value):Prop:=Zbj B L.flatten a v
theorem Zbj.app {B:Kn} {L F:Cells} {a:Addr} {v:Value} (h:Zbj B L a v):Zbj B (L ++ F) a v:=
 let ⟨h1,cs,T,fr,h2,h3⟩:=h;⟨h1,cs,T,fr,h2.imp id fun x=>List.mem_append.2 (.inl x),h3⟩
theorem atL {B:Kn} {L:List Cells} {a:Addr} {v:Value} {l:List Value} {T:TypeId} {fr:Nat × Nat} {r:Cells} (j:Nat) (hj:L[j]? = some ((a.block,.cells l.toArray T fr) :: r)) (hs:a.spot=none) (hv:l[a.off]? = some v):At B L a v:=
 ⟨hs,l.toArray,T,fr,.inr (List.mem_flatten.2 ⟨_,List.mem_of_getElem? hj,List.mem_cons_self ..⟩),by simpa using hv⟩
theorem atB {B:Kn} {L:List Cells} {a:Addr} {v:Value} {l:List Value} {T:TypeId} {fr:Nat × Nat} (h:B.mem a.block=some (.cells l.toArray T fr)) (hs:a.spot=none) (hv:l[a.off]? = some v):At B L a v:=
 ⟨hs,l.toArray,T,fr,.inl h,by simpa using hv⟩
@[reducible] def Zsi (B:Kn) (L:List Cells) (a:Addr) (vs:List Value):Prop:=∀j v,vs[j]? = some v→At B L (a.add j) v
theorem Addr.add_off (a:Addr) (i:Nat) (h:a.spot=none):a.add i=⟨a.block,a.off+i,none⟩:=by
 unfold Addr.add;split
 ·subst_vars;cases a;simp_all
 ·rfl
theorem Z9 {B:Kn} {L:List Cells} {a:Addr} {l vs:List Value} {T:TypeId} {fr:Nat × Nat} {r:Cells} (j:Nat) (hj:L[j]? = some ((a.block,.cells l.toArray T fr) :: r)) (hs:a.spot=none) (hv:(l.drop a.off).take vs.length=vs):Zsi B L a vs:=by
 intro i v hi
 rw [Addr.add_off a i hs]
 refine ⟨rfl,l.toArray,T,fr,.inr (List.mem_flatten.2 ⟨_,List.mem_of_getElem? hj,List.mem_cons_self ..⟩),?_⟩
 have:vs[i]? = l[a.off+i]?:=by
  rw [← hv]
  have hlt:i<vs.length:=by
   rcases Nat.lt_or_ge i vs.length with h | h
   ·exact h
   ·rw [List.getElem?_eq_none h] at hi;cases hi
  rw [List.getElem?_take,if_pos hlt,List.getElem?_drop]
 simpa [this] using hi
section
variable {P:PJ} {n:Nat} {ops:Array Oper} {i:Nat} {K:Zbl} {S:Env} {D:List Deferred} {B:Kn} {L:List Cells}
variable {dst:Option Tmp} {ty:TypeId} {pos:String} {after:Array Edge} {g:Option (Nat × Bool)}
theorem ZV {op:Op} {v:Value} (hg:Zm ops S g=some true) (hd:ZC n dst=true)
  (hv :∀ρ:Operand→Value,(∀x u,ev S x=some u→ρ x=u)→∀(Q:Next→Kn→Cells→Prop) F,Q (.value v) B (L.flatten ++ F)→hb P (execOp ρ ⟨dst,op,ty,pos,after,g⟩) Q B (L.flatten ++ F))
  (h:K v D B L) (hnd:Zi9 op=false:=by rfl):opX P n ops i ⟨dst,op,ty,pos,after,g⟩ K S D B L:=
 Zd7 hg hd (fun ρ hρ F=>hv ρ hρ _ F ⟨L,.of (.refl _),h⟩) hnd
theorem Zqh {x:Operand} {v:Value} (hg:Zm ops S g=some true) (hd:ZC n dst=true) (hx:ev S x=some v) (h:K v D B L):opX P n ops i ⟨dst,.move x,ty,pos,after,g⟩ K S D B L:=
 ZV hg hd (fun ρ hρ Q F q=>by show Q (.value (ρ x)) _ _;rw [hρ x v hx];exact q) h
theorem Zn7 {x:Operand} {v:Value} (hg:Zm ops S g=some true) (hd:ZC n dst=true) (hx:ev S x=some v) (h:K v D B L):opX P n ops i ⟨dst,.assign x,ty,pos,after,g⟩ K S D B L:=
 ZV hg hd (fun ρ hρ Q F q=>by show Q (.value (ρ x)) _ _;rw [hρ x v hx];exact q) h
theorem Zqd {c a b:Operand} {v:Value} (hg:Zm ops S g=some true) (hd:ZC n dst=true) (hc:ev S c=some (.bool true)) (hx:ev S a=some v) (h:K v D B L):opX P n ops i ⟨dst,.pick c a b,ty,pos,after,g⟩ K S D B L:=
 ZV hg hd (fun ρ hρ Q F q=>by simp only [execOp,hρ c _ hc,asBool,Zk,Zr,if_true,hρ a _ hx];exact q) h
theorem Zqe {c a b:Operand} {v:Value} (hg:Zm ops S g=some true) (hd:ZC n dst=true) (hc:ev S c=some (.bool false)) (hx:ev S b=some v) (h:K v D B L):opX P n ops i ⟨dst,.pick c a b,ty,pos,after,g⟩ K S D B L:=
 ZV hg hd (fun ρ hρ Q F q=>by simp only [execOp,hρ c _ hc,asBool,Zk,Zr,if_false,Bool.false_eq_true,hρ b _ hx];exact q) h
theorem Zix {x:Operand} {ix:Nat} {vs:List Value} {v:Value} (hg:Zm ops S g=some true) (hd:ZC n dst=true) (hx:ev S x=some (.tuple vs.toArray)) (hi:vs[ix]? = some v) (h:K v D B L):opX P n ops i ⟨dst,.extract x ix,ty,pos,after,g⟩ K S D B L:=
 ZV hg hd (fun ρ hρ Q F q=>by simp only [execOp,Instr.extract,hρ x _ hx,List.getElem?_toArray,hi,Zk,Zr];exact q) h
theorem Zv2 {x:Operand} {b:Bool} {t:TypeId} (hg:Zm ops S g=some true) (hd:ZC n dst=true) (hx:ev S x=some (.bool b)) (h:K (.bool (!b)) D B L):opX P n ops i ⟨dst,.unOp .not t x,ty,pos,after,g⟩ K S D B L:=
 ZV hg hd (fun ρ hρ Q F q=>by simp only [execOp,hρ x _ hx,Op.unary,Zk,Zr];exact q) h
theorem Zkb {x:Operand} {a:Addr} (hg:Zm ops S g=some true) (hd:ZC n dst=true) (hx:ev S x=some (.pointer (some a))) (h:K (.pointer (some a)) D B L):opX P n ops i ⟨dst,.nilCheck x,ty,pos,after,g⟩ K S D B L:=
 ZV hg hd (fun ρ hρ Q F q=>by simp only [execOp,hρ x _ hx,Zr];exact q) h
theorem ZaF {op:BinOp} {t:TypeId} {x y:Operand} {a b:Value} {Q:Unit→Kn→Cells→Prop} {L:Cells} (ha:(match a,b with | .nilIface,.nilIface=>false | .agg _,.agg _=>false | _,_=>true)=true):hb P (eqGuard op t x y a b) Q B L=Q () B L:=by
 unfold eqGuard
 cases a <;> cases b <;> simp only [Bool.false_eq_true] at ha <;> cases op <;> rfl
section binary
variable {t u:TypeId} {x y:Operand} {k:IntKind} {a b r:Int}
theorem Zm9 {op:BinOp} (hg:Zm ops S g=some true) (hd:ZC n dst=true) (hx:ev S x=some (.int k a)) (hy:ev S y=some (.int k b))
  (hr:(match op with | .add=>some (k.wrap (a+b)) | .sub=>some (k.wrap (a - b)) | .mul=>some (k.wrap (a*b)) | _=>none)=some r) (h:K (.int k r) D B L):opX P n ops i ⟨dst,.binOp op t x y u,ty,pos,after,g⟩ K S D B L:=
 ZV hg hd (fun ρ hρ Q F q=>by
  cases op <;> simp only [Option.some.injEq,reduceCtorEq] at hr <;> subst hr <;>
   (simp only [execOp,hρ x _ hx,hρ y _ hy,Zk,ZaF,binOp,ne_eq,not_true_eq_false,if_false,Op.intArith,Zr];exact q)) h
theorem Zfa (hg:Zm ops S g=some true) (hd:ZC n dst=true) (hx:ev S x=some (.int k a)) (hy:ev S y=some (.int k b)) (hr:k.wrap (a+b)=r) (h:K (.int k r) D B L):opX P n ops i ⟨dst,.binOp .add t x y u,ty,pos,after,g⟩ K S D B L:=
 Zm9 hg hd hx hy (by rw [hr]) h
theorem ZjX (hg:Zm ops S g=some true) (hd:ZC n dst=true) (hx:ev S x=some (.int k a)) (hy:ev S y=some (.int k b)) (hr:k.wrap (a - b)=r) (h:K (.int k r) D B L):opX P n ops i ⟨dst,.binOp .sub t x y u,ty,pos,after,g⟩ K S D B L:=
 Zm9 hg hd hx hy (by rw [hr]) h
theorem ZlF (hg:Zm ops S g=some true) (hd:ZC n dst=true) (hx:ev S x=some (.int k a)) (hy:ev S y=some (.int k b)) (hr:k.wrap (a*b)=r) (h:K (.int k r) D B L):opX P n ops i ⟨dst,.binOp .mul t x y u,ty,pos,after,g⟩ K S D B L:=
 Zm9 hg hd hx hy (by rw [hr]) h
theorem Ziw (hg:Zm ops S g=some true) (hd:ZC n dst=true) (hx:ev S x=some (.int k a)) (hy:ev S y=some (.int k b)) (h0:b≠0) (hr:k.wrap (a.tdiv b)=r) (h:K (.int k r) D B L):opX P n ops i ⟨dst,.binOp .quo t x y u,ty,pos,after,g⟩ K S D B L:=
 ZV hg hd (fun ρ hρ Q F q=>by
  simp only [execOp,hρ x _ hx,hρ y _ hy,Zk,ZaF,binOp,ne_eq,not_true_eq_false,if_false,Op.intDiv,h0,Zr,hr];exact q) h
theorem Zh2 (hg:Zm ops S g=some true) (hd:ZC n dst=true) (hx:ev S x=some (.int k a)) (hy:ev S y=some (.int k b)) (h0:b≠0) (hr:a.tmod b=r) (h:K (.int k r) D B L):opX P n ops i ⟨dst,.binOp .rem t x y u,ty,pos,after,g⟩ K S D B L:=
 ZV hg hd (fun ρ hρ Q F q=>by
  simp only [execOp,hρ x _ hx,hρ y _ hy,Zk,ZaF,binOp,ne_eq,not_true_eq_false,if_false,Op.intDiv,h0,Zr,hr];exact q) h
theorem Zv4 (hg:Zm ops S g=some true) (hd:ZC n dst=true) (hx:ev S x=some (.int k a)) (hy:ev S y=some (.int k b)) (h:K (.bool (decide (a<b))) D B L):opX P n ops i ⟨dst,.binOp .lss t x y u,ty,pos,after,g⟩ K S D B L:=
 ZV hg hd (fun ρ hρ Q F q=>by simp only [execOp,hρ x _ hx,hρ y _ hy,Zk,ZaF,binOp,ne_eq,not_true_eq_false,if_false,Op.intCmp,Zr];exact q) h
theorem Zv5 (hg:Zm ops S g=some true) (hd:ZC n dst=true) (hx:ev S x=some (.int k a)) (hy:ev S y=some (.int k b)) (h:K (.bool (decide (a≤b))) D B L):opX P n ops i ⟨dst,.binOp .leq t x y u,ty,pos,after,g⟩ K S D B L:=
 ZV hg hd (fun ρ hρ Q F q=>by simp only [execOp,hρ x _ hx,hρ y _ hy,Zk,ZaF,binOp,ne_eq,not_true_eq_false,if_false,Op.intCmp,Zr];exact q) h
theorem Zv8 (hg:Zm ops S g=some true) (hd:ZC n dst=true) (hx:ev S x=some (.int k a)) (hy:ev S y=some (.int k b)) (h:K (.bool (decide (b<a))) D B L):opX P n ops i ⟨dst,.binOp .gtr t x y u,ty,pos,after,g⟩ K S D B L:=
 ZV hg hd (fun ρ hρ Q F q=>by simp only [execOp,hρ x _ hx,hρ y _ hy,Zk,ZaF,binOp,ne_eq,not_true_eq_false,if_false,Op.intCmp,Zr];exact q) h
theorem Zv9 (hg:Zm ops S g=some true) (hd:ZC n dst=true) (hx:ev S x=some (.int k a)) (hy:ev S y=some (.int k b)) (h:K (.bool (decide (b≤a))) D B L):opX P n ops i ⟨dst,.binOp .geq t x y u,ty,pos,after,g⟩ K S D B L:=
 ZV hg hd (fun ρ hρ Q F q=>by simp only [execOp,hρ x _ hx,hρ y _ hy,Zk,ZaF,binOp,ne_eq,not_true_eq_false,if_false,Op.intCmp,Zr];exact q) h
theorem Zt1 (hg:Zm ops S g=some true) (hd:ZC n dst=true) (hx:ev S x=some (.int k a)) (hy:ev S y=some (.int k b)) (h:K (.bool (decide (a=b))) D B L):opX P n ops i ⟨dst,.binOp .eql t x y u,ty,pos,after,g⟩ K S D B L:=
 ZV hg hd (fun ρ hρ Q F q=>by
  have e:(a == b)=decide (a=b):=by rw [Bool.eq_iff_iff];simp
  simp only [execOp,hρ x _ hx,hρ y _ hy,Zk,ZaF,binOp,ne_eq,not_true_eq_false,if_false,Op.intCmp,Zr,e];exact q) h
theorem ZtX (hg:Zm ops S g=some true) (hd:ZC n dst=true) (hx:ev S x=some (.int k a)) (hy:ev S y=some (.int k b)) (h:K (.bool (decide (a≠b))) D B L):opX P n ops i ⟨dst,.binOp .neq t x y u,ty,pos,after,g⟩ K S D B L:=
 ZV hg hd (fun ρ hρ Q F q=>by
  have e:(a != b)=decide (a≠b):=by rw [Bool.eq_iff_iff];simp
  simp only [execOp,hρ x _ hx,hρ y _ hy,Zk,ZaF,binOp,not_true_eq_false,ne_eq,if_false,Op.intCmp,Zr,e];exact q) h
end binary
end
end Go.BL
namespace Go.BL
open Go.Conc (G)
section
variable {P:PJ} {n:Nat} {ops:Array Oper} {i:Nat} {K:Zbl} {S:Env} {D:List Deferred} {B:Kn} {L:List Cells}
variable {dst:Option Tmp} {ty:TypeId} {pos:String} {after:Array Edge} {g:Option (Nat × Bool)}
theorem ZeD (L:List Cells) (s F:Cells):(s ++ (L.flatten ++ F)).Perm ((L ++ [s]).flatten ++ F):=by
 simp only [List.flatten_append,List.flatten_cons,List.flatten_nil,List.append_nil,List.append_assoc]
 exact List.perm_append_comm_assoc s L.flatten F
theorem Zai {t:TypeId} {z:Value} {l:List Value} (hg:Zm ops S g=some true) (hd:ZC n dst=true) (hz:ZaB P t=some z) (hl:z.cells=l.toArray)
  (h :∀b,K (ptr ⟨b,0,none⟩) D B (L ++ [Zah b l t])):opX P n ops i ⟨dst,.alloc t,ty,pos,after,g⟩ K S D B L:=
 Zd7 hg hd fun ρ hρ F=>by
  simp only [execOp,Instr.alloc,Zk,Zb0 hz,Zr]
  refine ⟨rfl,fun b _ _=>?_⟩
  refine ⟨L ++ [Zah b l t],?_,h b⟩
  rw [hl]
  exact .of (ZeD L (Zah b l t) F)
theorem Zwc {t:TypeId} {x:Operand} {v:Value} {l:List Value} (hg:Zm ops S g=some true) (hd:ZC n dst=true) (hx:ev S x=some v) (hl:v.cells=l.toArray)
  (h :∀b,K (ptr ⟨b,0,none⟩) D B (L ++ [Zah b l t])):opX P n ops i ⟨dst,.box t x,ty,pos,after,g⟩ K S D B L:=
 Zd7 hg hd fun ρ hρ F=>by
  simp only [execOp,Instr.box,Zk,hρ x _ hx,Zr]
  refine ⟨rfl,fun b _ _=>?_⟩
  refine ⟨L ++ [Zah b l t],?_,h b⟩
  rw [hl]
  exact .of (ZeD L (Zah b l t) F)
theorem Zf {t:TypeId} {x:Operand} {a:Addr} {v:Value} (hg:Zm ops S g=some true) (hd:ZC n dst=true) (hl:lk P t=some none) (hx:ev S x=some (ptr a)) (hc:At B L a v)
  (h:K v D B L):opX P n ops i ⟨dst,.load t x,ty,pos,after,g⟩ K S D B L:=
 ZV hg hd (fun ρ hρ Q F q=>by
  simp only [execOp,Instr.loadAt,Instr.sureAddr,hρ x _ hx,Zk,Zr]
  exact Zgj hl hc.app q) h
theorem ZT {t:TypeId} {x:Operand} {a:Addr} (vs:List Value) (hg:Zm ops S g=some true) (hd:ZC n dst=true) (hl:lk P t=some (some vs.length)) (hx:ev S x=some (ptr a)) (hc:Zsi B L a vs)
  (h:K (.agg vs.toArray) D B L):opX P n ops i ⟨dst,.load t x,ty,pos,after,g⟩ K S D B L:=
 ZV hg hd (fun ρ hρ Q F q=>by
  simp only [execOp,Instr.loadAt,Instr.sureAddr,hρ x _ hx,Zk,Zr]
  exact Zjn hl (fun j v hj=>(hc j v hj).app) q) h
theorem ZeN {s:TypeId} {x:Operand} {fi off:Nat} {a:Addr} (hg:Zm ops S g=some true) (hd:ZC n dst=true) (hf:ZP P s fi=some off) (hx:ev S x=some (ptr a))
  (h:K (ptr (a.add off)) D B L):opX P n ops i ⟨dst,.fieldAddr s x fi,ty,pos,after,g⟩ K S D B L:=
 ZV hg hd (fun ρ hρ Q F q=>by
  unfold ZP at hf
  split at hf
  ·rename_i fs hu
   split at hf
   ·rename_i f hfi
    split at hf
    ·rename_i j hj
     split at hf
     ·cases hf
     ·rename_i hsz
      simp only [Option.some.injEq] at hf
      have hs:Z8 P f.type=some j.size:=by simp [Z8,hj]
      simp only [execOp,Instr.fieldAt,Instr.sureAddr,hρ x _ hx,Zk,Zr,Zt hu,hfi,fieldPlace,ZaS hs,hsz,if_false,hf]
      exact q
    ·cases hf
   ·cases hf
  ·cases hf) h
theorem ZF {t:TypeId} {x y:Operand} {a:Addr} {v:Value} (vs:List Value) {l:List Value} {T:TypeId} {r:Cells} (j:Nat) (l':List Value) (hg:Zm ops S g=some true) (hd:ZC n dst=true) (hsz:Z8 P t=some vs.length)
  (hx:ev S x=some (ptr a)) (hy:ev S y=some v) (hv:v.cells=vs.toArray) (ho:vs.all ZgT=true) (hj:L[j]? = some ((a.block,.cells l.toArray T (0,0)) :: r)) (hs:a.spot=none) (hlen:Nat.ble (a.off+vs.length) l.length=true) (hl':Zav l a.off vs=l')
  (h:K undef D B (L.set j ((a.block,.cells l'.toArray T (0,0)) :: r))):opX P n ops i ⟨dst,.store t x y,ty,pos,after,g⟩ K S D B L:=
 Zd7 hg hd fun ρ hρ F=>by
  obtain ⟨rr,h1,h2⟩:=Zaa F ((a.block,.cells l'.toArray T (0,0)) :: r) hj
  have hcs:v.cells.size=vs.length:=by rw [hv];simp
  simp only [execOp,Instr.storeAt,Instr.sureAddr,hρ x _ hx,hρ y _ hy,Zk,Zr,storeVar,ZaS hsz,hcs,ne_eq,not_true_eq_false,if_false]
  rw [hv]
  refine ZcN (T:=T) (L₁:=r ++ rr) hs vs 0 l _ ho (by simpa using h1) (by simpa using Nat.le_of_ble_eq_true hlen) fun L' hp=>?_
  refine ⟨_,?_,h⟩
  rw [Nat.add_zero,hl'] at hp
  exact .of (hp.trans (by simpa using h2.symm))
theorem ZaJ {k:IntKind} {a:Int} {y:Nat} {code:BoundsCode} {Q:Nat→Kn→Cells→Prop} {L:Cells} (h0:0≤a) (h1:a≤y):hb P (Instr.sliceBound (.int k a) y code) Q B L=Q a.toNat B L:=by
 simp only [Instr.sliceBound,asIntOf,Zk,Zr,h0,h1,and_self,if_true]
theorem Zbf {t e:TypeId} {x y:Operand} {k:IntKind} {a:Addr} {len cap sz:Nat} {ix:Int} (hg:Zm ops S g=some true) (hd:ZC n dst=true) (hu:P.underlying t=some (.slice e)) (hsz:Z8 P e=some sz)
  (hx:ev S x=some (.slice (some a) len cap)) (hy:ev S y=some (.int k ix)) (h0:0≤ix) (h1:ix<len) (h:K (ptr (a.add (ix.toNat*sz))) D B L):opX P n ops i ⟨dst,.indexAddr t x y,ty,pos,after,g⟩ K S D B L:=
 ZV hg hd (fun ρ hρ Q F q=>by
  simp only [execOp,Instr.indexAt,asIntOf,hρ x _ hx,hρ y _ hy,Zk,Zr,Zt hu,h0,h1,and_self,if_true,ZaS hsz]
  exact q) h
theorem ZtB (l:List UInt8) (j:Nat):(ByteArray.mk l.toArray)[j]? = l[j]?:=by
 show (if h:j<(ByteArray.mk l.toArray).size then some ((ByteArray.mk l.toArray)[j]) else none)=_
 have hs:(ByteArray.mk l.toArray).size=l.length:=by simp [ByteArray.size]
 by_cases h:j<l.length
 ·rw [dif_pos (by rw [hs];exact h),List.getElem?_eq_getElem h];rfl
 ·rw [dif_neg (by rw [hs];exact h),List.getElem?_eq_none (by omega)]
theorem Zdm (l:List UInt8):(ByteArray.mk l.toArray).size=l.length:=by simp [ByteArray.size]
theorem ZeQ (l:List UInt8) (a b:Nat):(ByteArray.mk l.toArray).extract a b=⟨((l.take b).drop a).toArray⟩:=by
 apply ByteArray.ext
 apply Array.ext'
 rw [ByteArray.data_extract]
 simp [List.extract_eq_take_drop,List.drop_take]
theorem Zo0 (a b:List UInt8):(ByteArray.mk a.toArray) ++ (ByteArray.mk b.toArray)=⟨(a ++ b).toArray⟩:=by
 apply ByteArray.ext
 simp
theorem ZeM {t:TypeId} {x y:Operand} {k:IntKind} {l:List UInt8} {ix:Int} {c:UInt8} (hg:Zm ops S g=some true) (hd:ZC n dst=true) (hu:P.underlying t=some .string)
  (hx:ev S x=some (str l)) (hy:ev S y=some (.int k ix)) (h0:0≤ix) (h1:l[ix.toNat]? = some c) (h:K (.int .u8 c.toNat) D B L):opX P n ops i ⟨dst,.index t x y,ty,pos,after,g⟩ K S D B L:=
 ZV hg hd (fun ρ hρ Q F q=>by
  simp only [execOp,Instr.index,asIntOf,hρ x _ hx,hρ y _ hy,Zk,Zr,Zt hu,h0,if_true,ZtB,h1]
  exact q) h
theorem ZgB {t:TypeId} {x:Operand} {lo hi:Option Operand} {l:List UInt8} {a b:Nat} (hg:Zm ops S g=some true) (hd:ZC n dst=true) (hu:P.underlying t=some .string)
  (hx:ev S x=some (str l)) (hlo:match lo with | none=>a=0 | some o=>∃k,∃z:Int,ev S o=some (.int k z)∧z=a) (hhi:match hi with | none=>b=l.length | some o=>∃k,∃z:Int,ev S o=some (.int k z)∧z=b) (hab:a≤b) (hb':b≤l.length)
  (h:K (str ((l.take b).drop a)) D B L):opX P n ops i ⟨dst,.slice t x lo hi none,ty,pos,after,g⟩ K S D B L:=
 ZV hg hd (fun ρ hρ Q F q=>by
  have e1:(Zdm l)=Zdm l:=rfl
  cases lo with
  | none=>
   obtain rfl:a=0:=hlo
   cases hi with
   | none=>
    obtain rfl:b=l.length:=hhi
    simp only [execOp,Instr.sliceAt,Instr.slice,hρ x _ hx,Zk,Zr,Zt hu,Option.map_none,Option.isSome_none,Bool.false_eq_true,if_false,Instr.sliceBounds,Zdm,ZeQ]
    exact q
   | some o=>
    obtain ⟨k,z,hz,rfl⟩:=hhi
    simp only [execOp,Instr.sliceAt,Instr.slice,hρ x _ hx,hρ o _ hz,Zk,Zr,Zt hu,Option.map_none,Option.map_some,Option.isSome_none,Bool.false_eq_true,if_false,Instr.sliceBounds,Zdm,ZeQ]
    rw [ZaJ (by omega) (by omega)]
    simp only [Zk,Zr,Int.toNat_natCast]
    exact q
  | some p=>
   obtain ⟨k',y,hy,rfl⟩:=hlo
   cases hi with
   | none=>
    obtain rfl:b=l.length:=hhi
    simp only [execOp,Instr.sliceAt,Instr.slice,hρ x _ hx,hρ p _ hy,Zk,Zr,Zt hu,Option.map_none,Option.map_some,Option.isSome_none,Bool.false_eq_true,if_false,Instr.sliceBounds,Zdm,ZeQ]
    rw [ZaJ (by omega) (by omega)]
    simp only [Zk,Zr,Int.toNat_natCast]
    exact q
   | some o=>
    obtain ⟨k,z,hz,rfl⟩:=hhi
    simp only [execOp,Instr.sliceAt,Instr.slice,hρ x _ hx,hρ o _ hz,hρ p _ hy,Zk,Zr,Zt hu,Option.map_none,Option.map_some,Option.isSome_none,Bool.false_eq_true,if_false,Instr.sliceBounds,Zdm,ZeQ]
    rw [ZaJ (by omega) (by omega)]
    simp only [Zk,Int.toNat_natCast]
    rw [ZaJ (by omega) (by omega)]
    simp only [Zk,Zr,Int.toNat_natCast]
    exact q) h
theorem ZeK {t e:TypeId} {x:Operand} {lo hi:Option Operand} {p:Option Addr} {len cap sz:Nat} {a b:Nat} (hg:Zm ops S g=some true) (hd:ZC n dst=true) (hu:P.underlying t=some (.slice e)) (hsz:Z8 P e=some sz)
  (hx:ev S x=some (.slice p len cap)) (hlo:match lo with | none=>a=0 | some o=>∃k,∃z:Int,ev S o=some (.int k z)∧z=a) (hhi:match hi with | none=>b=len | some o=>∃k,∃z:Int,ev S o=some (.int k z)∧z=b) (hab:a≤b) (hb':b≤cap)
  (h:K (.slice (if cap=a then p else p.map (·.add (a*sz))) (b - a) (cap - a)) D B L):opX P n ops i ⟨dst,.slice t x lo hi none,ty,pos,after,g⟩ K S D B L:=
 ZV hg hd (fun ρ hρ Q F q=>by
  cases lo with
  | none=>
   obtain rfl:a=0:=hlo
   cases hi with
   | none=>
    obtain rfl:b=len:=hhi
    simp only [execOp,Instr.sliceAt,Instr.slice,hρ x _ hx,Zk,Zr,Zt hu,Option.map_none,Instr.sliceBounds,ZaS hsz]
    exact q
   | some o=>
    obtain ⟨k,z,hz,rfl⟩:=hhi
    simp only [execOp,Instr.sliceAt,Instr.slice,hρ x _ hx,hρ o _ hz,Zk,Zr,Zt hu,Option.map_none,Option.map_some,Instr.sliceBounds,ZaS hsz]
    rw [ZaJ (by omega) (by omega)]
    simp only [Zk,Zr,Int.toNat_natCast,ZaS hsz]
    exact q
  | some r=>
   obtain ⟨k',y,hy,rfl⟩:=hlo
   cases hi with
   | none=>
    obtain rfl:b=len:=hhi
    simp only [execOp,Instr.sliceAt,Instr.slice,hρ x _ hx,hρ r _ hy,Zk,Zr,Zt hu,Option.map_none,Option.map_some,Instr.sliceBounds,ZaS hsz]
    rw [ZaJ (by omega) (by omega)]
    simp only [Zk,Zr,Int.toNat_natCast,ZaS hsz]
    exact q
   | some o=>
    obtain ⟨k,z,hz,rfl⟩:=hhi
    simp only [execOp,Instr.sliceAt,Instr.slice,hρ x _ hx,hρ o _ hz,hρ r _ hy,Zk,Zr,Zt hu,Option.map_none,Option.map_some,Instr.sliceBounds,ZaS hsz]
    rw [ZaJ (by omega) (by omega)]
    simp only [Zk,Int.toNat_natCast]
    rw [ZaJ (by omega) (by omega)]
    simp only [Zk,Zr,Int.toNat_natCast,ZaS hsz]
    exact q) h
section calls
variable {args:Array Operand} {ats:Array TypeId}
theorem Zn6 {x:Operand} {t:TypeId} {l:List UInt8} (hg:Zm ops S g=some true) (hd:ZC n dst=true) (hu:P.underlying t=some .string) (hx:ev S x=some (str l)) (h:K (.int .i64 l.length) D B L) :
  opX P n ops i ⟨dst,.call ⟨.builtin .len,#[x],#[t]⟩,ty,pos,after,g⟩ K S D B L:=
 ZV hg hd (fun ρ hρ Q F q=>by
  simp only [execOp,resolve,Zk,Zr,invoke,builtin,Builtin.len_,List.map_toArray,List.map_cons,List.map_nil,hρ x _ hx,List.getElem?_toArray,List.getElem?_cons_zero,Zt hu,goInt,Zdm]
  exact q) h
theorem ZtZ {x:Operand} {t e:TypeId} {p:Option Addr} {len cap:Nat} (hg:Zm ops S g=some true) (hd:ZC n dst=true) (hu:P.underlying t=some (.slice e)) (hx:ev S x=some (.slice p len cap)) (h:K (.int .i64 len) D B L) :
  opX P n ops i ⟨dst,.call ⟨.builtin .len,#[x],#[t]⟩,ty,pos,after,g⟩ K S D B L:=
 ZV hg hd (fun ρ hρ Q F q=>by
  simp only [execOp,resolve,Zk,Zr,invoke,builtin,Builtin.len_,List.map_toArray,List.map_cons,List.map_nil,hρ x _ hx,List.getElem?_toArray,List.getElem?_cons_zero,Zt hu,goInt]
  exact q) h
end calls
section strings
variable {t u:TypeId} {x y:Operand} {a b:List UInt8}
theorem Zun (hg:Zm ops S g=some true) (hd:ZC n dst=true) (hx:ev S x=some (str a)) (hy:ev S y=some (str b)) (hlen:a.length+b.length≤9223372036854775807) (h:K (str (a ++ b)) D B L):opX P n ops i ⟨dst,.binOp .add t x y u,ty,pos,after,g⟩ K S D B L:=
 ZV hg hd (fun ρ hρ Q F q=>by
  have hno : ¬ ((((ByteArray.mk a.toArray).size+(ByteArray.mk b.toArray).size:Nat):Int) > IntKind.i64.max):=by
   rw [Zdm,Zdm];simp only [IntKind.max,IntKind.signed,IntKind.bits];omega
  simp only [execOp,hρ x _ hx,hρ y _ hy,Zk,ZaF,binOp,Op.stringOp,hno,if_false,Zr,Zo0]
  exact q) h
theorem Zt0 (hg:Zm ops S g=some true) (hd:ZC n dst=true) (hx:ev S x=some (str a)) (hy:ev S y=some (str b)) (h:K (.bool (decide (a=b))) D B L):opX P n ops i ⟨dst,.binOp .eql t x y u,ty,pos,after,g⟩ K S D B L:=
 ZV hg hd (fun ρ hρ Q F q=>by
  have e:(a == b)=decide (a=b):=by rw [Bool.eq_iff_iff];simp
  simp only [execOp,hρ x _ hx,hρ y _ hy,Zk,ZaF,binOp,Op.stringOp,ByteArray.toList_mk,Zr,e]
  exact q) h
theorem ZtW (hg:Zm ops S g=some true) (hd:ZC n dst=true) (hx:ev S x=some (str a)) (hy:ev S y=some (str b)) (h:K (.bool (decide (a≠b))) D B L):opX P n ops i ⟨dst,.binOp .neq t x y u,ty,pos,after,g⟩ K S D B L:=
 ZV hg hd (fun ρ hρ Q F q=>by
  have e:(!(a == b))=decide (a≠b):=by rw [Bool.eq_iff_iff];simp
  simp only [execOp,hρ x _ hx,hρ y _ hy,Zk,ZaF,binOp,Op.stringOp,ByteArray.toList_mk,Zr,e]
  exact q) h
theorem ZtY (hg:Zm ops S g=some true) (hd:ZC n dst=true) (hx:ev S x=some (str a)) (hy:ev S y=some (str b)) (h:K (.bool (Op.bytesLess a b || decide (a=b))) D B L):opX P n ops i ⟨dst,.binOp .leq t x y u,ty,pos,after,g⟩ K S D B L:=
 ZV hg hd (fun ρ hρ Q F q=>by
  have e:(a == b)=decide (a=b):=by rw [Bool.eq_iff_iff];simp
  simp only [execOp,hρ x _ hx,hρ y _ hy,Zk,ZaF,binOp,Op.stringOp,ByteArray.toList_mk,Zr,e]
  exact q) h
theorem Zv3 (hg:Zm ops S g=some true) (hd:ZC n dst=true) (hx:ev S x=some (str a)) (hy:ev S y=some (str b)) (h:K (.bool (Op.bytesLess a b)) D B L):opX P n ops i ⟨dst,.binOp .lss t x y u,ty,pos,after,g⟩ K S D B L:=
 ZV hg hd (fun ρ hρ Q F q=>by
  simp only [execOp,hρ x _ hx,hρ y _ hy,Zk,ZaF,binOp,Op.stringOp,ByteArray.toList_mk,Zr]
  exact q) h
theorem Zqk (hg:Zm ops S g=some true) (hd:ZC n dst=true) (hx:ev S x=some (str a)) (hy:ev S y=some (str b)) (h:K (.bool (!Op.bytesLess a b)) D B L):opX P n ops i ⟨dst,.binOp .geq t x y u,ty,pos,after,g⟩ K S D B L:=
 ZV hg hd (fun ρ hρ Q F q=>by
  simp only [execOp,hρ x _ hx,hρ y _ hy,Zk,ZaF,binOp,Op.stringOp,ByteArray.toList_mk,Zr]
  exact q) h
end strings
theorem Zo {K:Zao} {o:Oper} {l:List Oper} {d:Nat} {t:Bool} (hb:get S d=some (.bool t)) (h1:t=true→Zp4 P n ops i (o :: l) K ((d,.bool true) :: S) D B L) (h2:t=false→Zp4 P n ops i (o :: l) K ((d,.bool false) :: S) D B L):Zp4 P n ops i (o :: l) K S D B L:=by
 have key :∀(S':Env),(∀i v,get S' i=some v→get S i=some v)→Zp4 P n ops i (o :: l) K S' D B L→Zp4 P n ops i (o :: l) K S D B L:=
  fun S' hs h C todo k T ho hn hT hA=>h C todo k T ho hn (fun i v hv=>hT i v (hs i v hv)) hA
 have get_same :∀(u:Bool),t=u→∀i v,get ((d,Value.bool u) :: S) i=some v→get S i=some v:=by
  intro u hu i v hv
  simp only [get] at hv
  cases hbe:Nat.beq d i with
  | true=>
   rw [hbe] at hv
   simp only [cond_true,Option.some.injEq] at hv
   have:=Nat.eq_of_beq_eq_true hbe
   subst this;subst hu;rw [hb,← hv]
  | false=>rw [hbe] at hv;exact hv
 cases t with
 | true=>exact key _ (get_same true rfl) (h1 rfl)
 | false=>exact key _ (get_same false rfl) (h2 rfl)
end
end Go.BL
namespace Go.BL
open Go.Conc (G)
def Bk (kind:CallKind) (c:Frame):Prop:=kind = .normal∨(kind = .deferred∧(c.mode = .returning∨c.mode = .panicking [goexitEntry]))
def ZfY (kind:CallKind) (c:Frame) (v:Value):Frame:=match kind with | .deferred=>c | _=>c.finish v
def Zv (P:PJ) (f:FuncId) (args:List Value) (B:Kn) (Ls:List Cells) (Post:Value→Kn→List Cells→Prop):Prop:=
∀(X:Lg P) (kind:CallKind) (c:Frame) (cs:List Frame) (F:Cells),Bk kind c→
  (∀v B' Ls',B.le B'→Post v B' Ls'→X.R (G (ZfY kind c v) cs) B' (Ls'.flatten ++ F))→X.R (G (Frame.enter P f args.toArray kind) (c :: cs)) B (Ls.flatten ++ F)
theorem Zv.mono {P:PJ} {f:FuncId} {args:List Value} {B:Kn} {Ls:List Cells} {Post Post':Value→Kn→List Cells→Prop} (h:Zv P f args B Ls Post) (hp :∀v B' Ls',B.le B'→Post v B' Ls'→Post' v B' Ls'):Zv P f args B Ls Post':=
 fun X kind c cs F hk hA=>h X kind c cs F hk fun v B' Ls' hle hq=>hA v B' Ls' hle (hp v B' Ls' hle hq)
def Zdd:List Value→Nat→Env
 | [],_=>[]
 | v :: vs,i=>(i,v) :: Zdd vs (i+1)
theorem ZdE :∀(vs:List Value) (i j:Nat) (v:Value),get (Zdd vs i) j=some v→i≤j∧vs[j - i]? = some v
 | [],i,j,v,h=>by cases h
 | u :: vs,i,j,v,h=>by
  simp only [Zdd,get] at h
  cases hb:Nat.beq i j with
  | true=>
   rw [hb] at h
   have:=Nat.eq_of_beq_eq_true hb
   subst this
   simp only [cond_true,Option.some.injEq] at h
   exact ⟨Nat.le_refl _,by simp [h]⟩
  | false=>
   rw [hb] at h
   obtain ⟨h1,h2⟩:=ZdE vs (i+1) j v h
   refine ⟨by omega,?_⟩
   rw [show j - i=(j - (i+1))+1 from by omega]
   simpa using h2
def ZqO (P:Program) (S:Env) (B:Kn) (L:List Cells):ResultVar→Value→Prop
 | .tmp t,v=>get S t=some v
 | .cell a t,v=>∃ad,get S a=some (ptr ad)∧((lk P t=some none∧At B L ad v)∨∃vs:List Value,lk P t=some (some vs.length)∧Zsi B L ad vs∧v = .agg vs.toArray)
def Zc7 (P:Program) (S:Env) (B:Kn) (L:List Cells):List ResultVar→List Value→Prop
 | [],[]=>True
 | r :: rs,v :: vs=>ZqO P S B L r v∧Zc7 P S B L rs vs
 | _,_=>False
def ZdL:List Value→Value
 | [v]=>v
 | vs=>.tuple vs.toArray
theorem ZqN {P:Program} {T:Array Value} {S:Env} {B:Kn} {L:List Cells} {F:Cells} (hT:Ag T S) {r:ResultVar} {v:Value} (h:ZqO P S B L r v) {Q:Value→Kn→Cells→Prop} (q:Q v B (L.flatten ++ F)) :
  hb P (match r with | .tmp t=>Pure.pure (T.getD t undef) | .cell a t=>do loadVar t (← asAddr (T.getD a undef))) Q B (L.flatten ++ F):=by
 cases r with
 | tmp t=>
  have:=hT t v h
  simp only [Zr,Array.getD_eq_getD_getElem?,this,Option.getD_some]
  exact q
 | cell a t=>
  obtain ⟨ad,ha,h⟩:=h
  have:=hT a _ ha
  simp only [Zk,Array.getD_eq_getD_getElem?,this,Option.getD_some,asAddr,Zr]
  rcases h with ⟨hl,hc⟩ | ⟨vs,hl,hc,rfl⟩
  ·exact Zgj hl hc.app q
  ·exact Zjn hl (fun j v hj=>(hc j v hj).app) q
theorem Zrq {P:Program} {α β:Type} {f:α→Sem β} {B:Kn} {L:Cells} {Q:List β→Kn→Cells→Prop} :∀(xs:List α) (ys:List β),xs.length=ys.length→
  (∀(i:Nat) (x:α) (y:β),xs[i]? = some x→ys[i]? = some y→∀Q:β→Kn→Cells→Prop,Q y B L→hb P (f x) Q B L)→Q ys B L→hb P (xs.mapM f) Q B L
 | [],[],_,_,q=>by rw [List.mapM_nil];exact q
 | x :: xs,y :: ys,hl,h,q=>by
  rw [List.mapM_cons,Zk]
  refine h 0 x y (by simp) (by simp) _ ?_
  rw [Zk]
  refine Zrq xs ys (by simpa using hl) (fun i x y hx hy=>h (i+1) x y (by simpa using hx) (by simpa using hy)) ?_
  exact q
 | [],_ :: _,hl,_,_=>by cases hl
 | _ :: _,[],hl,_,_=>by cases hl
theorem Zkm {P:Program} {S:Env} {B:Kn} {L:List Cells} :∀{rs:List ResultVar} {vs:List Value},Zc7 P S B L rs vs→rs.length=vs.length
 | [],[],_=>rfl
 | _ :: _,_ :: _,h=>by simp [Zkm h.2]
 | [],_ :: _,h=>h.elim
 | _ :: _,[],h=>h.elim
theorem Zkn {P:Program} {S:Env} {B:Kn} {L:List Cells} :∀{rs:List ResultVar} {vs:List Value},Zc7 P S B L rs vs→∀(i:Nat) (r:ResultVar) (v:Value),rs[i]? = some r→vs[i]? = some v→ZqO P S B L r v
 | [],[],_,i,r,v,hr,_=>by simp at hr
 | r :: rs,v :: vs,h,0,r',v',hr,hv=>by
  simp only [List.getElem?_cons_zero,Option.some.injEq] at hr hv
  subst hr;subst hv;exact h.1
 | r :: rs,v :: vs,h,i+1,r',v',hr,hv=>Zkn h.2 i r' v' (by simpa using hr) (by simpa using hv)
 | [],_ :: _,h,_,_,_,_,_=>h.elim
 | _ :: _,[],h,_,_,_,_,_=>h.elim
theorem Zpa {P:Program} {fn:Func} {T:Array Value} {S:Env} {B:Kn} {L:List Cells} {F:Cells} (hT:Ag T S) {vs:List Value} (h:Zc7 P S B L fn.results.toList vs) {Q:Value→Kn→Cells→Prop} (q:Q (ZdL vs) B (L.flatten ++ F)) :
  hb P (results fn T) Q B (L.flatten ++ F):=by
 unfold results
 rw [Array.mapM_eq_mapM_toList]
 simp only [Zk,Zt7]
 refine Zrq fn.results.toList vs (Zkm h) (fun i r v hr hv Q q=>?_) ?_
 ·have:=ZqN (F:=F) hT (Zkn h i r v hr hv) q
  cases r <;> exact this
 ·simp only [Zr]
  match vs,q with
  | [],q=>exact q
  | [v],q=>exact q
  | v :: u :: r,q=>exact q
def Zfz (P:PJ) (rs:List ResultVar) (Post:Value→Kn→List Cells→Prop):Exit→Zao:=fun e S D B L=>
 (e = .ret∨e = .normal)∧D=[]∧∃vs Lr,Zc7 P S B L rs vs∧(∃gl,L.flatten.Perm (Lr.flatten ++ gl))∧Post (ZdL vs) B Lr
theorem ZnY {P:PJ} {main:Bool} {kind:CallKind} {fr c:Frame} {cs:List Frame} {v:Value} {w:World} (hk:Bk kind c) (hf:fr.kind=kind):doReturn P main fr (c :: cs) none v w = .go (G (ZfY kind c v) cs) w #[]:=by
 rcases hk with rfl | ⟨rfl,hm | hm⟩
 ·simp [doReturn,hf,ZfY,G]
 ·simp [doReturn,hf,ZfY,G,hm]
 ·simp [doReturn,hf,ZfY,G,hm,goexitEntry]
theorem Zex {P:PJ} {X:Lg P} {f:FuncId} {fn:Func} (hf:P.funcs[f]? = some fn) {kind:CallKind} {c fr:Frame} {cs:List Frame} (hk:Bk kind c) (h1:fr.fn=f) (h2:fr.mode = .returning) (h3:fr.defers=[]) (h4:fr.kind=kind)
  {S:Env} {B:Kn} {L Lr:List Cells} {F:Cells} (hT:Ag fr.tmps S) {vs:List Value} (hr:Zc7 P S B L fn.results.toList vs) {gl:Cells} (hp:L.flatten.Perm (Lr.flatten ++ gl))
  (h:X.R (G (ZfY kind c (ZdL vs)) cs) B (Lr.flatten ++ F)):X.R (G fr (c :: cs)) B (L.flatten ++ F):=by
 refine X.step rfl fun w s=>?_
 have hres:hb P (results fn fr.tmps) (fun v B' L'=>v=ZdL vs∧B'=B∧L'=L.flatten ++ F) B (L.flatten ++ F):=Zpa hT hr ⟨rfl,rfl,rfl⟩
 obtain ⟨a,w',es,B',L',e1,e2,e3,rfl,rfl,rfl⟩:=ZcO _ _ _ _ hres w #[] s
 obtain ⟨r1,r2⟩:=ZbE e1
 refine ⟨G (ZfY kind c (ZdL vs)) cs,w',seen P fr.fn (#[] ++ es),B',L.flatten ++ F,?_,fun e he=>e2 e (by simpa using Zcl he),e3,?_⟩
 ·rw [← r2]
  have hd:doReturn P X.main fr (c :: cs) none (ZdL vs) w' = .go (G (ZfY kind c (ZdL vs)) cs) w' #[]:=ZnY hk h4
  simp [G,stepG,h2,unwind,h3,h1,hf,r1,GStep.after,hd]
 ·exact X.drop (r:=Lr.flatten ++ F) (gl:=gl) ((hp.append_right F).trans (by rw [List.append_assoc,List.append_assoc];exact List.Perm.append_left _ List.perm_append_comm)) h
theorem ZeX {P:PJ} {f:FuncId} {fn:Func} {code:Code} {rs:List ResultVar} (n:Nat) (hf:P.funcs[f]? = some fn) (hb:fn.body=some code) (hn:fn.ntmps=n) (hrs:fn.results.toList=rs) {args:List Value} (ha:args.length≤n) {B:Kn} {Ls:List Cells} {Post:Value→Kn→List Cells→Prop}
  (h:wpS P n code (Zfz P rs Post) (Zdd args 0) [] B Ls):Zv P f args B Ls Post:=fun X kind c cs F hk hA=>by
 have hke:kind≠.early:=by rcases hk with rfl | ⟨rfl,_⟩ <;> simp
 let b0:Frame:={ fn:=f,tmps:=#[],todo:=[],defers:=[],mode:=.run,kind:=kind }
 let T0:Array Value:=args.toArray ++ Array.replicate (n - args.length) undef
 have hen:Frame.enter P f args.toArray kind=fat b0 T0 [] [.code code]:=by
  simp [Frame.enter,fat,hf,hb,hn,b0,T0]
 rw [hen]
 have hT:Ag T0 (Zdd args 0):=fun i v hv=>by
  obtain ⟨_,h2⟩:=ZdE args 0 i v hv
  have hlt:=Z6 (a:=args.toArray) (i:=i) (x:=v) (by simpa using h2)
  simp only [T0]
  rw [Array.getElem?_append_left hlt]
  simpa using h2
 refine h ⟨X,b0,c :: cs,F,hke⟩ [] T0 (by simp [T0];omega) hT fun e S' D' B' L' T' hle hq hn' hT'=>?_
 obtain ⟨he,rfl,vs,Lr,hr,⟨gl,hp⟩,hq⟩:=hq
 rw [← hrs] at hr
 rcases he with rfl | rfl
 ·refine ⟨rfl,fun todo=>?_⟩
  exact Zex hf hk rfl rfl rfl rfl hT' hr hp (hA _ B' Lr hle hq)
 ·exact X.ctl rfl (fun w=>Zoe rfl) (Zex hf hk rfl rfl rfl rfl hT' hr hp (hA _ B' Lr hle hq))
section
variable {P:PJ} {n:Nat} {ops:Array Oper} {i:Nat} {K:Zbl} {S:Env} {D:List Deferred} {B:Kn} {L:List Cells}
variable {dst:Option Tmp} {ty:TypeId} {pos:String} {after:Array Edge} {g:Option (Nat × Bool)}
def enters (P:Program) (f:FuncId):Bool:=
 match P.funcs[f]? with
 | some fn=>fn.body.isSome && !(fn.name == "runtime.NumGoroutine")
 | none=>false
theorem Zgq {f:FuncId} {args:Array Value} (h:enters P f=true) {Q:Next→Kn→Cells→Prop} {L:Cells} (q:Q (.enter f args) B L):hb P (callFunc f args) Q B L:=by
 unfold enters at h
 split at h
 ·rename_i fn hf
  simp only [Bool.and_eq_true,Bool.not_eq_true'] at h
  obtain ⟨h1,h2⟩:=h
  have h1':fn.body.isNone=false:=by cases hb:fn.body <;> simp_all
  simp only [callFunc,Zk,ZbL,hf,h2,h1',Bool.false_eq_true,if_false,Zr]
  exact q
 ·cases h
theorem Zet {o:Oper} {f:FuncId} {vs:List Value} (hg:Zm ops S o.guard=some true)
  (hv :∀ρ:Operand→Value,(∀x u,ev S x=some u→ρ x=u)→∀(Q:Next→Kn→Cells→Prop) F,Q (.enter f vs.toArray) B (L.flatten ++ F)→hb P (execOp ρ o) Q B (L.flatten ++ F))
  (hd:ZC n o.dst=true) {Ls Lk:List Cells} (hp:L.flatten.Perm (Ls.flatten ++ Lk.flatten)) {Post:Value→Kn→List Cells→Prop} (hc:Zv P f vs B Ls Post)
  (h :∀v B' Ls',B.le B'→Post v B' Ls'→∃L',(Ls'.flatten ++ Lk.flatten).Perm L'.flatten∧K v D B' L') (hnd:Zi9 o.op=false:=by rfl):opX P n ops i o K S D B L:=⟨hd,fun C todo k T ho hn hT hA=>by
 refine C.X.step rfl fun w s=>?_
 obtain ⟨a,w',es,B',L',h1,h2,h3,rfl,rfl,rfl⟩:=ZcO _ _ _ _ (hv (evT T) (fun x v hx=>Zfu hT hx) (fun nx B' L'=>nx = .enter f vs.toArray∧B'=B∧L'=L.flatten ++ C.F) C.F ⟨rfl,rfl,rfl⟩) w #[] s
 simp only [Array.empty_append] at h1
 rw [ZkW hnd ho (Zci hT hg)]
 have hk:(fat C.b T D (.inRegion ops (i :: todo) :: k)).kind≠.early:=C.early
 refine ⟨_,w',_,B',L.flatten ++ C.F,Zgt hk (by intro a b c d r;simp [fat]) h1,fun e he=>h2 e (Zcl he),h3,?_⟩
 have hp':(L.flatten ++ C.F).Perm (Ls.flatten ++ (Lk.flatten ++ C.F)):=by rw [← List.append_assoc];exact hp.append_right _
 refine C.X.perm hp' (hc C.X .normal _ C.cs (Lk.flatten ++ C.F) (.inl rfl) fun v B₂ Ls' hle hq=>?_)
 obtain ⟨L₂,hp₂,hK⟩:=h v B₂ Ls' hle hq
 show C.X.R (G ((fat C.b T D (.inRegion ops (i :: todo) :: k)).finish v) C.cs) B₂ _
 rw [ZfH ho]
 refine C.X.perm ?_ (hA v D B₂ L₂ hle hK)
 rw [← List.append_assoc]
 exact hp₂.append_right _⟩
theorem ZbB {ρ:Operand→Value} (hρ :∀x u,ev S x=some u→ρ x=u) :∀{xs:List Operand} {vs:List Value},evs S xs=some vs→xs.map ρ=vs
 | [],vs,hx=>by simpa [evs] using hx
 | x :: r,vs,hx=>by
  simp only [evs] at hx
  cases h1:ev S x with
  | none=>rw [h1] at hx;cases hx
  | some v=>
   cases h2:evs S r with
   | none=>rw [h1,h2] at hx;cases hx
   | some us=>
    rw [h1,h2] at hx
    simp only [Option.some.injEq] at hx
    subst hx
    simp [hρ x v h1,ZbB hρ h2]
theorem ZeY {x:Operand} {f:FuncId} {first cap:Array Value} {xs:List Operand} {vs:List Value} {ats:Array TypeId} (he:enters P f=true) (hx:ev S x=some (.func (.func f) first cap)) (ha:evs S xs=some vs) :
∀ρ:Operand→Value,(∀x u,ev S x=some u→ρ x=u)→∀(Q:Next→Kn→Cells→Prop) F,Q (.enter f (first.toList ++ vs ++ cap.toList).toArray) B (L.flatten ++ F)→hb P (execOp ρ ⟨dst,.call ⟨.value x,xs.toArray,ats⟩,ty,pos,after,g⟩) Q B (L.flatten ++ F):=by
 intro ρ hρ Q F q
 simp only [execOp,resolve,hρ x _ hx,Deferred.ofValue,Zk,Zr,invoke]
 refine Zgq he ?_
 rw [List.map_toArray,ZbB hρ ha]
 have e:(first ++ vs.toArray) ++ cap=(first.toList ++ vs ++ cap.toList).toArray:=by apply Array.ext';simp
 rw [e]
 exact q
theorem Zbs {f:FuncId} {xs:List Operand} {vs:List Value} {ats:Array TypeId} {Post:Value→Kn→List Cells→Prop} (hg:Zm ops S g=some true) (hd:ZC n dst=true) (he:enters P f=true) (ha:evs S xs=some vs) (hc:Zv P f vs B [] Post)
  (h :∀v B' Ls',B.le B'→Post v B' Ls'→K v D B' (L ++ Ls')):opX P n ops i ⟨dst,.call ⟨.value (.func f),xs.toArray,ats⟩,ty,pos,after,g⟩ K S D B L:=
 Zet (o:=⟨dst,.call ⟨.value (.func f),xs.toArray,ats⟩,ty,pos,after,g⟩) (vs:=vs) hg (fun ρ hρ Q F q=>by
   have:=ZeY (P:=P) (B:=B) (L:=L) (dst:=dst) (ty:=ty) (pos:=pos) (after:=after) (g:=g) (x:=.func f) (first:=#[]) (cap:=#[]) (ats:=ats) he rfl ha ρ hρ Q F
   exact this (by simpa using q)) hd (Ls:=[]) (Lk:=L) (by simp) hc
  fun v B' Ls' hle hq=>⟨L ++ Ls',by simp only [List.flatten_append];exact List.perm_append_comm,h v B' Ls' hle hq⟩
theorem ZgQ {L:List Cells} {j:Nat} {s:Cells} (hj:L[j]? = some s):L.flatten.Perm ([s].flatten ++ (L.set j []).flatten):=by
 obtain ⟨r,h1,h2⟩:=Zaa [] [] hj
 simp only [List.append_nil,List.nil_append] at h1 h2
 simp only [List.flatten_cons,List.flatten_nil,List.append_nil]
 exact h1.trans (List.Perm.append_left s h2.symm)
theorem ZsH {L:List Cells} {j:Nat} {s s':Cells} (hj:L[j]? = some s):([s'].flatten ++ (L.set j []).flatten).Perm (L.set j s').flatten:=by
 obtain ⟨r,h1,h2⟩:=Zaa [] s' hj
 obtain ⟨r',h1',h2'⟩:=Zaa [] [] hj
 simp only [List.append_nil,List.nil_append] at h1 h2 h1' h2'
 simp only [List.flatten_cons,List.flatten_nil,List.append_nil]
 have:r.Perm r':=(List.perm_append_left_iff s).1 (h1.symm.trans h1')
 exact (List.Perm.append_left s' (h2'.trans this.symm)).trans h2.symm
theorem Zqn {f:FuncId} {xs:List Operand} {vs:List Value} {ats:Array TypeId} {Post:Value→Kn→List Cells→Prop} (j:Nat) {s:Cells} (hj:L[j]? = some s) (hg:Zm ops S g=some true) (hd:ZC n dst=true) (he:enters P f=true) (ha:evs S xs=some vs) (hc:Zv P f vs B [s] Post)
  (h :∀v B' Ls',B.le B'→Post v B' Ls'→∃s' r,Ls'=s' :: r∧K v D B' (L.set j s' ++ r)):opX P n ops i ⟨dst,.call ⟨.value (.func f),xs.toArray,ats⟩,ty,pos,after,g⟩ K S D B L:=
 Zet (o:=⟨dst,.call ⟨.value (.func f),xs.toArray,ats⟩,ty,pos,after,g⟩) (vs:=vs) hg (fun ρ hρ Q F q=>by
   have:=ZeY (P:=P) (B:=B) (L:=L) (dst:=dst) (ty:=ty) (pos:=pos) (after:=after) (g:=g) (x:=.func f) (first:=#[]) (cap:=#[]) (ats:=ats) he rfl ha ρ hρ Q F
   exact this (by simpa using q)) hd (Ls:=[s]) (Lk:=L.set j []) (ZgQ hj) hc
  fun v B' Ls' hle hq=>by
   obtain ⟨s',r,rfl,hK⟩:=h v B' Ls' hle hq
   refine ⟨L.set j s' ++ r,?_,hK⟩
   have e:(s' :: r).flatten ++ (L.set j []).flatten=s' ++ (r.flatten ++ (L.set j []).flatten):=by simp
   rw [e,List.flatten_append]
   refine (List.Perm.append_left s' List.perm_append_comm).trans ?_
   rw [← List.append_assoc]
   exact List.Perm.append_right _ (by simpa using ZsH (s':=s') hj)
end
end Go.BL
namespace Go.BL
def ZaM (P:PJ) (f:FuncId) (vs:List Value) (B:Kn) (v:Value):Prop:=Zv P f vs B [] fun v' B' Ls=>v'=v∧B'=B∧Ls=[]
section
variable {P:PJ} {n:Nat} {ops:Array Oper} {i:Nat} {K:Zbl} {S:Env} {D:List Deferred} {B:Kn} {L:List Cells}
variable {dst:Option Tmp} {ty:TypeId} {pos:String} {after:Array Edge} {g:Option (Nat × Bool)}
theorem Zbc {f:FuncId} {xs:List Operand} {vs:List Value} {ats:Array TypeId} {v:Value} (hg:Zm ops S g=some true) (hd:ZC n dst=true) (he:enters P f=true) (ha:evs S xs=some vs) (hc:ZaM P f vs B v)
  (h:K v D B L):opX P n ops i ⟨dst,.call ⟨.value (.func f),xs.toArray,ats⟩,ty,pos,after,g⟩ K S D B L:=
 Zbs hg hd he ha hc fun v' B' Ls' hle ⟨h1,h2,h3⟩=>by subst h1;subst h2;subst h3;rw [List.append_nil];exact h
theorem Zvl {rs:List ResultVar} {Post:Value→Kn→List Cells→Prop} (e:Exit) (he:e = .ret∨e = .normal) (vs:List Value) (hr:Zc7 P S B L rs vs) (hp:Post (ZdL vs) B []):Zfz P rs Post e S [] B L:=
 ⟨he,rfl,vs,[],hr,⟨L.flatten,by simp⟩,hp⟩
end
theorem Zh {a b:Bool} (h:a=b):Value.bool a=Value.bool b:=by rw [h]
theorem Za1 {k:IntKind} {a b:Int} (h:a=b):Value.int k a=Value.int k b:=by rw [h]
theorem Zwp {a b:List UInt8} (h:a=b):str a=str b:=by rw [h]
theorem Za9 {n:Int} (h1 : -9223372036854775808≤n) (h2:n≤9223372036854775807):IntKind.wrap .i64 n=n:=IntWalk.i64_in n ⟨h1,h2⟩
def Zuf (P:PJ) (f:FuncId) (vs:List Value) (B:Kn) (s:Cells) (v:Value) (s':Cells):Prop:=Zv P f vs B [s] fun v' B' Ls=>v'=v∧B'=B∧Ls=[s']
section
variable {P:PJ} {n:Nat} {ops:Array Oper} {i:Nat} {K:Zbl} {S:Env} {D:List Deferred} {B:Kn} {L:List Cells}
variable {dst:Option Tmp} {ty:TypeId} {pos:String} {after:Array Edge} {g:Option (Nat × Bool)}
theorem Zj9 {f:FuncId} {xs:List Operand} {vs:List Value} {ats:Array TypeId} {v:Value} (j:Nat) {s s':Cells} (hj:L[j]? = some s) (hg:Zm ops S g=some true) (hd:ZC n dst=true) (he:enters P f=true) (ha:evs S xs=some vs) (hc:Zuf P f vs B s v s')
  (h:K v D B (L.set j s')):opX P n ops i ⟨dst,.call ⟨.value (.func f),xs.toArray,ats⟩,ty,pos,after,g⟩ K S D B L:=
 Zqn j hj hg hd he ha hc fun v' B' Ls' hle ⟨h1,h2,h3⟩=>by subst h1;subst h2;subst h3;exact ⟨s',[],rfl,by rw [List.append_nil];exact h⟩
theorem ZgJ {L:List Cells} {j:Nat} {s:Cells} (hj:L[j]? = some s):L.set j s=L:=by
 apply List.ext_getElem?
 intro i
 rw [List.getElem?_set]
 split
 ·rename_i h;subst h
  split
  ·exact hj.symm
  ·rename_i hlt;rw [List.getElem?_eq_none (by omega)]
 ·rfl
theorem ZhH {f:FuncId} {xs:List Operand} {vs:List Value} {ats:Array TypeId} {v:Value} (j:Nat) {s:Cells} (hj:L[j]? = some s) (hg:Zm ops S g=some true) (hd:ZC n dst=true) (he:enters P f=true) (ha:evs S xs=some vs) (hc:Zuf P f vs B s v s)
  (h:K v D B L):opX P n ops i ⟨dst,.call ⟨.value (.func f),xs.toArray,ats⟩,ty,pos,after,g⟩ K S D B L:=
 Zj9 j hj hg hd he ha hc (by rw [ZgJ hj];exact h)
theorem Zsm {rs:List ResultVar} {Post:Value→Kn→List Cells→Prop} (e:Exit) (he:e = .ret∨e = .normal) (vs:List Value) (j:Nat) {s:Cells} (hj:L[j]? = some s) (hr:Zc7 P S B L rs vs) (hp:Post (ZdL vs) B [s]):Zfz P rs Post e S [] B L:=
 ⟨he,rfl,vs,[s],hr,⟨(L.set j []).flatten,ZgQ hj⟩,hp⟩
end
end Go.BL
namespace Go.BL
open Go.Conc (G)
def Zc0 (o:Oper) (ex:List Nat):Prop:=∀e,e∈o.after.toList→Region.binds .any e=true→e.on∈ex
inductive Sched (ops:Array Oper):List Nat→List Nat→Prop
 | nil {ex:List Nat} : (∀i,i<ops.size→i∈ex)→Sched ops ex []
 | cons {ex π:List Nat} {m:Nat} {o:Oper} : ops[m]? = some o→m ∉ ex→Zc0 o ex→Sched ops (m :: ex) π→Sched ops ex (m :: π)
def ZdR (ops:Array Oper):Bool:=(List.range ops.size).all fun i=>match ops[i]? with | some o=>o.after.toList.all fun e=>!Region.binds .any e || Nat.blt e.on i | none=>true
theorem ZfU {ops:Array Oper} (h:ZdR ops=true) {i:Nat} {o:Oper} (ho:ops[i]? = some o) :∀e,e∈o.after.toList→Region.binds .any e=true→e.on<i:=by
 intro e he hb
 have h1:=List.all_eq_true.1 h i (List.mem_range.2 (Z6 ho))
 rw [ho] at h1
 have h2:=List.all_eq_true.1 h1 e he
 simpa [hb] using h2
def Rep (n:Nat) (listed:Array Bool) (ex:List Nat):Prop:=∀i,(listed.getD i true=false↔(i<n∧i ∉ ex))∧(listed.getD i false=true↔(i<n∧i∈ex))
theorem Rep.set {n:Nat} {listed:Array Bool} {ex:List Nat} (h:Rep n listed ex) {m:Nat} (hm:m<n):Rep n (listed.setIfInBounds m true) (m :: ex):=by
 intro i
 have hsz:listed.size=n:=by
  rcases Nat.lt_trichotomy listed.size n with hl | hl | hl
  ·have h1:=(h listed.size).1
   have h2:=(h listed.size).2
   rw [Array.getD_eq_getD_getElem?,Array.getElem?_eq_none (Nat.le_refl _)] at h1 h2
   simp only [Option.getD_none,Bool.true_eq_false,false_iff,Bool.false_eq_true] at h1 h2
   by_cases hx:listed.size∈ex
   ·exact absurd ⟨hl,hx⟩ h2
   ·exact absurd ⟨hl,hx⟩ h1
  ·exact hl
  ·have h1:=(h n).1
   have h2:=(h n).2
   rw [Array.getD_eq_getD_getElem?,Array.getElem?_eq_getElem hl] at h1 h2
   simp only [Option.getD_some] at h1 h2
   cases hb:listed[n] with
   | true=>exact absurd (h2.1 hb).1 (Nat.lt_irrefl _)
   | false=>exact absurd (h1.1 hb).1 (Nat.lt_irrefl _)
 by_cases hi:i=m
 ·subst hi
  simp [Array.getD_eq_getD_getElem?,hsz,hm]
 ·have e1:(listed.setIfInBounds m true).getD i true=listed.getD i true:=by
   rw [Array.getD_eq_getD_getElem?,Array.getD_eq_getD_getElem?,Array.getElem?_setIfInBounds,if_neg (Ne.symm hi)]
  have e2:(listed.setIfInBounds m true).getD i false=listed.getD i false:=by
   rw [Array.getD_eq_getD_getElem?,Array.getD_eq_getD_getElem?,Array.getElem?_setIfInBounds,if_neg (Ne.symm hi)]
  rw [e1,e2,(h i).1,(h i).2]
  simp [hi]
theorem ZmH {ops:Array Oper} (hd:ZdR ops=true) {ex:List Nat} (h :∃i,i<ops.size∧i ∉ ex) :∃i o,ops[i]? = some o∧i ∉ ex∧Zc0 o ex:=by
 obtain ⟨i,hi,hx⟩:=h
 induction i using Nat.strongRecOn with
 | _ i ih=>
  by_cases he:Zc0 ops[i] ex
  ·exact ⟨i,ops[i],by simp [hi],hx,he⟩
  ·have :∃e,e∈ops[i].after.toList∧Region.binds .any e=true∧e.on ∉ ex:=by
    apply Classical.byContradiction
    intro hno
    exact he fun e h1 h2=>Classical.byContradiction fun h3=>hno ⟨e,h1,h2,h3⟩
   obtain ⟨e,h1,h2,h3⟩:=this
   have hlt:=ZfU hd (i:=i) (o:=ops[i]) (by simp [hi]) e h1 h2
   exact ih e.on hlt (by omega) h3
theorem ZsE {ops:Array Oper} (hd:ZdR ops=true) :∀(fuel t:Nat) (listed:Array Bool) (ex:List Nat),Rep ops.size listed ex→((List.range ops.size).filter (fun i=>decide (i ∉ ex))).length≤fuel→
  Sched ops ex (Region.linearise.go .any ops fuel t listed []):=by
 intro fuel
 induction fuel with
 | zero=>
  intro t listed ex hr hc
  simp only [Region.linearise.go,List.reverse_nil]
  refine .nil fun i hi=>?_
  apply Classical.byContradiction
  intro hx
  have:i∈(List.range ops.size).filter (fun i=>decide (i ∉ ex)):=List.mem_filter.2 ⟨List.mem_range.2 hi,by simpa using hx⟩
  have:=List.length_pos_of_mem this
  omega
 | succ fuel ih=>
  intro t listed ex hr hc
  simp only [Region.linearise.go]
  have hmem :∀i,i∈Region.ready .any ops listed↔∃o,ops[i]? = some o∧i ∉ ex∧Zc0 o ex:=by
   intro i
   rw [mem_ready]
   constructor
   ·rintro ⟨h1,o,ho,h2⟩
    refine ⟨o,ho,((hr i).1.1 h1).2,fun e he hb=>?_⟩
    exact ((hr e.on).2.1 (by simpa using h2 e (Array.mem_toList_iff.1 he) hb)).2
   ·rintro ⟨o,ho,hx,h2⟩
    refine ⟨(hr i).1.2 ⟨Z6 ho,hx⟩,o,ho,fun e he hb=>?_⟩
    exact (hr e.on).2.2 ⟨Nat.lt_trans (ZfU hd ho e (Array.mem_toList_iff.2 he) hb) (Z6 ho),h2 e (Array.mem_toList_iff.2 he) hb⟩
  show Sched ops ex (match (Region.ready .any ops listed)[t % (Region.ready .any ops listed).length]? with
   | some i=>Region.linearise.go .any ops fuel (t / (Region.ready .any ops listed).length) (listed.setIfInBounds i true) [i]
   | none=>[])
  cases hg:(Region.ready .any ops listed)[t % (Region.ready .any ops listed).length]? with
  | none=>
   refine .nil fun i hi=>?_
   apply Classical.byContradiction
   intro hx
   obtain ⟨j,o,ho,hjx,he⟩:=ZmH hd ⟨i,hi,hx⟩
   have hj:=(hmem j).2 ⟨o,ho,hjx,he⟩
   have hpos:=List.length_pos_of_mem hj
   have:=List.getElem?_eq_none_iff.1 hg
   have:=Nat.mod_lt t hpos
   omega
  | some i=>
   obtain ⟨o,ho,hx,he⟩:=(hmem i).1 (List.mem_of_getElem? hg)
   show Sched ops ex (Region.linearise.go .any ops fuel (t / (Region.ready .any ops listed).length) (listed.setIfInBounds i true) [i])
   rw [linearise_go_acc,List.reverse_singleton,List.singleton_append]
   refine .cons ho hx he (ih _ _ _ (hr.set (Z6 ho)) ?_)
   have hlt:((List.range ops.size).filter (fun j=>decide (j ∉ i :: ex))).length<((List.range ops.size).filter (fun j=>decide (j ∉ ex))).length:=by
    have hsub:(List.range ops.size).filter (fun j=>decide (j ∉ i :: ex))=((List.range ops.size).filter (fun j=>decide (j ∉ ex))).filter (fun j=>decide (j≠i)):=by
     rw [List.filter_filter]
     apply List.filter_congr
     intro j _
     simp only [List.mem_cons,not_or,ne_eq,Bool.decide_and]
    rw [hsub]
    have hi:i∈(List.range ops.size).filter (fun j=>decide (j ∉ ex)):=List.mem_filter.2 ⟨List.mem_range.2 (Z6 ho),by simpa using hx⟩
    exact List.length_filter_lt_length_iff_exists.2 ⟨i,hi,by simp⟩
   omega
theorem Zog {P:PJ} {ops:Array Oper} (hm:P.follows .mixedOrders=true) (hd:ZdR ops=true) (t:Nat):Sched ops [] (Region.schedule (P.follows .mixedOrders) ops t):=by
 have:Region.schedule (P.follows .mixedOrders) ops t=Region.linearise.go .any ops ops.size t (Array.replicate ops.size false) []:=by
  simp [Region.schedule,hm,Region.linearise]
 rw [this]
 refine ZsE hd _ _ _ _ (fun i=>?_) ?_
 ·simp only [Array.getD_eq_getD_getElem?,Array.getElem?_replicate]
  by_cases h:i<ops.size <;> simp [h]
 ·exact Nat.le_trans (List.length_filter_le _ _) (by simp)
def conf (ops:Array Oper) (x y:Oper):Bool:=(match x.dst with | some d=>(y.looksAt ops).contains d || y.dst == some d | none=>false) || (match y.dst with | some d=>(x.looksAt ops).contains d | none=>false)
def Zek (x:Oper) (j:Nat):Bool:=x.after.toList.any fun e=>Region.binds .any e && e.on == j
def orderly (ops:Array Oper):Bool:=(List.range ops.size).all fun i=>(List.range ops.size).all fun j=>match ops[i]?,ops[j]? with | some x,some y=>i == j || !conf ops x y || Zek x j || Zek y i | _,_=>true
theorem Zcz {ops:Array Oper} (h:orderly ops=true) {i j:Nat} {x y:Oper} (hi:ops[i]? = some x) (hj:ops[j]? = some y) (hne:i≠j) (hc:conf ops x y=true):Zek x j=true∨Zek y i=true:=by
 have h1:=List.all_eq_true.1 h i (List.mem_range.2 (Z6 hi))
 have h2:=List.all_eq_true.1 h1 j (List.mem_range.2 (Z6 hj))
 rw [hi,hj] at h2
 simpa [hne,hc] using h2
theorem Zb8 {o:Oper} {j:Nat} {ex:List Nat} (h:Zek o j=true) (he:Zc0 o ex):j∈ex:=by
 obtain ⟨e,h1,h2⟩:=List.any_eq_true.1 h
 simp only [Bool.and_eq_true,beq_iff_eq] at h2
 exact h2.2 ▸ he e h1 h2.1
def sel:List Nat→Env→Env
 | [],_=>[]
 | k :: ks,S=>match get S k with
  | some v=>(k,v) :: sel ks S
  | none=>sel ks S
theorem Zgc :∀{ks:List Nat} {S:Env} {i:Nat} {v:Value},get (sel ks S) i=some v→i∈ks∧get S i=some v
 | [],S,i,v,h=>by cases h
 | k :: ks,S,i,v,h=>by
  simp only [sel] at h
  cases hk:get S k with
  | none=>
   rw [hk] at h
   obtain ⟨h1,h2⟩:=Zgc h
   exact ⟨List.mem_cons_of_mem _ h1,h2⟩
  | some u=>
   rw [hk] at h
   simp only [get] at h
   cases hb:Nat.beq k i with
   | true=>
    rw [hb] at h
    have:=Nat.eq_of_beq_eq_true hb
    subst this
    simp only [cond_true,Option.some.injEq] at h
    subst h
    exact ⟨List.mem_cons_self ..,hk⟩
   | false=>
    rw [hb] at h
    obtain ⟨h1,h2⟩:=Zgc h
    exact ⟨List.mem_cons_of_mem _ h1,h2⟩
structure Pd where
 i:Nat
 o:Oper
 v:Value
 ρ:Env
def puts:List Pd→Array Value→Array Value
 | [],T=>T
 | p :: r,T=>puts r (putT T p.o.dst p.v)
def ZfZ:List Pd→Array Value→Prop
 | [],_=>True
 | p :: r,T=>Ag T p.ρ∧ZfZ r (putT T p.o.dst p.v)
theorem ZgN :∀(pend:List Pd) (T:Array Value),(puts pend T).size=T.size
 | [],T=>rfl
 | p :: r,T=>by rw [puts,ZgN r,ZbF]
theorem ZgO {T:Array Value} {x y:Option Tmp} {u v:Value} (h :∀d,x=some d→y≠some d):putT (putT T x u) y v=putT (putT T y v) x u:=by
 cases x with
 | none=>rfl
 | some d=>
  cases y with
  | none=>rfl
  | some c=>
   have:d≠c:=fun e=>h d rfl (by rw [e])
   simp only [putT]
   rw [Array.setIfInBounds_comm _ _ this]
theorem ZhA {T:Array Value} {S:Env} {ks:List Nat} (hs :∀i v,get S i=some v→i∈ks) {x:Option Tmp} {u:Value} (hx :∀d,x=some d→d ∉ ks):Ag (putT T x u) S↔Ag T S:=by
 cases x with
 | none=>exact Iff.rfl
 | some d=>
  refine forall_congr' fun i=>forall_congr' fun v=>imp_congr_right fun h=>?_
  have:d≠i:=fun e=>hx d rfl (e ▸ hs i v h)
  simp only [putT,Array.getElem?_setIfInBounds,if_neg this]
theorem ZkN {ops:Array Oper} {x y:Oper} (h:conf ops x y=false):(∀d,x.dst=some d→d ∉ y.looksAt ops)∧(∀d,x.dst=some d→y.dst≠some d)∧(∀d,y.dst=some d→d ∉ x.looksAt ops):=by
 unfold conf at h
 rw [Bool.or_eq_false_iff] at h
 obtain ⟨h1,h2⟩:=h
 refine ⟨fun d hd hm=>?_,fun d hd hm=>?_,fun d hd hm=>?_⟩
 ·rw [hd] at h1;simp [hm] at h1
 ·rw [hd] at h1;simp [hm] at h1
 ·rw [hd] at h2;simp [hm] at h2
def ZjZ (ops:Array Oper) (p:Pd):Prop:=∀i v,get p.ρ i=some v→i∈p.o.looksAt ops
theorem ZgR {ops:Array Oper} {p:Pd} (hp:ZjZ ops p) :∀(p1 p2:List Pd) (T:Array Value),(∀q,q∈p1→conf ops q.o p.o=false∧ZjZ ops q)→ZfZ (p1 ++ p :: p2) T→
  Ag T p.ρ∧puts (p1 ++ p2) (putT T p.o.dst p.v)=puts (p1 ++ p :: p2) T∧ZfZ (p1 ++ p2) (putT T p.o.dst p.v)
 | [],p2,T,_,h=>⟨h.1,rfl,h.2⟩
 | q :: r,p2,T,hc,h=>by
  obtain ⟨hq,hqd⟩:=hc q (List.mem_cons_self ..)
  obtain ⟨c1,c2,c3⟩:=ZkN hq
  obtain ⟨h1,h2,h3⟩:=ZgR hp r p2 _ (fun q' hq'=>hc q' (List.mem_cons_of_mem _ hq')) h.2
  refine ⟨(ZhA hp c1).1 h1,?_,?_,?_⟩
  ·simp only [List.cons_append,puts]
   rw [← h2,ZgO c2]
  ·exact (ZhA hqd c3).2 h.1
  ·rw [← ZgO c2];exact h3
theorem Zfi {ops:Array Oper} {o:Oper} {v:Value} :∀(pend:List Pd) (T:Array Value),(∀q,q∈pend→conf ops q.o o=false∧ZjZ ops q)→ZfZ pend T→
  puts pend (putT T o.dst v)=putT (puts pend T) o.dst v∧ZfZ pend (putT T o.dst v)∧∀i,i∈o.looksAt ops→(puts pend T)[i]? = T[i]?
 | [],T,_,_=>⟨rfl,trivial,fun _ _=>rfl⟩
 | q :: r,T,hc,h=>by
  obtain ⟨hq,hqd⟩:=hc q (List.mem_cons_self ..)
  obtain ⟨c1,c2,c3⟩:=ZkN hq
  obtain ⟨h1,h2,h3⟩:=Zfi r (putT T q.o.dst q.v) (fun q' hq'=>hc q' (List.mem_cons_of_mem _ hq')) h.2
  refine ⟨?_,⟨(ZhA hqd c3).2 h.1,?_⟩,fun i hi=>?_⟩
  ·simp only [puts];rw [← ZgO c2];exact h1
  ·rw [← ZgO c2];exact h2
  ·simp only [puts]
   rw [h3 i hi]
   cases hd:q.o.dst with
   | none=>rfl
   | some d=>
    have:d≠i:=fun e=>c1 d hd (e ▸ hi)
    simp only [putT,Array.getElem?_setIfInBounds,if_neg this]
theorem Zmb :∀(pend:List Pd) (p:Pd) (T:Array Value),puts (pend ++ [p]) T=putT (puts pend T) p.o.dst p.v∧(ZfZ (pend ++ [p]) T↔ZfZ pend T∧Ag (puts pend T) p.ρ)
 | [],p,T=>⟨rfl,by simp [ZfZ,puts]⟩
 | q :: r,p,T=>by
  obtain ⟨h1,h2⟩:=Zmb r p (putT T q.o.dst q.v)
  refine ⟨h1,?_⟩
  simp only [List.cons_append,ZfZ,puts,h2,and_assoc]
def quiet (P:PJ) (n:Nat) (ops:Array Oper) (I:Kn→List Cells→Prop) (i:Nat) (o:Oper) (v:Value) (ρ:Env):Prop:=
∀D B L,I B L→opX P n ops i o (fun v' D' B' L'=>v'=v∧D'=D∧B'=B∧L'=L) ρ D B L
def Zky (o:Oper):Bool:=match o.op with | .extract _ _=>true | .move _=>true | .assign _=>true | _=>false
structure PdOk (P:PJ) (n:Nat) (ops:Array Oper) (I:Kn→List Cells→Prop) (ℓ ex:List Nat) (p:Pd):Prop where
 at_:ops[p.i]? = some p.o
 notEx:p.i ∉ ex
 listed:p.i∈ℓ
 edges:Zc0 p.o ℓ
 dom:ZjZ ops p
 quiet:quiet P n ops I p.i p.o p.v p.ρ
 pure:Zky p.o=true→Go.BL.quiet P n ops (fun _ _=>True) p.i p.o p.v p.ρ
def Ordered:List Pd→Prop
 | []=>True
 | q :: r=>(∀p,p∈r→Zek q.o p.i=false∧q.i≠p.i)∧Ordered r
theorem Zes :∀{p1:List Pd} {p:Pd} {p2:List Pd},Ordered (p1 ++ p :: p2)→(∀q,q∈p1→Zek q.o p.i=false∧q.i≠p.i)∧(∀q,q∈p2→p.i≠q.i)∧Ordered (p1 ++ p2)
 | [],p,p2,h=>⟨(fun q hq=>by cases hq),fun q hq=>(h.1 q hq).2,h.2⟩
 | r :: p1,p,p2,h=>by
  obtain ⟨h1,h2,h3⟩:=Zes h.2
  refine ⟨fun q hq=>?_,h2,fun q hq=>h.1 q ?_,h3⟩
  ·rcases List.mem_cons.1 hq with rfl | hq
   ·exact h.1 p (List.mem_append.2 (.inr (List.mem_cons_self ..)))
   ·exact h1 q hq
  ·rcases List.mem_append.1 hq with hq | hq
   ·exact List.mem_append.2 (.inl hq)
   ·exact List.mem_append.2 (.inr (List.mem_cons_of_mem _ hq))
theorem ZiT :∀{pend:List Pd} {p:Pd},Ordered pend→(∀q,q∈pend→Zek q.o p.i=false∧q.i≠p.i)→Ordered (pend ++ [p])
 | [],p,_,_=>⟨(fun q hq=>by cases hq),trivial⟩
 | r :: pend,p,h,hp=>by
  refine ⟨fun q hq=>?_,ZiT h.2 fun q hq=>hp q (List.mem_cons_of_mem _ hq)⟩
  rcases List.mem_append.1 hq with hq | hq
  ·exact h.1 q hq
  ·rw [List.mem_singleton.1 hq];exact hp r (List.mem_cons_self ..)
def Closed (ops:Array Oper) (ex:List Nat):Prop:=∀i,i∈ex→∀o,ops[i]? = some o→Zc0 o ex
theorem Closed.cons {ops:Array Oper} {ex:List Nat} {m:Nat} {o:Oper} (h:Closed ops ex) (hm:ops[m]? = some o) (he:Zc0 o ex):Closed ops (m :: ex):=fun i hi o' ho' e h1 h2=>by
 rcases List.mem_cons.1 hi with rfl | hi
 ·rw [hm] at ho';cases ho';exact List.mem_cons_of_mem _ (he e h1 h2)
 ·exact List.mem_cons_of_mem _ (h i hi o' ho' e h1 h2)
def ZbV {P:PJ} (C:Cx P) (k:List Item) (n:Nat) (ops:Array Oper) (I:Kn→List Cells→Prop) (ℓ:List Nat) (K:Zao):Zao:=fun S D B L=>
∀(T:Array Value) (ex:List Nat) (pend:List Pd) (π:List Nat),Sched ops ex π→Closed ops ex→(∀i,i∈ex→i∈ℓ)→(∀i,i∈ℓ→i∈ex∨∃p,p∈pend∧p.i=i)→
  (∀p,p∈pend→PdOk P n ops I ℓ ex p)→Ordered pend→T.size=n→ZfZ pend T→Ag (puts pend T) S→I B L→
  (∀S' D' B' L' T',B.le B'→K S' D' B' L'→T'.size=n→Ag T' S'→C.X.R (G (fat C.b T' D' (.inRegion ops [] :: k)) C.cs) B' (L'.flatten ++ C.F))→
  C.X.R (G (fat C.b T D (.inRegion ops π :: k)) C.cs) B (L.flatten ++ C.F)
section
variable {P:PJ} {C:Cx P} {k:List Item} {n:Nat} {ops:Array Oper} {I:Kn→List Cells→Prop} {ℓ:List Nat} {K:Zao} {S:Env} {D:List Deferred} {B:Kn} {L:List Cells}
theorem Zlx (ho:orderly ops=true)
  (hdone:(∀i,i<ops.size→i∈ℓ)→K S D B L)
  (hloud :∀m o,ops[m]? = some o→m ∉ ℓ→Zc0 o ℓ→opX P n ops m o (fun v D' B' L'=>I B' L'∧ZbV C k n ops I (m :: ℓ) K (ZbW S o.dst v) D' B' L') (sel (o.looksAt ops) S) D B L):ZbV C k n ops I ℓ K S D B L:=by
 intro T ex pend π hs
 induction hs generalizing T pend with
 | @nil ex hall=>
  intro hcl hsub hcov hpd hord hn hpa hag hI hA
  have hp0:pend=[]:=by
   cases pend with
   | nil=>rfl
   | cons p r=>exact absurd (hall p.i (Z6 (hpd p (List.mem_cons_self ..)).at_)) (hpd p (List.mem_cons_self ..)).notEx
  subst hp0
  exact hA S D B L T (Kn.le.refl B) (hdone fun i hi=>hsub i (hall i hi)) hn hag
 | @cons ex π m o hm hx he hs ih=>
  intro hcl hsub hcov hpd hord hn hpa hag hI hA
  have hcl':=hcl.cons hm he
  by_cases hml:m∈ℓ
  ·rcases hcov m hml with h | ⟨p,hp,rfl⟩
   ·exact absurd h hx
   ·obtain ⟨p1,p2,rfl⟩:=List.append_of_mem hp
    have hpk:=hpd p hp
    have hpo:p.o=o:=by have:=hpk.at_;rw [hm] at this;exact (Option.some.inj this).symm
    obtain ⟨o1,o2,o3⟩:=Zes hord
    have hconf :∀q,q∈p1→conf ops q.o p.o=false∧ZjZ ops q:=fun q hq=>by
     have hqk:=hpd q (List.mem_append.2 (.inl hq))
     refine ⟨?_,hqk.dom⟩
     cases hc:conf ops q.o p.o with
     | false=>rfl
     | true=>
      rcases Zcz ho hqk.at_ hpk.at_ (o1 q hq).2 hc with h | h
      ·rw [(o1 q hq).1] at h;cases h
      ·exact absurd (Zb8 h (hpo ▸ he)) hqk.notEx
    obtain ⟨a1,a2,a3⟩:=ZgR hpk.dom p1 p2 T hconf hpa
    refine (hpk.quiet D B L hI).2 C π k T hpk.at_ hn a1 ?_
    rintro v D' B' L' hle ⟨rfl,rfl,rfl,rfl⟩
    refine ih _ (p1 ++ p2) hcl' (fun i hi=>?_) (fun i hi=>?_) (fun q hq=>?_) o3 (by rw [ZbF,hn]) a3 (by rw [a2];exact hag) hI hA
    ·rcases List.mem_cons.1 hi with rfl | hi
     ·exact hml
     ·exact hsub i hi
    ·rcases hcov i hi with h | ⟨q,hq,rfl⟩
     ·exact .inl (List.mem_cons_of_mem _ h)
     ·rcases List.mem_append.1 hq with hq | hq
      ·exact .inr ⟨q,List.mem_append.2 (.inl hq),rfl⟩
      ·rcases List.mem_cons.1 hq with rfl | hq
       ·exact .inl (List.mem_cons_self ..)
       ·exact .inr ⟨q,List.mem_append.2 (.inr hq),rfl⟩
    ·have hq':q∈p1 ++ p :: p2:=by
      rcases List.mem_append.1 hq with hq | hq
      ·exact List.mem_append.2 (.inl hq)
      ·exact List.mem_append.2 (.inr (List.mem_cons_of_mem _ hq))
     have hqk:=hpd q hq'
     refine ⟨hqk.at_,fun hmem=>?_,hqk.listed,hqk.edges,hqk.dom,hqk.quiet,hqk.pure⟩
     rcases List.mem_cons.1 hmem with h | h
     ·rcases List.mem_append.1 hq with hq | hq
      ·exact (o1 q hq).2 h
      ·exact o2 q hq h.symm
     ·exact hqk.notEx h
  ·have hel:Zc0 o ℓ:=fun e h1 h2=>hsub _ (he e h1 h2)
   have hconf :∀q,q∈pend→conf ops q.o o=false∧ZjZ ops q:=fun q hq=>by
    have hqk:=hpd q hq
    refine ⟨?_,hqk.dom⟩
    cases hc:conf ops q.o o with
    | false=>rfl
    | true=>
     rcases Zcz ho hqk.at_ hm (fun e=>hml (e ▸ hqk.listed)) hc with h | h
     ·exact absurd (Zb8 h hqk.edges) hml
     ·exact absurd (Zb8 h he) hqk.notEx
   have hsel:Ag T (sel (o.looksAt ops) S):=fun i v hv=>by
    obtain ⟨h1,h2⟩:=Zgc hv
    rw [← (Zfi (o:=o) (v:=undef) pend T hconf hpa).2.2 i h1]
    exact hag i v h2
   have hX:=hloud m o hm hml hel
   refine hX.2 C π k T hm hn hsel ?_
   rintro v D' B' L' hle ⟨hI',hAny⟩
   obtain ⟨b1,b2,_⟩:=Zfi (o:=o) (v:=v) pend T hconf hpa
   refine hAny _ (m :: ex) pend π hs hcl' (fun i hi=>?_) (fun i hi=>?_) (fun q hq=>?_) hord (by rw [ZbF,hn]) b2 (by rw [b1];exact hag.putT (by rw [ZgN,hn]) hX.1 v) hI' fun S₂ D₂ B₂ L₂ T₂ hle₂=>hA S₂ D₂ B₂ L₂ T₂ (hle.trans hle₂)
   ·rcases List.mem_cons.1 hi with rfl | hi
    ·exact List.mem_cons_self ..
    ·exact List.mem_cons_of_mem _ (hsub i hi)
   ·rcases List.mem_cons.1 hi with rfl | hi
    ·exact .inl (List.mem_cons_self ..)
    ·exact (hcov i hi).imp (List.mem_cons_of_mem _) id
   ·have hqk:=hpd q hq
    refine ⟨hqk.at_,fun hmem=>?_,List.mem_cons_of_mem _ hqk.listed,fun e h1 h2=>List.mem_cons_of_mem _ (hqk.edges e h1 h2),hqk.dom,hqk.quiet,hqk.pure⟩
    rcases List.mem_cons.1 hmem with h | h
    ·exact hml (h ▸ hqk.listed)
    ·exact hqk.notEx h
def ZfA (ops:Array Oper) (ℓ:List Nat):Bool:=(List.range ops.size).all fun i=>ℓ.contains i
theorem Zz (ho:orderly ops=true) (ha:ZfA ops ℓ=true) (h:K S D B L):ZbV C k n ops I ℓ K S D B L:=
 Zlx ho (fun _=>h) fun m o hm hml _=>by
  have:=List.all_eq_true.1 ha m (List.mem_range.2 (Z6 hm))
  exact absurd (by simpa using this) hml
def Zbd (ops:Array Oper) (ℓ:List Nat):List Nat:=(List.range ops.size).filter fun i=>!ℓ.contains i && (match ops[i]? with | some o=>o.after.toList.all fun e=>!Region.binds .any e || ℓ.contains e.on | none=>false)
theorem Zhm {m:Nat} {o:Oper} (hm:ops[m]? = some o) (hx:m ∉ ℓ) (he:Zc0 o ℓ):m∈Zbd ops ℓ:=by
 refine List.mem_filter.2 ⟨List.mem_range.2 (Z6 hm),?_⟩
 simp only [hm,Bool.and_eq_true,Bool.not_eq_true',List.all_eq_true,Bool.or_eq_true]
 refine ⟨by simpa using hx,fun e h1=>?_⟩
 cases hb:Region.binds .any e with
 | false=>exact .inl rfl
 | true=>exact .inr (by simpa using he e h1 hb)
def ZrR:List Nat→(Nat→Prop)→Prop
 | [],_=>True
 | [m],F=>F m
 | m :: r,F=>F m∧ZrR r F
theorem ZkL {F:Nat→Prop} :∀{rs:List Nat},ZrR rs F→∀m,m∈rs→F m
 | [m],h,x,hx=>by rw [List.mem_singleton.1 hx];exact h
 | m :: m' :: r,h,x,hx=>by
  rcases List.mem_cons.1 hx with rfl | hx
  ·exact h.1
  ·exact ZkL h.2 x hx
theorem Zak (rs:List Nat) (ho:orderly ops=true) (hr:Zbd ops ℓ=rs) (hne:ZfA ops ℓ=false)
  (h:ZrR rs fun m=>match ops[m]? with
   | some o=>opX P n ops m o (fun v D' B' L'=>I B' L'∧ZbV C k n ops I (m :: ℓ) K (ZbW S o.dst v) D' B' L') (sel (o.looksAt ops) S) D B L
   | none=>True):ZbV C k n ops I ℓ K S D B L:=
 Zlx ho (fun hall=>by
   have:ZfA ops ℓ=true:=List.all_eq_true.2 fun i hi=>by simpa using hall i (List.mem_range.1 hi)
   rw [this] at hne;cases hne)
  fun m o hm hml he=>by
   have:=ZkL h m (hr ▸ Zhm hm hml he)
   rw [hm] at this
   exact this
theorem ZmW (i:Nat) {o:Oper} {v:Value} (hi:ops[i]? = some o) (hr:(Zbd ops ℓ).contains i=true) (hd:ZC n o.dst=true) (hq:quiet P n ops I i o v (sel (o.looksAt ops) S)) (hpu:Zky o=true→quiet P n ops (fun _ _=>True) i o v (sel (o.looksAt ops) S))
  (h:ZbV C k n ops I (i :: ℓ) K (ZbW S o.dst v) D B L):ZbV C k n ops I ℓ K S D B L:=by
 intro T ex pend π hs hcl hsub hcov hpd hord hn hpa hag hI hA
 have hrm:i∈Zbd ops ℓ:=by simpa using hr
 have hr2:=(List.mem_filter.1 hrm).2
 simp only [hi,Bool.and_eq_true,Bool.not_eq_true',List.all_eq_true,Bool.or_eq_true] at hr2
 obtain ⟨r1,r2⟩:=hr2
 have hil:i ∉ ℓ:=by simpa using r1
 have hel:Zc0 o ℓ:=fun e h1 h2=>by
  rcases r2 e h1 with h | h
  ·rw [h2] at h;cases h
  ·simpa using h
 let p:Pd:=⟨i,o,v,sel (o.looksAt ops) S⟩
 have hρ:Ag (puts pend T) p.ρ:=fun j u hu=>hag j u (Zgc hu).2
 obtain ⟨s1,s2⟩:=Zmb pend p T
 refine h T ex (pend ++ [p]) π hs hcl (fun j hj=>List.mem_cons_of_mem _ (hsub j hj)) (fun j hj=>?_) (fun q hq'=>?_) (ZiT hord fun q hq'=>?_) hn (s2.2 ⟨hpa,hρ⟩) (by rw [s1];exact hag.putT (by rw [ZgN,hn]) hd v) hI hA
 ·rcases List.mem_cons.1 hj with rfl | hj
  ·exact .inr ⟨p,by simp,rfl⟩
  ·rcases hcov j hj with h | ⟨q,hq,he⟩
   ·exact .inl h
   ·exact .inr ⟨q,List.mem_append.2 (.inl hq),he⟩
 ·rcases List.mem_append.1 hq' with hq' | hq'
  ·have hqk:=hpd q hq'
   exact ⟨hqk.at_,hqk.notEx,List.mem_cons_of_mem _ hqk.listed,fun e h1 h2=>List.mem_cons_of_mem _ (hqk.edges e h1 h2),hqk.dom,hqk.quiet,hqk.pure⟩
  ·rw [List.mem_singleton.1 hq']
   exact ⟨hi,fun hx=>hil (hsub i hx),List.mem_cons_self ..,fun e h1 h2=>List.mem_cons_of_mem _ (hel e h1 h2),fun j u hu=>(Zgc hu).1,hq,hpu⟩
 ·have hqk:=hpd q hq'
  refine ⟨?_,fun e=>hil (by have e':q.i=i:=e;rw [← e'];exact hqk.listed)⟩
  show Zek q.o i=false
  cases hb:Zek q.o i with
  | false=>rfl
  | true=>exact absurd (Zb8 hb hqk.edges) hil
theorem ZtI (i:Nat) {o:Oper} {v:Value} (hi:ops[i]? = some o) (hr:(Zbd ops ℓ).contains i=true) (hd:ZC n o.dst=true) (hq:quiet P n ops I i o v (sel (o.looksAt ops) S)) (h:ZbV C k n ops I (i :: ℓ) K (ZbW S o.dst v) D B L) (hp:Zky o=false:=by rfl):ZbV C k n ops I ℓ K S D B L:=
 ZmW i hi hr hd hq (fun e=>by rw [hp] at e;cases e) h
theorem ZaA (i:Nat) {o:Oper} {v:Value} (hi:ops[i]? = some o) (hr:(Zbd ops ℓ).contains i=true) (hd:ZC n o.dst=true) (hq :∀D B L,opX P n ops i o (fun v' D' B' L'=>v'=v∧D'=D∧B'=B∧L'=L) (sel (o.looksAt ops) S) D B L)
  (h:ZbV C k n ops I (i :: ℓ) K (ZbW S o.dst v) D B L):ZbV C k n ops I ℓ K S D B L:=
 ZmW i hi hr hd (fun D B L _=>hq D B L) (fun _ D B L _=>hq D B L) h
theorem Zq (i:Nat) {o:Oper} (ho:orderly ops=true) (hi:ops[i]? = some o) (hr:Zbd ops ℓ=[i])
  (h:opX P n ops i o (fun v D' B' L'=>I B' L'∧ZbV C k n ops I (i :: ℓ) K (ZbW S o.dst v) D' B' L') (sel (o.looksAt ops) S) D B L):ZbV C k n ops I ℓ K S D B L:=
 Zlx ho (fun hall=>by
   have hm:i∈Zbd ops ℓ:=by rw [hr];exact List.mem_singleton.2 rfl
   have h2:=(List.mem_filter.1 hm).2
   have h3:=hall i (Z6 hi)
   simp [h3] at h2)
  fun m o' hm hml he=>by
   have h1:=Zhm hm hml he
   rw [hr,List.mem_singleton] at h1
   subst h1
   rw [hi] at hm;cases hm
   exact h
def waits (ops:Array Oper):Nat→List Nat→List Nat
 | 0,w=>w
 | k+1,w=>waits ops k (w ++ (w.flatMap fun i=>match ops[i]? with | some o=>(o.after.toList.filter fun e=>Region.binds .any e).map (·.on) | none=>[]).eraseDups.filter fun j=>!w.contains j)
theorem Zh8 {ops:Array Oper} {ex:List Nat} (hc:Closed ops ex) :∀(k:Nat) (w:List Nat),(∀i,i∈w→i∈ex)→∀i,i∈waits ops k w→i∈ex
 | 0,w,h,i,hi=>h i hi
 | k+1,w,h,i,hi=>by
  refine Zh8 hc k _ (fun j hj=>?_) i hi
  rcases List.mem_append.1 hj with hj | hj
  ·exact h j hj
  ·have h1:=(List.mem_filter.1 hj).1
   rw [List.mem_eraseDups] at h1
   obtain ⟨x,hx,hj2⟩:=List.mem_flatMap.1 h1
   split at hj2
   ·rename_i o ho
    obtain ⟨e,he,rfl⟩:=List.mem_map.1 hj2
    obtain ⟨he1,he2⟩:=List.mem_filter.1 he
    exact hc x (h x hx) o ho e he1 he2
   ·cases hj2
def ZeE (o:Oper):List Nat:=(o.after.toList.filter fun e=>Region.binds .any e).map (·.on)
def isLast (ops:Array Oper) (m:Nat) (o:Oper):Bool:=(List.range ops.size).all fun i=>Nat.beq i m || (waits ops 12 (ZeE o)).contains i
theorem ZU (m:Nat) {o:Oper} (ho:orderly ops=true) (hm:ops[m]? = some o) (hl:isLast ops m o=true) (hml:ℓ.contains m=false) (hall:ZfA ops (m :: ℓ)=true)
  (h:opX P n ops m o (fun v D' B' L'=>K (ZbW S o.dst v) D' B' L') (sel (o.looksAt ops) S) D B L):ZbV C k n ops I ℓ K S D B L:=by
 have hml':m ∉ ℓ:=by simpa using hml
 have hall' :∀i,i<ops.size→i=m∨i∈ℓ:=fun i hi=>by
  have:=List.all_eq_true.1 hall i (List.mem_range.2 hi)
  simpa using this
 intro T ex pend π hs
 induction hs generalizing T pend with
 | @nil ex hex=>
  intro hcl hsub hcov hpd hord hn hpa hag hI hA
  exact absurd (hsub m (hex m (Z6 hm))) hml'
 | @cons ex π m' o' hm' hx he hs ih=>
  intro hcl hsub hcov hpd hord hn hpa hag hI hA
  have hcl':=hcl.cons hm' he
  by_cases hmm:m'=m
  ·subst hmm
   rw [hm] at hm';cases hm'
   have hexall :∀i,i<ops.size→i≠m'→i∈ex:=fun i hi hne=>by
    have h1:=List.all_eq_true.1 hl i (List.mem_range.2 hi)
    have h2:i∈waits ops 12 (ZeE o):=by
     rcases Bool.or_eq_true_iff.1 h1 with h1 | h1
     ·exact absurd (Nat.eq_of_beq_eq_true h1) hne
     ·simpa using h1
    refine Zh8 hcl 12 _ (fun j hj=>?_) i h2
    obtain ⟨e,he1,rfl⟩:=List.mem_map.1 hj
    obtain ⟨h3,h4⟩:=List.mem_filter.1 he1
    exact he e h3 h4
   have hp0:pend=[]:=by
    cases pend with
    | nil=>rfl
    | cons p r=>
     have hpk:=hpd p (List.mem_cons_self ..)
     by_cases hpm:p.i=m'
     ·exact absurd (hpm ▸ hpk.listed) hml'
     ·exact absurd (hexall p.i (Z6 hpk.at_) hpm) hpk.notEx
   subst hp0
   have hπ:π=[]:=by
    cases hs with
    | nil _=>rfl
    | @cons _ π' m2 o2 h2 hx2 he2 hs2=>
     exfalso
     by_cases e:m2=m'
     ·exact hx2 (e ▸ List.mem_cons_self ..)
     ·exact hx2 (List.mem_cons_of_mem _ (hexall m2 (Z6 h2) e))
   subst hπ
   have hsel:Ag T (sel (o.looksAt ops) S):=fun i v hv=>hag i v (Zgc hv).2
   refine h.2 C [] k T hm hn hsel fun v D' B' L' hle hK=>?_
   exact hA _ D' B' L' _ hle hK (by rw [ZbF,hn]) (Ag.putT (T:=T) hag hn h.1 v)
  ·have hml2:m'∈ℓ:=(hall' m' (Z6 hm')).resolve_left hmm
   rcases hcov m' hml2 with h' | ⟨p,hp,rfl⟩
   ·exact absurd h' hx
   ·obtain ⟨p1,p2,rfl⟩:=List.append_of_mem hp
    have hpk:=hpd p hp
    have hpo:p.o=o':=by have:=hpk.at_;rw [hm'] at this;exact (Option.some.inj this).symm
    obtain ⟨o1,o2,o3⟩:=Zes hord
    have hconf :∀q,q∈p1→conf ops q.o p.o=false∧ZjZ ops q:=fun q hq=>by
     have hqk:=hpd q (List.mem_append.2 (.inl hq))
     refine ⟨?_,hqk.dom⟩
     cases hc:conf ops q.o p.o with
     | false=>rfl
     | true=>
      rcases Zcz ho hqk.at_ hpk.at_ (o1 q hq).2 hc with h | h
      ·rw [(o1 q hq).1] at h;cases h
      ·exact absurd (Zb8 h (hpo ▸ he)) hqk.notEx
    obtain ⟨a1,a2,a3⟩:=ZgR hpk.dom p1 p2 T hconf hpa
    refine (hpk.quiet D B L hI).2 C π k T hpk.at_ hn a1 ?_
    rintro v D' B' L' hle ⟨rfl,rfl,rfl,rfl⟩
    refine ih _ (p1 ++ p2) hcl' (fun i hi=>?_) (fun i hi=>?_) (fun q hq=>?_) o3 (by rw [ZbF,hn]) a3 (by rw [a2];exact hag) hI hA
    ·rcases List.mem_cons.1 hi with rfl | hi
     ·exact hml2
     ·exact hsub i hi
    ·rcases hcov i hi with h | ⟨q,hq,rfl⟩
     ·exact .inl (List.mem_cons_of_mem _ h)
     ·rcases List.mem_append.1 hq with hq | hq
      ·exact .inr ⟨q,List.mem_append.2 (.inl hq),rfl⟩
      ·rcases List.mem_cons.1 hq with rfl | hq
       ·exact .inl (List.mem_cons_self ..)
       ·exact .inr ⟨q,List.mem_append.2 (.inr hq),rfl⟩
    ·have hq':q∈p1 ++ p :: p2:=by
      rcases List.mem_append.1 hq with hq | hq
      ·exact List.mem_append.2 (.inl hq)
      ·exact List.mem_append.2 (.inr (List.mem_cons_of_mem _ hq))
     have hqk:=hpd q hq'
     refine ⟨hqk.at_,fun hmem=>?_,hqk.listed,hqk.edges,hqk.dom,hqk.quiet,hqk.pure⟩
     rcases List.mem_cons.1 hmem with h | h
     ·rcases List.mem_append.1 hq with hq | hq
      ·exact (o1 q hq).2 h
      ·exact o2 q hq h.symm
     ·exact hqk.notEx h
theorem Zin (m:Nat) {o:Oper} (ho:orderly ops=true) (hm:ops[m]? = some o) (hl:isLast ops m o=true) (hml:ℓ.contains m=false) (hall:ZfA ops (m :: ℓ)=true)
  (h :∀T,T.size=n→Ag T S→C.X.R (G (fat C.b T D (.inRegion ops [m] :: k)) C.cs) B (L.flatten ++ C.F)):ZbV C k n ops I ℓ K S D B L:=by
 have hml':m ∉ ℓ:=by simpa using hml
 have hall' :∀i,i<ops.size→i=m∨i∈ℓ:=fun i hi=>by
  have:=List.all_eq_true.1 hall i (List.mem_range.2 hi)
  simpa using this
 intro T ex pend π hs
 induction hs generalizing T pend with
 | @nil ex hex=>
  intro hcl hsub hcov hpd hord hn hpa hag hI hA
  exact absurd (hsub m (hex m (Z6 hm))) hml'
 | @cons ex π m' o' hm' hx he hs ih=>
  intro hcl hsub hcov hpd hord hn hpa hag hI hA
  have hcl':=hcl.cons hm' he
  by_cases hmm:m'=m
  ·subst hmm
   rw [hm] at hm';cases hm'
   have hexall :∀i,i<ops.size→i≠m'→i∈ex:=fun i hi hne=>by
    have h1:=List.all_eq_true.1 hl i (List.mem_range.2 hi)
    have h2:i∈waits ops 12 (ZeE o):=by
     rcases Bool.or_eq_true_iff.1 h1 with h1 | h1
     ·exact absurd (Nat.eq_of_beq_eq_true h1) hne
     ·simpa using h1
    refine Zh8 hcl 12 _ (fun j hj=>?_) i h2
    obtain ⟨e,he1,rfl⟩:=List.mem_map.1 hj
    obtain ⟨h3,h4⟩:=List.mem_filter.1 he1
    exact he e h3 h4
   have hp0:pend=[]:=by
    cases pend with
    | nil=>rfl
    | cons p r=>
     have hpk:=hpd p (List.mem_cons_self ..)
     by_cases hpm:p.i=m'
     ·exact absurd (hpm ▸ hpk.listed) hml'
     ·exact absurd (hexall p.i (Z6 hpk.at_) hpm) hpk.notEx
   subst hp0
   have hπ:π=[]:=by
    cases hs with
    | nil _=>rfl
    | @cons _ π' m2 o2 h2 hx2 he2 hs2=>
     exfalso
     by_cases e:m2=m'
     ·exact hx2 (e ▸ List.mem_cons_self ..)
     ·exact hx2 (List.mem_cons_of_mem _ (hexall m2 (Z6 h2) e))
   subst hπ
   exact h T hn hag
  ·have hml2:m'∈ℓ:=(hall' m' (Z6 hm')).resolve_left hmm
   rcases hcov m' hml2 with h' | ⟨p,hp,rfl⟩
   ·exact absurd h' hx
   ·obtain ⟨p1,p2,rfl⟩:=List.append_of_mem hp
    have hpk:=hpd p hp
    have hpo:p.o=o':=by have:=hpk.at_;rw [hm'] at this;exact (Option.some.inj this).symm
    obtain ⟨o1,o2,o3⟩:=Zes hord
    have hconf :∀q,q∈p1→conf ops q.o p.o=false∧ZjZ ops q:=fun q hq=>by
     have hqk:=hpd q (List.mem_append.2 (.inl hq))
     refine ⟨?_,hqk.dom⟩
     cases hc:conf ops q.o p.o with
     | false=>rfl
     | true=>
      rcases Zcz ho hqk.at_ hpk.at_ (o1 q hq).2 hc with h | h
      ·rw [(o1 q hq).1] at h;cases h
      ·exact absurd (Zb8 h (hpo ▸ he)) hqk.notEx
    obtain ⟨a1,a2,a3⟩:=ZgR hpk.dom p1 p2 T hconf hpa
    refine (hpk.quiet D B L hI).2 C π k T hpk.at_ hn a1 ?_
    rintro v D' B' L' hle ⟨rfl,rfl,rfl,rfl⟩
    refine ih _ (p1 ++ p2) hcl' (fun i hi=>?_) (fun i hi=>?_) (fun q hq=>?_) o3 (by rw [ZbF,hn]) a3 (by rw [a2];exact hag) hI hA
    ·rcases List.mem_cons.1 hi with rfl | hi
     ·exact hml2
     ·exact hsub i hi
    ·rcases hcov i hi with h | ⟨q,hq,rfl⟩
     ·exact .inl (List.mem_cons_of_mem _ h)
     ·rcases List.mem_append.1 hq with hq | hq
      ·exact .inr ⟨q,List.mem_append.2 (.inl hq),rfl⟩
      ·rcases List.mem_cons.1 hq with rfl | hq
       ·exact .inl (List.mem_cons_self ..)
       ·exact .inr ⟨q,List.mem_append.2 (.inr hq),rfl⟩
    ·have hq':q∈p1 ++ p :: p2:=by
      rcases List.mem_append.1 hq with hq | hq
      ·exact List.mem_append.2 (.inl hq)
      ·exact List.mem_append.2 (.inr (List.mem_cons_of_mem _ hq))
     have hqk:=hpd q hq'
     refine ⟨hqk.at_,fun hmem=>?_,hqk.listed,hqk.edges,hqk.dom,hqk.quiet,hqk.pure⟩
     rcases List.mem_cons.1 hmem with h | h
     ·rcases List.mem_append.1 hq with hq | hq
      ·exact (o1 q hq).2 h
      ·exact o2 q hq h.symm
     ·exact hqk.notEx h
def ZsL (ops:Array Oper) (ℓ:List Nat) (o:Oper):Bool:=ℓ.all fun i=>(waits ops 12 (ZeE o)).contains i || (match ops[i]? with | some x=>Zky x | none=>true)
theorem Za8 (m:Nat) {o:Oper} (ho:orderly ops=true) (hm:ops[m]? = some o) (hr:Zbd ops ℓ=[m]) (hl:ZsL ops ℓ o=true)
  (h:opX P n ops m o (fun v D' B' L'=>ZbV C k n ops (fun _ _=>True) (m :: ℓ) K (ZbW S o.dst v) D' B' L') (sel (o.looksAt ops) S) D B L):ZbV C k n ops I ℓ K S D B L:=by
 have hmr:m∈Zbd ops ℓ:=by rw [hr];exact List.mem_singleton.2 rfl
 have hml':m ∉ ℓ:=by have:=(List.mem_filter.1 hmr).2;simp only [hm,Bool.and_eq_true,Bool.not_eq_true'] at this;simpa using this.1
 intro T ex pend π hs
 induction hs generalizing T pend with
 | @nil ex hex=>
  intro hcl hsub hcov hpd hord hn hpa hag hI hA
  exact absurd (hsub m (hex m (Z6 hm))) hml'
 | @cons ex π m' o' hm' hx he hs ih=>
  intro hcl hsub hcov hpd hord hn hpa hag hI hA
  have hcl':=hcl.cons hm' he
  by_cases hmm:m'=m
  ·subst hmm
   rw [hm] at hm';cases hm'
   have hel:Zc0 o ℓ:=fun e h1 h2=>hsub _ (he e h1 h2)
   have hconf :∀q,q∈pend→conf ops q.o o=false∧ZjZ ops q:=fun q hq=>by
    have hqk:=hpd q hq
    refine ⟨?_,hqk.dom⟩
    cases hc:conf ops q.o o with
    | false=>rfl
    | true=>
     rcases Zcz ho hqk.at_ hm (fun e=>hml' (e ▸ hqk.listed)) hc with h | h
     ·exact absurd (Zb8 h hqk.edges) hml'
     ·exact absurd (Zb8 h he) hqk.notEx
   have hsel:Ag T (sel (o.looksAt ops) S):=fun i v hv=>by
    obtain ⟨h1,h2⟩:=Zgc hv
    rw [← (Zfi (o:=o) (v:=undef) pend T hconf hpa).2.2 i h1]
    exact hag i v h2
   refine h.2 C π k T hm hn hsel ?_
   intro v D' B' L' hle hAny
   obtain ⟨b1,b2,_⟩:=Zfi (o:=o) (v:=v) pend T hconf hpa
   have hw :∀i,i∈waits ops 12 (ZeE o)→i∈ex:=fun i hi=>by
    refine Zh8 hcl 12 _ (fun j hj=>?_) i hi
    obtain ⟨e,he1,rfl⟩:=List.mem_map.1 hj
    obtain ⟨h3,h4⟩:=List.mem_filter.1 he1
    exact he e h3 h4
   refine hAny _ (m' :: ex) pend π hs hcl' (fun i hi=>?_) (fun i hi=>?_) (fun q hq=>?_) hord (by rw [ZbF,hn]) b2 (by rw [b1];exact hag.putT (by rw [ZgN,hn]) h.1 v) trivial fun S₂ D₂ B₂ L₂ T₂ hle₂=>hA S₂ D₂ B₂ L₂ T₂ (hle.trans hle₂)
   ·rcases List.mem_cons.1 hi with rfl | hi
    ·exact List.mem_cons_self ..
    ·exact List.mem_cons_of_mem _ (hsub i hi)
   ·rcases List.mem_cons.1 hi with rfl | hi
    ·exact .inl (List.mem_cons_self ..)
    ·exact (hcov i hi).imp (List.mem_cons_of_mem _) id
   ·have hqk:=hpd q hq
    have hpu:Zky q.o=true:=by
     have h1:=List.all_eq_true.1 hl q.i hqk.listed
     rcases Bool.or_eq_true_iff.1 h1 with h1 | h1
     ·exact absurd (hw q.i (by simpa using h1)) hqk.notEx
     ·rw [hqk.at_] at h1;exact h1
    refine ⟨hqk.at_,fun hmem=>?_,List.mem_cons_of_mem _ hqk.listed,fun e h1 h2=>List.mem_cons_of_mem _ (hqk.edges e h1 h2),hqk.dom,hqk.pure hpu,hqk.pure⟩
    rcases List.mem_cons.1 hmem with h | h
    ·exact hml' (h ▸ hqk.listed)
    ·exact hqk.notEx h
  ·have hml2:m'∈ℓ:=by
    apply Classical.byContradiction
    intro hno
    have h1:=Zhm hm' hno (fun e h1 h2=>hsub _ (he e h1 h2))
    rw [hr,List.mem_singleton] at h1
    exact hmm h1
   rcases hcov m' hml2 with h' | ⟨p,hp,rfl⟩
   ·exact absurd h' hx
   ·obtain ⟨p1,p2,rfl⟩:=List.append_of_mem hp
    have hpk:=hpd p hp
    have hpo:p.o=o':=by have:=hpk.at_;rw [hm'] at this;exact (Option.some.inj this).symm
    obtain ⟨o1,o2,o3⟩:=Zes hord
    have hconf :∀q,q∈p1→conf ops q.o p.o=false∧ZjZ ops q:=fun q hq=>by
     have hqk:=hpd q (List.mem_append.2 (.inl hq))
     refine ⟨?_,hqk.dom⟩
     cases hc:conf ops q.o p.o with
     | false=>rfl
     | true=>
      rcases Zcz ho hqk.at_ hpk.at_ (o1 q hq).2 hc with h | h
      ·rw [(o1 q hq).1] at h;cases h
      ·exact absurd (Zb8 h (hpo ▸ he)) hqk.notEx
    obtain ⟨a1,a2,a3⟩:=ZgR hpk.dom p1 p2 T hconf hpa
    refine (hpk.quiet D B L hI).2 C π k T hpk.at_ hn a1 ?_
    rintro v D' B' L' hle ⟨rfl,rfl,rfl,rfl⟩
    refine ih _ (p1 ++ p2) hcl' (fun i hi=>?_) (fun i hi=>?_) (fun q hq=>?_) o3 (by rw [ZbF,hn]) a3 (by rw [a2];exact hag) hI hA
    ·rcases List.mem_cons.1 hi with rfl | hi
     ·exact hml2
     ·exact hsub i hi
    ·rcases hcov i hi with h | ⟨q,hq,rfl⟩
     ·exact .inl (List.mem_cons_of_mem _ h)
     ·rcases List.mem_append.1 hq with hq | hq
      ·exact .inr ⟨q,List.mem_append.2 (.inl hq),rfl⟩
      ·rcases List.mem_cons.1 hq with rfl | hq
       ·exact .inl (List.mem_cons_self ..)
       ·exact .inr ⟨q,List.mem_append.2 (.inr hq),rfl⟩
    ·have hq':q∈p1 ++ p :: p2:=by
      rcases List.mem_append.1 hq with hq | hq
      ·exact List.mem_append.2 (.inl hq)
      ·exact List.mem_append.2 (.inr (List.mem_cons_of_mem _ hq))
     have hqk:=hpd q hq'
     refine ⟨hqk.at_,fun hmem=>?_,hqk.listed,hqk.edges,hqk.dom,hqk.quiet,hqk.pure⟩
     rcases List.mem_cons.1 hmem with h | h
     ·rcases List.mem_append.1 hq with hq | hq
      ·exact (o1 q hq).2 h
      ·exact o2 q hq h.symm
     ·exact hqk.notEx h
theorem Z0 {id:Nat} {l:List Oper} {Q:Exit→Zao} (I:Kn→List Cells→Prop) (hm:P.follows .mixedOrders=true) (hd:ZdR l.toArray=true) (hI:I B L) (h :∀(C:Cx P) (k:List Item),ZbV C k n l.toArray I [] (Q .normal) S D B L):wpS P n (.region id l.toArray true) Q S D B L:=fun C k T hn hT hA=>by
 refine C.X.step rfl fun w s=>⟨_,_,_,B,L.flatten ++ C.F,ZfR,by simp,⟨Kn.le.refl B,⟨s.ro,s.own,s.nodup,s.apart⟩,Nat.le_refl _,fun _ _ _=>rfl,fun b o hb=>.inl (by rw [hb];rfl),fun p hp=>.inl ⟨p,hp,rfl⟩,fun _=>rfl,rfl,rfl,rfl⟩,?_⟩
 exact h C k T [] [] _ (Zog hm hd _) (fun i hi=>by cases hi) (fun i hi=>by cases hi) (fun i hi=>by cases hi) (fun p hp=>by cases hp) trivial hn trivial hT hI fun S' D' B' L' T' hle hq hn' hT'=>
  C.X.ctl rfl (fun w=>ZcH) (hA .normal S' D' B' L' T' hle hq hn' hT')
end
end Go.BL
namespace Go.BL
section
variable {P:PJ} {C:Cx P} {k:List Item} {n:Nat} {Q:Exit→Zao} {S:Env} {D:List Deferred} {B:Kn} {L:List Cells}
theorem Zka {id:Nat} {l:List Oper} {y:Code} (d:Nat) (e:Bool) (ks:List Nat) (h:Zp4 P n l.toArray 0 l (fun S₂ D₂ B₂ L₂=>D₂=D∧B₂=B∧L₂=L∧get S₂ d=some (.bool e)∧Sub (sel ks S) S₂) S D B L)
  (h':wpS P n y Q ((d,.bool e) :: sel ks S) D B L):wpS P n (.seq (.region id l.toArray false) y) Q S D B L:=
 Zst (fun S₂ D₂ B₂ L₂=>D₂=D∧B₂=B∧L₂=L∧get S₂ d=some (.bool e)∧Sub (sel ks S) S₂) (Zc h) fun S₂ D₂ B₂ L₂ _ ⟨h1,h2,h3,h4,h5⟩=>by
  subst h1;subst h2;subst h3
  exact Z2 ((d,.bool e) :: sel ks S) ⟨h4,h5⟩ h'
theorem Ziv {id:Nat} {l:List Oper} {y:Code} (d:Nat) (e:Bool) (ks:List Nat) (I:Kn→List Cells→Prop) (hm:P.follows .mixedOrders=true) (hd:ZdR l.toArray=true) (hI:I B L)
  (h :∀(C:Cx P) (k:List Item),ZbV C k n l.toArray I [] (fun S₂ D₂ B₂ L₂=>D₂=D∧B₂=B∧L₂=L∧get S₂ d=some (.bool e)∧Sub (sel ks S) S₂) S D B L)
  (h':wpS P n y Q ((d,.bool e) :: sel ks S) D B L):wpS P n (.seq (.region id l.toArray true) y) Q S D B L:=
 Zst (fun S₂ D₂ B₂ L₂=>D₂=D∧B₂=B∧L₂=L∧get S₂ d=some (.bool e)∧Sub (sel ks S) S₂) (Z0 I hm hd hI h) fun S₂ D₂ B₂ L₂ _ ⟨h1,h2,h3,h4,h5⟩=>by
  subst h1;subst h2;subst h3
  exact Z2 ((d,.bool e) :: sel ks S) ⟨h4,h5⟩ h'
theorem Zdq {S₂:Env} {d:Nat} {x e:Bool} (hx:get S₂ d=some (.bool x)) (he:x=e):get S₂ d=some (.bool e):=by rw [hx,he]
theorem ZaH {ops:Array Oper} {I:Kn→List Cells→Prop} {ℓ:List Nat} {K:Zao} {d:Nat} {t:Bool} (hb:get S d=some (.bool t)) (h1:t=true→ZbV C k n ops I ℓ K ((d,.bool true) :: S) D B L) (h2:t=false→ZbV C k n ops I ℓ K ((d,.bool false) :: S) D B L):ZbV C k n ops I ℓ K S D B L:=by
 have key :∀(S':Env),(∀i v,get S' i=some v→get S i=some v)→ZbV C k n ops I ℓ K S' D B L→ZbV C k n ops I ℓ K S D B L:=
  fun S' hs h T ex pend π a1 a0 a2 a3 a4 a5 a6 a7 a8 a9 hA=>h T ex pend π a1 a0 a2 a3 a4 a5 a6 a7 (fun i v hv=>a8 i v (hs i v hv)) a9 hA
 have get_same :∀(u:Bool),t=u→∀i v,get ((d,Value.bool u) :: S) i=some v→get S i=some v:=by
  intro u hu i v hv
  simp only [get] at hv
  cases hbe:Nat.beq d i with
  | true=>
   rw [hbe] at hv
   simp only [cond_true,Option.some.injEq] at hv
   have:=Nat.eq_of_beq_eq_true hbe
   subst this;subst hu;rw [hb,← hv]
  | false=>rw [hbe] at hv;exact hv
 cases t with
 | true=>exact key _ (get_same true rfl) (h1 rfl)
 | false=>exact key _ (get_same false rfl) (h2 rfl)
@[reducible] def same (B:Kn) (L:List Cells):Kn→List Cells→Prop:=fun B' L'=>B'=B∧L'=L
theorem Zar {ops:Array Oper} {i:Nat} {o:Oper} {v:Value} {ρ:Env} (h :∀D,opX P n ops i o (fun v' D' B' L'=>v'=v∧D'=D∧B'=B∧L'=L) ρ D B L):quiet P n ops (same B L) i o v ρ:=by
 rintro D _ _ ⟨rfl,rfl⟩;exact h D
end
end Go.BL
namespace Go.BL
def Zad:List Nat→List Cells→List Cells→Prop
 | [],_,_=>True
 | j :: js,L,L'=>L'[j]? = L[j]?∧Zad js L L'
@[reducible] def keeps (B:Kn) (js:List Nat) (L:List Cells):Kn→List Cells→Prop:=fun B' L'=>B.le B'∧Zad js L L'
theorem Zad.refl :∀(js:List Nat) (L:List Cells),Zad js L L
 | [],_=>trivial
 | _ :: js,L=>⟨rfl,Zad.refl js L⟩
section
variable {P:PJ} {C:Cx P} {k:List Item} {n:Nat} {B:Kn} {L:List Cells}
theorem ZB {ops:Array Oper} {I:Kn→List Cells→Prop} {i:Nat} {o:Oper} {v:Value} {ρ:Env} (h :∀D B L,I B L→opX P n ops i o (fun v' D' B' L'=>v'=v∧D'=D∧B'=B∧L'=L) ρ D B L):quiet P n ops I i o v ρ:=h
end
end Go.BL
namespace Go.BL
open Go.Conc (G)
def Ziq (l:Cells) (p:Option Addr) (n c:Nat) (T:TypeId) (sz:Nat) (vs:List Value):Prop:=
 vs.length=n*sz∧((p=none∧n=0∧c=0∧l=[])∨∃(b:Nat) (arr:List Value),p=some ⟨b,0,none⟩∧arr.length=c*sz∧arr.take (n*sz)=vs∧l=Zah b arr T∧n≤c)
theorem Ziq.nil (T:TypeId) (sz:Nat):Ziq [] none 0 0 T sz []:=⟨by simp,.inl ⟨rfl,rfl,rfl,rfl⟩⟩
theorem Ziq.lit {b:Nat} {arr:List Value} {T:TypeId} {sz n:Nat} (h:arr.length=n*sz):Ziq (Zah b arr T) (some ⟨b,0,none⟩) n n T sz arr:=
 ⟨h,.inr ⟨b,arr,rfl,h,by rw [← h];simp,rfl,Nat.le_refl _⟩⟩
theorem ZmA (m:Nat) :∀(r c:Nat),256≤c→c≤2*m→Builtin.growBy m r c≤2*m
 | 0,c,_,h=>h
 | r+1,c,h0,h=>by
  simp only [Builtin.growBy]
  split
  ·exact h
  ·exact ZmA m r _ (by omega) (by omega)
theorem ZiX {need cap:Nat} (h:cap<need):Builtin.nextslicecap need cap≤2*need:=by
 unfold Builtin.nextslicecap
 split
 ·omega
 ·split
  ·omega
  ·exact ZmA need 4 cap (by omega) (by omega)
def ZaQ (B:Kn) (L:Cells) (q:Option Addr) (ws:List Value):Prop:=match q with
 | none=>ws=[]
 | some a=>∀j v,ws[j]? = some v→Zbj B L (a.add j) v
theorem ZaQ.app {B:Kn} {L F:Cells} {q:Option Addr} {ws:List Value} (h:ZaQ B L q ws):ZaQ B (L ++ F) q ws:=by
 cases q with
 | none=>exact h
 | some a=>exact fun j v hj=>(h j v hj).app
theorem Zdt {P:PJ} {B:Kn} {L:Cells} {q:Option Addr} {ws:List Value} {sz m c:Nat} (hs:ZaQ B L q ws) (hl:ws.length=m*sz) {Q:Array Value→Kn→Cells→Prop} (h:Q ws.toArray B L):hb P (Builtin.firstCells sz m (.slice q m c)) Q B L:=by
 cases q with
 | none=>
  obtain rfl:ws=[]:=hs
  exact h
 | some a=>
  simp only [Builtin.firstCells,loadCells]
  rw [← hl]
  exact Zde ws 0 #[] (fun j v hj=>by simpa using hs j v hj) (by simpa using h)
theorem Zal :∀(l:List Value) (i:Nat) (vs:List Value),(Zav l i vs).length=l.length
 | [],i,[]=>by cases i <;> rfl
 | [],i,v :: vs=>by cases i <;> rfl
 | x :: l,0,[]=>rfl
 | x :: l,i+1,[]=>rfl
 | x :: l,0,v :: vs=>by simp [Zav,Zal l 0 vs]
 | x :: l,i+1,v :: vs=>by simp [Zav,Zal l i (v :: vs)]
theorem Zeq :∀(l:List Value) (i:Nat) (vs:List Value),i+vs.length≤l.length→(Zav l i vs).take (i+vs.length)=l.take i ++ vs
 | l,i,[],h=>by simp [ZbX]
 | [],i,v :: vs,h=>by simp at h
 | x :: l,0,v :: vs,h=>by
  have:=Zeq l 0 vs (by simpa using h)
  simp only [Nat.zero_add] at this
  simp [Zav,this]
 | x :: l,i+1,v :: vs,h=>by
  have:=Zeq l i (v :: vs) (by simp only [List.length_cons] at h ⊢;omega)
  simp only [Zav,List.take_succ_cons,List.cons_append,List.length_cons] at this ⊢
  rw [show i+1+(vs.length+1)=(i+(vs.length+1))+1 from by omega,List.take_succ_cons,this]
section
variable {P:PJ} {n:Nat} {ops:Array Oper} {i:Nat} {K:Zbl} {S:Env} {D:List Deferred} {B:Kn} {L:List Cells}
variable {dst:Option Tmp} {ty:TypeId} {pos:String} {after:Array Edge} {g:Option (Nat × Bool)}
def Zck (P:Program) (t e:TypeId) (sz by_:Nat):Bool:=match P.underlying t,P.info? e with
 | some (.slice e'),some i=>e' == e && i.size == sz && i.bytes == by_ && Nat.blt 0 by_ && (match i.zero with | some z=>z.cells.size == sz | none=>false)
 | _,_=>false
theorem ZkB {k:Nat} {Q:Unit→Kn→Cells→Prop} {B:Kn} {L:Cells} (h:Q () B L):hb P (askRoom k) Q B L:=by
 unfold askRoom
 split
 ·exact ⟨rfl,h⟩
 ·exact h
theorem ZfP (z:Array Value) (k:Nat):(Builtin.zeroCells z k).size=k*z.size:=by simp [Builtin.zeroCells]
theorem ZeO {t u e:TypeId} {x y:Operand} {sz by_ m c d c2:Nat} {p q:Option Addr} {vs ws:List Value} {l:Cells} (j:Nat) (hj:L[j]? = some l) (hv:Ziq l p m c e sz vs) (hg:Zm ops S g=some true) (hd:ZC n dst=true)
  (he:Zck P t e sz by_=true) (hu:(match P.underlying u with | some (.slice _)=>true | _=>false)=true) (hx:ev S x=some (.slice p m c)) (hy:ev S y=some (.slice q d c2)) (hs:ZaQ B L.flatten q ws) (hl:ws.length=d*sz) (hone:ws.all ZgT=true) (hb1:(m+d)*by_≤140737488355328)
  (h :∀l' p' c',Ziq l' p' (m+d) c' e sz (vs ++ ws)→K (.slice p' (m+d) c') D B (L.set j l')):opX P n ops i ⟨dst,.call ⟨.builtin .append,#[x,y],#[t,u]⟩,ty,pos,after,g⟩ K S D B L:=
 Zd7 hg hd fun ρ hρ F=>by
  unfold Zck at he
  split at he
  ·rename_i e' inf hut hie
   simp only [Bool.and_eq_true,beq_iff_eq] at he
   obtain ⟨⟨⟨⟨rfl,hsz⟩,hby⟩,hpos⟩,hz⟩:=he
   cases hzo:inf.zero with
   | none=>rw [hzo] at hz;cases hz
   | some z=>
    rw [hzo] at hz
    have hz':z.cells.size=sz:=by simpa using hz
    have hsi:Z8 P e'=some sz:=by simp [Z8,hie,hsz]
    have hzi:ZaB P e'=some z:=by simp [ZaB,hie,hzo]
    obtain ⟨du,hdu,hnoint⟩ :∃du,P.underlying u=some du∧(match du with | .slice _=>true | _=>false)=true:=by
     cases hq:P.underlying u with
     | none=>rw [hq] at hu;cases hu
     | some du=>exact ⟨du,rfl,by rw [hq] at hu;cases du <;> simp_all⟩
    obtain ⟨e2,rfl⟩ :∃e2,du = .slice e2:=by cases du <;> first | exact ⟨_,rfl⟩ | cases hnoint
    obtain ⟨rr,hp1,_⟩:=Zaa F [] hj
    have hset :∀l',((L.set j l').flatten ++ F).Perm (l' ++ rr):=fun l'=>by
     obtain ⟨r2,a1,a2⟩:=Zaa F l' hj
     have:rr.Perm r2:=(List.perm_append_left_iff l).1 (hp1.symm.trans a1)
     exact a2.trans (List.Perm.append_left l' this.symm)
    obtain ⟨hvl,hcase⟩:=hv
    simp only [execOp,resolve,Zk,Zr,invoke,builtin,Builtin.append_,List.map_toArray,List.map_cons,List.map_nil,hρ x _ hx,hρ y _ hy,List.getElem?_toArray,List.getElem?_cons_zero,List.getElem?_cons_succ,Zt hut,Zt hdu,ZaS hsi,Bool.false_eq_true,if_false,Builtin.lenOf,Bool.not_false,if_true]
    by_cases hfit:m+d≤c
    ·rw [if_pos hfit]
     simp only [Zk]
     refine Zdt hs.app hl ?_
     rcases hcase with ⟨rfl,rfl,rfl,rfl⟩ | ⟨b,arr,rfl,ha,ht,rfl,hmc⟩
     ·simp only [Zr]
      obtain rfl:d=0:=by omega
      have hw:ws=[]:=List.eq_nil_of_length_eq_zero (by simpa using hl)
      have hvn:vs=[]:=List.eq_nil_of_length_eq_zero (by simpa using hvl)
      refine ⟨L,.of (.refl _),?_⟩
      have:=h [] none 0 ⟨by simp [hw,hvn],.inl ⟨rfl,rfl,rfl,rfl⟩⟩
      rwa [ZgJ hj] at this
     ·simp only [Zk]
      have hoff:(Addr.add ⟨b,0,none⟩ (m*sz)).off=m*sz:=by unfold Addr.add;split <;> simp_all
      have hblk:(Addr.add ⟨b,0,none⟩ (m*sz)).block=b:=by unfold Addr.add;split <;> rfl
      have hspt:(Addr.add ⟨b,0,none⟩ (m*sz)).spot=none:=by unfold Addr.add;split <;> rfl
      have hlen:m*sz+ws.length≤arr.length:=by rw [ha,hl,← Nat.add_mul];exact Nat.mul_le_mul_right sz hfit
      refine ZcN (T:=e') (L₁:=rr) hspt ws 0 arr _ hone (by rw [hblk];exact hp1) (by rw [hoff,Nat.add_zero];exact hlen) fun L' hp=>?_
      simp only [Zr]
      rw [hblk,hoff,Nat.add_zero] at hp
      refine ⟨L.set j (Zah b (Zav arr (m*sz) ws) e'),(Sup.of (hp.trans (hset (Zah b (Zav arr (m*sz) ws) e')).symm)),h _ _ _ ⟨?_,.inr ⟨b,_,rfl,by rw [Zal,ha],?_,rfl,hfit⟩⟩⟩
      ·rw [List.length_append,hvl,hl,Nat.add_mul]
      ·rw [Nat.add_mul,← hl,Zeq _ _ _ hlen,ht]
    ·rw [if_neg hfit]
     have hcap:c<m+d:=by omega
     have hbig : ¬ (Builtin.nextslicecap (m+d) c*by_ > 2 ^ 48):=by
      have h1:=ZiX hcap
      have h2:Builtin.nextslicecap (m+d) c*by_≤2*(m+d)*by_:=Nat.mul_le_mul_right _ h1
      have h3:2*(m+d)*by_=2*((m+d)*by_):=by rw [Nat.mul_assoc]
      omega
     have hby0:inf.bytes≠0:=by rw [hby];have:=hpos;simp at this;omega
     have hby1:by_≠0:=by rw [← hby];exact hby0
     simp only [Zk,Zb1 hie,hby,hbig,if_false,false_or,hby1,and_false]
     intro nc hf1 hf2
     obtain ⟨tt,rfl⟩:=hf2 rfl
     have hnc:m+d≤Question.cut (.appendCap (m+d) c e') tt:=by simp only [Question.cut];omega
     generalize Question.cut (.appendCap (m+d) c e') tt=nc at *
     simp only [Zk,ZbQ,Zb1 hie]
     refine ZkB ?_
     have hold:ZaQ B (L.flatten ++ F) p vs:=by
      rcases hcase with ⟨rfl,rfl,rfl,rfl⟩ | ⟨b,arr,rfl,ha,ht,rfl,hmc⟩
      ·exact List.eq_nil_of_length_eq_zero (by simpa using hvl)
      ·intro k v hk
       have hv':arr[k]? = some v:=by
        rw [← ht,List.getElem?_take] at hk
        split at hk
        ·exact hk
        ·cases hk
       rw [Addr.add_off _ _ rfl,Nat.zero_add]
       exact ⟨rfl,arr.toArray,e',(0,0),.inr (List.mem_append.2 (.inl (List.mem_flatten.2 ⟨_,List.mem_of_getElem? hj,List.mem_cons_self ..⟩))),by simpa using hv'⟩
     rw [Zk]
     refine Zdt hold hvl ?_
     rw [Zk]
     refine Zdt hs.app hl ?_
     rw [Zk,Zb0 hzi,Zk]
     refine ⟨rfl,fun b _ _=>?_⟩
     have hzs:(Builtin.zeroCells z.cells (nc - (m+d))).size=(nc - (m+d))*sz:=by rw [ZfP,hz']
     have harr:vs.toArray ++ ws.toArray ++ Builtin.zeroCells z.cells (nc - (m+d))=(vs ++ ws ++ (Builtin.zeroCells z.cells (nc - (m+d))).toList).toArray:=by
      apply Array.ext';simp
     simp only [ZbQ,Zr]
     rw [harr]
     let r0:List Value:=(Builtin.zeroCells z.cells (nc - (m+d))).toList
     have hr0:r0.length=(nc - (m+d))*sz:=by simp only [r0,Array.length_toList];exact hzs
     refine ⟨L.set j (Zah b (vs ++ ws ++ r0) e'),⟨l,?_⟩,h _ _ _ ⟨?_,.inr ⟨b,vs ++ ws ++ r0,rfl,?_,?_,rfl,hnc⟩⟩⟩
     ·refine (List.Perm.cons _ hp1).trans (List.Perm.trans ?_ (List.Perm.append_right l (hset (Zah b (vs ++ ws ++ r0) e')).symm))
      show ((b,_) :: (l ++ rr)).Perm (((b,_) :: rr) ++ l)
      exact List.Perm.cons _ List.perm_append_comm
     ·rw [List.length_append,hvl,hl,Nat.add_mul]
     ·rw [List.length_append,List.length_append,hvl,hl,hr0,← Nat.add_mul,← Nat.add_mul,Nat.add_sub_cancel' hnc]
     ·rw [List.take_append_of_le_length (by rw [List.length_append,hvl,hl,Nat.add_mul];exact Nat.le_refl _),List.take_of_length_le (by rw [List.length_append,hvl,hl,Nat.add_mul];exact Nat.le_refl _)]
  ·cases he
end
end Go.BL
namespace Go.BL
open Go.Conc (G)
def Zj4 (pl:Nat→Option (Nat × Nat)):List Value→List (Nat × Value)→Option (List Value)
 | l,[]=>some l
 | l,(i,v) :: r=>match pl i with
  | some (off,sz)=>bif Nat.beq v.cells.toList.length sz && Nat.ble (off+sz) l.length then Zj4 pl (Zav l off v.cells.toList) r else none
  | none=>none
theorem ZoF (off:Nat) :∀(cs:List Value) (k:Nat) (a:Array Value),((cs.zipIdx k).foldl (fun a (x:Value × Nat)=>a.setIfInBounds (off+x.2) x.1) a).toList=Zav a.toList (off+k) cs
 | [],k,a=>by simp [ZbX]
 | c :: cs,k,a=>by
  rw [List.zipIdx_cons,List.foldl_cons,ZoF off cs (k+1)]
  rw [Zdw]
  simp [Nat.add_assoc]
theorem ZjB (pl:Nat→Option (Nat × Nat)) :∀(parts:List (Nat × Value)) (a:Array Value) (l':List Value),Zj4 pl a.toList parts=some l'→Instr.fill pl a parts=some l'.toArray
 | [],a,l',h=>by
  simp only [Zj4,Option.some.injEq] at h
  subst h
  simp [Instr.fill]
 | (i,v) :: r,a,l',h=>by
  simp only [Zj4] at h
  split at h
  ·rename_i off sz hpl
   cases hc:(Nat.beq v.cells.toList.length sz && Nat.ble (off+sz) a.toList.length) with
   | false=>rw [hc] at h;cases h
   | true=>
    rw [hc] at h
    simp only [cond_true] at h
    rw [Bool.and_eq_true] at hc
    have h1:v.cells.size=sz:=by have:=Nat.eq_of_beq_eq_true hc.1;simpa using this
    have h2:off+sz≤a.size:=by have:=Nat.le_of_ble_eq_true hc.2;simpa using this
    simp only [Instr.fill,hpl,h1,ne_eq,not_true_eq_false,decide_false,Bool.false_or]
    rw [if_neg (by simp;omega)]
    have hf:=ZoF off v.cells.toList 0 a
    have e:(v.cells.zipIdx.foldl (fun cs (x:Value × Nat)=>cs.setIfInBounds (off+x.2) x.1) a).toList=Zav a.toList off v.cells.toList:=by
     rw [← Array.foldl_toList,Array.toList_zipIdx]
     simpa using hf
    refine ZjB pl r _ l' ?_
    rw [← h]
    exact congrArg (fun z=>Zj4 pl z r) e
  ·cases h
def Za5 (P:Program) (t:TypeId):Option (List (Nat × Nat)):=
 match P.underlying t with
 | some (.struct fs)=>fs.toList.mapM fun f=>(P.info? f.type).map fun i=>(f.offset,i.size)
 | _=>none
section
variable {P:PJ} {n:Nat} {ops:Array Oper} {i:Nat} {K:Zbl} {S:Env} {D:List Deferred} {B:Kn} {L:List Cells}
variable {dst:Option Tmp} {ty:TypeId} {pos:String} {after:Array Edge} {g:Option (Nat × Bool)}
theorem ZpK {Q:List (Nat × Nat)→Kn→Cells→Prop} {B:Kn} {L:Cells} :∀(fs:List Field) (pl:List (Nat × Nat)),fs.mapM (fun f=>(P.info? f.type).map fun i=>(f.offset,i.size))=some pl→Q pl B L→
  hb P (fs.mapM fun f=>do pure (f.offset,← sizeOf f.type)) Q B L:=by
 intro fs
 induction fs generalizing Q with
 | nil=>intro pl h q;simp only [List.mapM_nil,Option.pure_def,Option.some.injEq] at h;subst h;rw [List.mapM_nil];exact q
 | cons f fs ih=>
  intro pl h q
  simp only [List.mapM_cons,Option.bind_eq_bind,Option.bind_eq_some_iff,Option.map_eq_some_iff,Option.pure_def,Option.some.injEq] at h
  obtain ⟨p,⟨inf,hi,rfl⟩,r,hr,rfl⟩:=h
  have hs:Z8 P f.type=some inf.size:=by simp [Z8,hi]
  rw [List.mapM_cons,Zk]
  simp only [Zk,ZaS hs,Zr]
  exact ih r hr q
theorem ZlC (ρ:Operand→Value) :∀(parts:List (Nat × Operand)),(parts.toArray.map fun (x:Nat × Operand)=>(x.1,ρ x.2)).toList=(parts.map (·.1)).zip ((parts.map (·.2)).map ρ):=by
 intro parts
 rw [List.map_toArray]
 induction parts with
 | nil=>rfl
 | cons p r ih=>exact congrArg (List.cons (p.1,ρ p.2)) ih
theorem ZjA (sz:Nat) :∀(vs:List Value),vs.all (fun v=>Nat.beq v.cells.toList.length sz)=true→(vs.map fun v=>v.cells.toList).flatten.length=vs.length*sz
 | [],_=>by simp
 | v :: vs,h=>by
  simp only [List.all_cons,Bool.and_eq_true] at h
  rw [List.map_cons,List.flatten_cons,List.length_append,ZjA sz vs h.2,Nat.eq_of_beq_eq_true h.1,List.length_cons,Nat.succ_mul,Nat.add_comm]
theorem ZaG {t:TypeId} {parts:List (Nat × Operand)} {z:Value} {pl:List (Nat × Nat)} {vs:List Value} (zl l':List Value) (hg:Zm ops S g=some true) (hd:ZC n dst=true)
  (hpl:Za5 P t=some pl) (hz:ZaB P t=some z) (hzl:z.cells.toList=zl) (ha:evs S (parts.map (·.2))=some vs) (hf:Zj4 (fun i=>pl[i]?) zl ((parts.map (·.1)).zip vs)=some l')
  (h:K (.agg l'.toArray) D B L):opX P n ops i ⟨dst,.build t parts.toArray,ty,pos,after,g⟩ K S D B L:=
 ZV hg hd (fun ρ hρ Q F q=>by
  unfold Za5 at hpl
  split at hpl
  ·rename_i fs hu
   have hmap:(parts.toArray.map fun (x:Nat × Operand)=>(x.1,ρ x.2)).toList=(parts.map (·.1)).zip vs:=by
    rw [← ZbB hρ ha]
    exact ZlC ρ parts
   simp only [execOp,Instr.build,Zk,Zb0 hz,Zt hu,Array.mapM_eq_mapM_toList,Zt7]
   refine ZpK fs.toList pl hpl ?_
   have hfill:Instr.fill (fun i=>pl.toArray[i]?) z.cells ((parts.map (·.1)).zip vs)=some l'.toArray:=by
    refine ZjB _ _ _ l' ?_
    rw [hzl]
    simpa using hf
   rw [hmap,hfill]
   exact q
  ·cases hpl) h
theorem Zu {t e:TypeId} {len sz:Nat} {parts:List (Nat × Operand)} {z:Value} {vs:List Value} (l':List Value) (hg:Zm ops S g=some true) (hd:ZC n dst=true)
  (hu:P.underlying t=some (.slice e)) (hsz:Z8 P e=some sz) (hz:ZaB P e=some z) (hbig:Nat.ble (len*sz) 1024=true) (hidx:parts.map (·.1)=List.range len) (ha:evs S (parts.map (·.2))=some vs) (hall:vs.all (fun v=>Nat.beq v.cells.toList.length sz)=true) (hl':(vs.map fun v=>v.cells.toList).flatten=l')
  (h :∀b,K (.slice (some ⟨b,0,none⟩) len len) D B (L ++ [Zah b l' e])):opX P n ops i ⟨dst,.buildSlice t len parts.toArray,ty,pos,after,g⟩ K S D B L:=
 Zd7 hg hd fun ρ hρ F=>by
  have hmap:(parts.toArray.map fun (x:Nat × Operand)=>(x.1,ρ x.2)).toList=(List.range len).zip vs:=by
   rw [← hidx,← ZbB hρ ha]
   exact ZlC ρ parts
  have hbig' : ¬ (len*sz > 2 ^ 24):=by have:=Nat.le_of_ble_eq_true hbig;omega
  have hvl:vs.length=len:=by
   have h1:=congrArg List.length hidx
   have h2:=congrArg List.length (ZbB hρ ha)
   simp only [List.length_map,List.length_range] at h1 h2
   omega
  have hfillL :∀(vs:List Value) (k:Nat) (l:List Value),vs.all (fun v=>Nat.beq v.cells.toList.length sz)=true→(k+vs.length)*sz≤l.length→
    Zj4 (fun i=>some (i*sz,sz)) l ((List.range' k vs.length).zip vs)=some (Zav l (k*sz) (vs.map fun v=>v.cells.toList).flatten):=by
   intro vs
   induction vs with
   | nil=>intro k l _ _;simp [Zj4,ZbX]
   | cons v vs ih=>
    intro k l hall hl
    simp only [List.all_cons,Bool.and_eq_true] at hall
    have e1:=Nat.eq_of_beq_eq_true hall.1
    have hle:k*sz+sz≤l.length:=by
     rw [← Nat.succ_mul]
     exact Nat.le_trans (Nat.mul_le_mul_right sz (by simp only [List.length_cons];omega)) hl
    simp only [List.length_cons,List.range'_succ,List.zip_cons_cons,Zj4,hall.1,Bool.true_and]
    rw [show Nat.ble (k*sz+sz) l.length=true from Nat.ble_eq_true_of_le hle]
    simp only [cond_true]
    rw [ih (k+1) _ hall.2 (by rw [Zal];simp only [List.length_cons] at hl;rw [show k+1+vs.length=k+(vs.length+1) from by omega];exact hl)]
    rw [List.map_cons,List.flatten_cons]
    congr 1
    have :∀(a:List Value) (l:List Value) (o:Nat) (r:List Value),Zav l o (a ++ r)=Zav (Zav l o a) (o+a.length) r:=by
     intro a
     induction a with
     | nil=>intro l o r;simp [ZbX]
     | cons x a ih2=>
      intro l o r
      rw [List.cons_append,Zdw,ih2,Zdw,List.length_cons]
      congr 1
      omega
    rw [this,e1,Nat.succ_mul]
  have key :∀za:Array Value,za.toList.length=len*sz→Instr.fill (fun i=>some (i*sz,sz)) za ((List.range len).zip vs)=some l'.toArray:=by
   intro za hza
   refine ZjB _ _ _ l' ?_
   have:=hfillL vs 0 za.toList hall (by rw [Nat.zero_add,hvl,hza];exact Nat.le_refl _)
   rw [List.range_eq_range',← hvl,this,Nat.zero_mul]
   congr 1
   rw [hl']
   have hl2:l'.length=za.toList.length:=by
    rw [← hl',hza,ZjA sz vs hall,hvl]
   have ht:=Zeq za.toList 0 l' (by omega)
   rw [List.take_of_length_le (by rw [Zal];omega)] at ht
   simpa using ht
  simp only [execOp,Instr.buildSlice,Zk,Zt hu,ZaS hsz,hbig',if_false,Zr,hmap]
  have hend :∀(z0:Sem Value) (za:Array Value),za.toList.length=len*sz→hb P (match Instr.fill (fun i=>some (i*sz,sz)) za ((List.range len).zip vs) with
    | some cells=>do pure (Value.slice (some (← newRow e cells)) len len)
    | _=>z0) (fun v B' L'=>∃L1,Sup L' (L1.flatten ++ F)∧K v D B' L1) B (L.flatten ++ F):=fun z0 za hza=>by
   rw [key za hza]
   simp only [Zk,Zr]
   refine ⟨rfl,fun b _ _=>?_⟩
   exact ⟨L ++ [Zah b l' e],.of (ZeD L (Zah b l' e) F),h b⟩
  by_cases h0:len*sz=0
  ·rw [if_pos h0]
   exact hend _ _ (by simp)
  ·rw [if_neg h0]
   simp only [Zk,Zb0 hz,Zr]
   exact hend _ _ (by simp)
end
end Go.BL
namespace Go.BL
open Go.Conc (G)
section
variable {P:PJ} {n:Nat} {ops:Array Oper} {i:Nat} {K:Zbl} {S:Env} {D:List Deferred} {B:Kn} {L:List Cells}
variable {dst:Option Tmp} {ty:TypeId} {pos:String} {after:Array Edge} {g:Option (Nat × Bool)}
theorem Zm8 {s d:TypeId} {x:Operand} {k k':IntKind} {a r:Int} (hg:Zm ops S g=some true) (hd:ZC n dst=true) (hu:P.underlying s=some (.int k)) (hu':P.underlying d=some (.int k')) (hx:ev S x=some (.int k a)) (hr:k'.wrap a=r) (h:K (.int k' r) D B L) :
  opX P n ops i ⟨dst,.convert s d x,ty,pos,after,g⟩ K S D B L:=
 ZV hg hd (fun ρ hρ Q F q=>by
  subst hr
  simp only [execOp,convert,hρ x _ hx,Zk,Zt hu,Zt hu',Conv.intToInt,Zr];exact q) h
theorem ZiV {w:Nat} {a:Int} (h0:0≤a) (h1:a<2 ^ w):(BitVec.ofInt w a).toNat=a.toNat:=by
 obtain ⟨m,rfl⟩:=Int.eq_ofNat_of_zero_le h0
 have hm:m<2 ^ w:=by exact_mod_cast h1
 simp [BitVec.toNat_ofInt]
 exact Nat.mod_eq_of_lt hm
theorem Zxu {t u:TypeId} {x y:Operand} {a b:Int} (hg:Zm ops S g=some true) (hd:ZC n dst=true) (hx:ev S x=some (.int .i64 a)) (hy:ev S y=some (.int .i64 b)) (ha:0≤a) (ha':a<4611686018427387904) (hb':0≤b) (hb2:b<4611686018427387904)
  (h :∀r:Int,0≤r→r<4611686018427387904→K (.int .i64 r) D B L):opX P n ops i ⟨dst,.binOp .xor t x y u,ty,pos,after,g⟩ K S D B L:=by
 have hra:(BitVec.ofInt (IntKind.i64).bits a).toNat=a.toNat:=ZiV ha (by simp [IntKind.bits];omega)
 have hrb:(BitVec.ofInt (IntKind.i64).bits b).toNat=b.toNat:=ZiV hb' (by simp [IntKind.bits];omega)
 have hx2:(BitVec.ofInt (IntKind.i64).bits a ^^^ BitVec.ofInt (IntKind.i64).bits b).toNat<4611686018427387904:=by
  rw [BitVec.toNat_xor,hra,hrb]
  exact Nat.xor_lt_two_pow (n:=62) (by omega) (by omega)
 refine ZV hg hd (v:=.int .i64 ((BitVec.ofInt (IntKind.i64).bits a ^^^ BitVec.ofInt (IntKind.i64).bits b).toNat:Int)) (fun ρ hρ Q F q=>?_) (h _ (by omega) (by omega))
 have hw:IntKind.wrap .i64 ((BitVec.ofInt (IntKind.i64).bits a ^^^ BitVec.ofInt (IntKind.i64).bits b).toNat:Int)=((BitVec.ofInt (IntKind.i64).bits a ^^^ BitVec.ofInt (IntKind.i64).bits b).toNat:Int):=Za9 (by omega) (by omega)
 simp only [execOp,hρ x _ hx,hρ y _ hy,Zk,ZaF,binOp,ne_eq,not_true_eq_false,if_false,Op.intBits,Zr,hw]
 exact q
end
section
variable {P:PJ} {n:Nat} {ops:Array Oper} {i:Nat} {K:Zbl} {S:Env} {D:List Deferred} {B:Kn} {L:List Cells}
variable {dst:Option Tmp} {ty:TypeId} {pos:String} {after:Array Edge} {g:Option (Nat × Bool)}
def Zxd (P:Program) (t:TypeId) (a b:Value) (r:Bool):Prop:=∀(B:Kn) (L:Cells) (Q:Bool→Kn→Cells→Prop),Q r B L→hb P (Op.equal t a b) Q B L
def Zhv (a b:Value):Bool:=match a,b with
 | .nilIface,.nilIface=>false
 | .agg _,.agg _=>false
 | .int _ _,.int _ _=>false
 | .float _ _,.float _ _=>false
 | .complex _ _ _,.complex _ _ _=>false
 | .string _,.string _=>false
 | _,_=>true
theorem ZwL {t:TypeId} {a b:Bool} (hu:P.underlying t=some .bool):Zxd P t (.bool a) (.bool b) (decide (a=b)):=fun B L Q q=>by
 have e:(a == b)=decide (a=b):=by cases a <;> cases b <;> rfl
 show hb P (Op.equalIn (9999+1) t _ _) Q B L
 rw [Op.equalIn,Zk,Zt hu]
 simp only [Zr,e];exact q
theorem ZmT {t:TypeId} {a b:Value} (h:Zhv a b=true∨∃x y,a = .agg x∧b = .agg y):binOp .eql t a b=(do pure (.bool (← Op.equal t a b))):=by
 rcases h with h | ⟨x,y,rfl,rfl⟩
 ·cases a <;> cases b <;> first | rfl | cases h
 ·rfl
theorem ZmS {t:TypeId} {a b:Value} (h:Zhv a b=true∨∃x y,a = .agg x∧b = .agg y):binOp .neq t a b=(do pure (.bool (!(← Op.equal t a b)))):=by
 rcases h with h | ⟨x,y,rfl,rfl⟩
 ·cases a <;> cases b <;> first | rfl | cases h
 ·rfl
theorem Zgk {op:BinOp} {t:TypeId} {x y:Operand} {a b:Value} {Q:Unit→Kn→Cells→Prop} {L:Cells} (h:Zhv a b=true):hb P (eqGuard op t x y a b) Q B L=Q () B L:=by
 refine ZaF ?_
 cases a <;> cases b <;> first | rfl | cases h
theorem ZlI {t u:TypeId} {x y:Operand} {a b:Value} {r:Bool} (hg:Zm ops S g=some true) (hd:ZC n dst=true) (hx:ev S x=some a) (hy:ev S y=some b) (hp:Zhv a b=true) (he:Zxd P t a b r) (h:K (.bool r) D B L):opX P n ops i ⟨dst,.binOp .eql t x y u,ty,pos,after,g⟩ K S D B L:=
 ZV hg hd (fun ρ hρ Q F q=>by
  simp only [execOp,hρ x _ hx,hρ y _ hy,Zk,Zgk hp,ZmT (.inl hp),Zr]
  exact he _ _ (fun r B' L'=>Q (.value (.bool r)) B' L') q) h
theorem Zqg {t u:TypeId} {x y:Operand} {a b:Value} {r:Bool} (hg:Zm ops S g=some true) (hd:ZC n dst=true) (hx:ev S x=some a) (hy:ev S y=some b) (hp:Zhv a b=true) (he:Zxd P t a b r) (h:K (.bool (!r)) D B L):opX P n ops i ⟨dst,.binOp .neq t x y u,ty,pos,after,g⟩ K S D B L:=
 ZV hg hd (fun ρ hρ Q F q=>by
  simp only [execOp,hρ x _ hx,hρ y _ hy,Zk,Zgk hp,ZmS (.inl hp),Zr]
  exact he _ _ (fun r B' L'=>Q (.value (.bool (!r))) B' L') q) h
end
def Ex1 (P:PJ) (f:FuncId) (vs:List Value) (B:Kn) (s:Cells) (Q:Value→Cells→Prop):Prop:=Zv P f vs B [s] fun v' B' Ls=>B'=B∧∃s',Ls=[s']∧Q v' s'
def ZyS (P:PJ) (f:FuncId) (vs:List Value) (B:Kn) (Q:Value→Cells→Prop):Prop:=Zv P f vs B [] fun v' B' Ls=>B'=B∧∃s',Ls=[s']∧Q v' s'
section
variable {P:PJ} {n:Nat} {ops:Array Oper} {i:Nat} {K:Zbl} {S:Env} {D:List Deferred} {B:Kn} {L:List Cells}
variable {dst:Option Tmp} {ty:TypeId} {pos:String} {after:Array Edge} {g:Option (Nat × Bool)}
theorem ZbD {f:FuncId} {xs:List Operand} {vs:List Value} {ats:Array TypeId} {Q:Value→Cells→Prop} (j:Nat) {s:Cells} (hj:L[j]? = some s) (hg:Zm ops S g=some true) (hd:ZC n dst=true) (he:enters P f=true) (ha:evs S xs=some vs) (hc:Ex1 P f vs B s Q)
  (h :∀v s',Q v s'→K v D B (L.set j s')):opX P n ops i ⟨dst,.call ⟨.value (.func f),xs.toArray,ats⟩,ty,pos,after,g⟩ K S D B L:=
 Zqn j hj hg hd he ha hc fun v' B' Ls' hle ⟨h2,s',h3,h4⟩=>by subst h2;subst h3;exact ⟨s',[],rfl,by rw [List.append_nil];exact h v' s' h4⟩
theorem ZtV {f:FuncId} {xs:List Operand} {vs:List Value} {ats:Array TypeId} {Q:Value→Cells→Prop} (hg:Zm ops S g=some true) (hd:ZC n dst=true) (he:enters P f=true) (ha:evs S xs=some vs) (hc:ZyS P f vs B Q)
  (h :∀v s',Q v s'→K v D B (L ++ [s'])):opX P n ops i ⟨dst,.call ⟨.value (.func f),xs.toArray,ats⟩,ty,pos,after,g⟩ K S D B L:=
 Zbs hg hd he ha hc fun v' B' Ls' hle ⟨h2,s',h3,h4⟩=>by subst h2;subst h3;exact h v' s' h4
end
def Za0:List Cells→List Nat→Option (List Cells × List Cells)
 | L,[]=>some ([],L)
 | L,j :: js=>match L[j]? with
  | some s=>(Za0 (L.set j []) js).map fun x=>(s :: x.1,x.2)
  | none=>none
def ZcS:List Cells→List Nat→List Cells→List Cells
 | r,_,[]=>r
 | r,[],l=>r ++ l
 | r,j :: js,s :: l=>ZcS (r.set j s) js l
theorem ZaC :∀(js:List Nat) (L ss r:List Cells),Za0 L js=some (ss,r)→L.flatten.Perm (ss.flatten ++ r.flatten)
 | [],L,ss,r,h=>by
  simp only [Za0,Option.some.injEq,Prod.mk.injEq] at h
  obtain ⟨rfl,rfl⟩:=h
  simp
 | j :: js,L,ss,r,h=>by
  simp only [Za0] at h
  split at h
  ·rename_i s hj
   simp only [Option.map_eq_some_iff,Prod.mk.injEq] at h
   obtain ⟨⟨x,y⟩,h1,rfl,rfl⟩:=h
   have h2:=ZaC js _ _ _ h1
   have h3:=ZgQ hj
   simp only [List.flatten_cons,List.flatten_nil,List.append_nil] at h3
   rw [List.flatten_cons,List.append_assoc]
   exact h3.trans (List.Perm.append_left _ h2)
  ·cases h
theorem Zcs :∀(js:List Nat) (L ss r:List Cells),Za0 L js=some (ss,r)→∀j,L[j]? = some []∨j∈js→r[j]? = some []
 | [],L,ss,r,h,j,hj=>by
  simp only [Za0,Option.some.injEq,Prod.mk.injEq] at h
  obtain ⟨rfl,rfl⟩:=h
  rcases hj with hj | hj
  ·exact hj
  ·cases hj
 | k :: js,L,ss,r,h,j,hj=>by
  simp only [Za0] at h
  split at h
  ·rename_i s hk
   simp only [Option.map_eq_some_iff,Prod.mk.injEq] at h
   obtain ⟨⟨x,y⟩,h1,rfl,rfl⟩:=h
   refine Zcs js _ _ _ h1 j ?_
   rcases hj with hj | hj
   ·left
    rw [List.getElem?_set]
    split
    ·rename_i e;subst e
     have:=(List.getElem?_eq_some_iff.1 hk).1
     simp [this]
    ·exact hj
   ·rcases List.mem_cons.1 hj with rfl | hj
    ·left
     have:=(List.getElem?_eq_some_iff.1 hk).1
     simp [this]
    ·exact .inr hj
  ·cases h
theorem Zcr :∀(l:List Cells) (r:List Cells) (js:List Nat),js.Nodup→(∀j,j∈js→r[j]? = some [])→(l.flatten ++ r.flatten).Perm (ZcS r js l).flatten
 | [],r,js,_,_=>by simp [ZcS]
 | s :: l,r,[],_,_=>by
  simp only [ZcS,List.flatten_append]
  exact List.perm_append_comm
 | s :: l,r,j :: js,hn,he=>by
  rw [ZcS]
  rw [List.nodup_cons] at hn
  have h1:=Zcr l (r.set j s) js hn.2 fun k hk=>by
   rw [List.getElem?_set,if_neg (fun e=>hn.1 (by rw [e];exact hk))]
   exact he k (List.mem_cons_of_mem _ hk)
  have hj:=he j (List.mem_cons_self ..)
  have hlt:=(List.getElem?_eq_some_iff.1 hj).1
  have h2:(r.set j s)[j]? = some s:=by simp [hlt]
  have h3:=ZgQ h2
  rw [List.set_set] at h3
  have h4:r.set j []=r:=ZgJ hj
  rw [h4] at h3
  refine List.Perm.trans ?_ h1
  rw [List.flatten_cons,List.append_assoc]
  simp only [List.flatten_cons,List.flatten_nil,List.append_nil] at h3
  refine List.Perm.trans ?_ (List.Perm.append_left _ h3.symm)
  rw [← List.append_assoc,← List.append_assoc]
  exact List.Perm.append_right _ List.perm_append_comm
def Ze4:List Nat→Bool
 | []=>true
 | j :: js=>!js.contains j && Ze4 js
theorem Zct :∀{js:List Nat},Ze4 js=true→js.Nodup
 | [],_=>List.nodup_nil
 | j :: js,h=>by
  simp only [Ze4,Bool.and_eq_true,Bool.not_eq_true'] at h
  refine List.nodup_cons.2 ⟨fun hm=>?_,Zct h.2⟩
  have:js.contains j=true:=by simpa using hm
  rw [this] at h;cases h.1
section
variable {P:PJ} {n:Nat} {ops:Array Oper} {i:Nat} {K:Zbl} {S:Env} {D:List Deferred} {B:Kn} {L:List Cells}
variable {dst:Option Tmp} {ty:TypeId} {pos:String} {after:Array Edge} {g:Option (Nat × Bool)}
theorem Zax {f:FuncId} {xs:List Operand} {vs:List Value} {ats:Array TypeId} {Post:Value→Kn→List Cells→Prop} (js:List Nat) {ss r:List Cells} (hp:Za0 L js=some (ss,r)) (hn:Ze4 js=true) (hg:Zm ops S g=some true) (hd:ZC n dst=true) (he:enters P f=true) (ha:evs S xs=some vs) (hc:Zv P f vs B ss Post)
  (h :∀v B' Ls',B.le B'→Post v B' Ls'→K v D B' (ZcS r js Ls')):opX P n ops i ⟨dst,.call ⟨.value (.func f),xs.toArray,ats⟩,ty,pos,after,g⟩ K S D B L:=
 Zet (o:=⟨dst,.call ⟨.value (.func f),xs.toArray,ats⟩,ty,pos,after,g⟩) (vs:=vs) hg (fun ρ hρ Q F q=>by
   have:=ZeY (P:=P) (B:=B) (L:=L) (dst:=dst) (ty:=ty) (pos:=pos) (after:=after) (g:=g) (x:=.func f) (first:=#[]) (cap:=#[]) (ats:=ats) he rfl ha ρ hρ Q F
   exact this (by simpa using q)) hd (Ls:=ss) (Lk:=r) (ZaC js L ss r hp) hc
  fun v B' Ls' hle hq=>⟨ZcS r js Ls',Zcr Ls' r js (Zct hn) (fun j hj=>Zcs js L ss r hp j (.inr hj)),h v B' Ls' hle hq⟩
end
theorem Zr6 {B:Kn} {L:List Cells} {b i:Nat} {v:Value} {l:List Value} {T:TypeId} (j:Nat) (hj:L[j]? = some (Zah b l T)) (hv:l[i]? = some v):At B L ((⟨b,0,none⟩:Addr).add i) v:=by
 rw [Addr.add_off _ _ rfl,Nat.zero_add]
 exact atL j hj rfl hv
theorem Zw2 {B:Kn} {L:List Cells} {a:Addr} {i:Nat} {v:Value} (h:At B L (a.add i) v):At B L (a.add (i*1)) v:=by rw [Nat.mul_one];exact h
theorem Zul {P:PJ} {n:Nat} {Q:Exit→Zao} {S:Env} {D:List Deferred} {B:Kn} {L:List Cells} {c:Code} (js:List Nat) {ss r:List Cells} (hp:Za0 L js=some (ss,r)) (h:wpS P n c Q S D B ss):wpS P n c Q S D B L:=fun C k T hn hT hA=>by
 have h1:=(ZaC js L ss r hp).append_right C.F
 refine C.X.drop (r:=ss.flatten ++ C.F) (gl:=r.flatten) (h1.trans ?_) (h C k T hn hT hA)
 rw [List.append_assoc,List.append_assoc]
 exact List.Perm.append_left _ List.perm_append_comm
theorem ZaQ.box {B:Kn} {L:List Cells} {b:Nat} {arr:List Value} {T:TypeId} (j:Nat) (hj:L[j]? = some (Zah b arr T)):ZaQ B L.flatten (some ⟨b,0,none⟩) arr:=fun k v hk=>by
 have:=Zr6 (B:=B) (i:=k) j hj hk
 exact this
theorem Ziq.at {B:Kn} {L:List Cells} {l:Cells} {p:Option Addr} {m c sz i:Nat} {T:TypeId} {vs:List Value} {v:Value} (h:Ziq l p m c T sz vs) (j:Nat) (hj:L[j]? = some l) (hv:vs[i]? = some v) :∃a,p=some a∧a.spot=none∧At B L (a.add i) v:=by
 obtain ⟨h1,⟨rfl,rfl,rfl,rfl⟩ | ⟨b,arr,rfl,h2,h3,rfl,h4⟩⟩:=h
 ·have:vs=[]:=List.eq_nil_of_length_eq_zero (by simpa using h1)
  rw [this] at hv;simp at hv
 ·refine ⟨_,rfl,rfl,Zr6 j hj ?_⟩
  rw [← h3,List.getElem?_take] at hv
  split at hv
  ·exact hv
  ·cases hv
theorem Zas {P:PJ} {S:Env} {B:Kn} {L:List Cells} {rs:List ResultVar} {Post:Value→Kn→List Cells→Prop} (e:Exit) (he:e = .ret∨e = .normal) (vs:List Value) (js:List Nat) {ss r:List Cells} (hp:Za0 L js=some (ss,r)) (hr:Zc7 P S B L rs vs) (hq:Post (ZdL vs) B ss):Zfz P rs Post e S [] B L:=
 ⟨he,rfl,vs,ss,hr,⟨r.flatten,ZaC js L ss r hp⟩,hq⟩
def Zap (B:Kn) (q:Option Addr) (m:Nat):Prop:=∀j,j<m→∃(a:Addr) (c:UInt8),q=some a∧a.spot=none∧Zbj B [] (a.add j) (.int .u8 c.toNat)
theorem Zap.get {B:Kn} {q:Option Addr} {m:Nat} (h:Zap B q m) (hm:0<m) :∃a,q=some a∧∀j,j<m→∃c:UInt8,∀L,At B L (a.add (j*1)) (.int .u8 c.toNat):=by
 obtain ⟨a,_,rfl,hs,_⟩:=h 0 hm
 refine ⟨a,rfl,fun j hj=>?_⟩
 obtain ⟨a',c,e,_,hc⟩:=h j hj
 cases e
 exact ⟨c,fun L=>by rw [Nat.mul_one];exact Zbj.app (F:=L.flatten) hc⟩
theorem Zap.at {B:Kn} {q:Option Addr} {m:Nat} (h:Zap B q m) (hm:0<m) :∃a,q=some a∧∀ix:Int,0≤ix→ix<m→∃z:Nat,z<256∧∀L,At B L (a.add (ix.toNat*1)) (.int .u8 z):=by
 obtain ⟨a,rfl,hc⟩:=h.get hm
 refine ⟨a,rfl,fun ix h0 h1=>?_⟩
 obtain ⟨c,hc⟩:=hc ix.toNat (by omega)
 exact ⟨c.toNat,c.toNat_lt,hc⟩
theorem Zap.take {B:Kn} {q:Option Addr} {m k c:Nat} (h:Zap B q m) (hk:k≤m):Zap B (if c=0 then q else q.map (·.add (0*1))) (k - 0):=by
 intro j hj
 obtain ⟨a,x,rfl,hs,hx⟩:=h j (by omega)
 refine ⟨a,x,?_,hs,hx⟩
 split <;> simp [Addr.add]
end Go.BL
namespace Go.BL
open Go.Conc (G)
section
variable {P:PJ}
def Zxe (P:Program) (d:Nat) (t:TypeId) (a b:Value) (r:Bool):Prop:=∀(B:Kn) (L:Cells) (Q:Bool→Kn→Cells→Prop),Q r B L→hb P (Op.equalIn d t a b) Q B L
theorem Zik {d:Nat} {t:TypeId} {a b:List UInt8} (hu:P.underlying t=some .string):Zxe P (d+1) t (str a) (str b) (decide (a=b)):=fun B L Q q=>by
 have e:((⟨a.toArray⟩:ByteArray) == ⟨b.toArray⟩)=decide (a=b):=by
  show ((⟨a⟩:Array UInt8) == ⟨b⟩)=_
  rw [Bool.eq_iff_iff];simp
 rw [Op.equalIn,Zk,Zt hu]
 simp only [str,Zr]
 first | exact e ▸ q | (rw [e];exact q)
theorem Zil {d:Nat} {t:TypeId} {k k':IntKind} {a b:Int} (hu:P.underlying t=some (.int k')):Zxe P (d+1) t (.int k a) (.int k b) (decide (a=b)):=fun B L Q q=>by
 have e:(a == b)=decide (a=b):=by rw [Bool.eq_iff_iff];simp
 rw [Op.equalIn,Zk,Zt hu]
 simp only [if_true,Zr,e];exact q
def Zh0 (P:Program) (t:TypeId) (ts:List (Nat × TypeId)):Bool:=
 match P.underlying t with
 | some (.struct fs)=>fs.toList.all (fun f=>f.name != "_" && (lk P f.type == some none)) && (fs.toList.map (fun f=>(f.offset,f.type)) == ts) && !P.stoodInHeld t && !P.eqGuardType P.depth t
 | _=>false
def ZtP (P:Program) (d:Nat) (xs ys:Array Value):List (Nat × TypeId)→List Bool→Prop
 | [],[]=>True
 | (o,t) :: fs,r :: rs=>(∃a b,xs[o]? = some a∧ys[o]? = some b∧Zxe P d t a b r)∧ZtP P d xs ys fs rs
 | _,_=>False
theorem Zrp {t:TypeId} {cs:Array Value} {o:Nat} {a:Value} (hl:lk P t=some none) (ha:cs[o]? = some a) {Q:Value→Kn→Cells→Prop} {B:Kn} {L:Cells} : hb P (part t cs o) Q B L=Q a B L:=by
 unfold part
 rw [Zk,Zra hl]
 simp only [Bool.false_eq_true,if_false,ha,Zr]
theorem ZrK {d:Nat} {t:TypeId} {ts:List (Nat × TypeId)} {xs ys:Array Value} {rs:List Bool} (ht:Zh0 P t ts=true) (h:ZtP P d xs ys ts rs):Zxe P (d+1) t (.agg xs) (.agg ys) (rs.all id):=fun B L Q q=>by
 unfold Zh0 at ht
 split at ht
 ·rename_i fs hu
  simp only [Bool.and_eq_true,Bool.not_eq_true',beq_iff_eq] at ht
  obtain ⟨⟨⟨h1,h2⟩,h3⟩,h4⟩:=ht
  rw [Op.equalIn,Zk,Zt hu]
  simp only [Zk,ZbL,h3,Bool.false_eq_true,if_false]
  rw [← Array.forIn_toList]
  subst h2
  clear hu h3 h4
  generalize fs.toList=l at h h1 ⊢
  induction l generalizing rs with
  | nil=>
   cases rs with
   | nil=>simpa [Zr] using q
   | cons r rs=>exact h.elim
  | cons f l ih=>
   cases rs with
   | nil=>exact h.elim
   | cons r rs=>
    simp only [List.map_cons,ZtP] at h
    obtain ⟨⟨a,b,ha,hb',he⟩,ht⟩:=h
    simp only [List.all_cons,Bool.and_eq_true,bne_iff_ne,beq_iff_eq] at h1
    obtain ⟨⟨hn,hl⟩,h1'⟩:=h1
    simp only [List.forIn_cons,Zk,ne_eq,hn,not_false_eq_true,if_true,Zrp hl ha,Zrp hl hb']
    apply he
    cases r with
    | true=>
     simp only [Bool.not_true,Bool.false_eq_true,if_false,Zr]
     exact ih (by simpa using q) ht h1'
    | false=>
     simp only [Bool.not_false,if_true,Zr]
     simpa using q
 ·cases ht
theorem ZnG {op:BinOp} {t:TypeId} {ts:List (Nat × TypeId)} {x y:Operand} {a b:Array Value} {Q:Unit→Kn→Cells→Prop} {B:Kn} {L:Cells} (ht:Zh0 P t ts=true):hb P (eqGuard op t x y (.agg a) (.agg b)) Q B L=Q () B L:=by
 have h4:P.eqGuardType P.depth t=false:=by
  unfold Zh0 at ht
  split at ht
  ·simp only [Bool.and_eq_true,Bool.not_eq_true'] at ht
   exact ht.2
  ·cases ht
 cases op <;> simp [eqGuard,Zk,ZbL,h4,Zr]
end
section
variable {P:PJ} {n:Nat} {ops:Array Oper} {i:Nat} {K:Zbl} {S:Env} {D:List Deferred} {B:Kn} {L:List Cells}
variable {dst:Option Tmp} {ty:TypeId} {pos:String} {after:Array Edge} {g:Option (Nat × Bool)}
theorem Zqf {t u:TypeId} {ts:List (Nat × TypeId)} {x y:Operand} {a b:Array Value} {rs:List Bool} (hg:Zm ops S g=some true) (hd:ZC n dst=true) (hx:ev S x=some (.agg a)) (hy:ev S y=some (.agg b)) (ht:Zh0 P t ts=true) (he:ZtP P 9999 a b ts rs) (h:K (.bool (!rs.all id)) D B L):opX P n ops i ⟨dst,.binOp .neq t x y u,ty,pos,after,g⟩ K S D B L:=
 ZV hg hd (fun ρ hρ Q F q=>by
  simp only [execOp,hρ x _ hx,hρ y _ hy,Zk,ZnG ht,ZmS (.inr ⟨_,_,rfl,rfl⟩),Zr]
  exact ZrK ht he _ _ (fun r B' L'=>Q (.value (.bool (!r))) B' L') q) h
end
end Go.BL
namespace Go.BL
open Go.Conc (G)
def Zj6 (w:World):Kn:=⟨fun b=>w.heap[b]?⟩
theorem Zw6 (w:World):Sat (Zj6 w) [] w:=⟨fun _ _ h=>h,(fun _ h=>by cases h),by simp,(fun _ h=>by cases h)⟩
def Kept (w w':World):Prop:=(∀b,b<w.heap.size→w'.heap[b]? = w.heap[b]?)∧Go.RowKit.Grown w w'
theorem Kept.same {w w':World} (h:Kept w w') {p:MemPlace} (hp:p.block<w.heap.size):w.sameAt w' p:=by
 cases p with
 | cell b off=>
  have:=h.1 b hp
  simp only [World.sameAt,World.cell?,this]
 | map b=>exact h.1 b hp
theorem Sat.left {B:Kn} {L L':Cells} {w:World} (s:Sat B (L ++ L') w):Sat B L w:=by
 refine ⟨s.ro,fun p hp=>s.own p (List.mem_append.2 (.inl hp)),?_,fun p hp=>s.apart p (List.mem_append.2 (.inl hp))⟩
 have:=s.nodup
 rw [List.map_append] at this
 exact (List.nodup_append.1 this).1
end Go.BL
namespace Go.BL
open Go.ChangeShapes Go.WideShapes Go.ChangeAt Go.RowKit
section
variable {H:Type} {enc:TypeId × Value→H} {P:Program}
theorem ZjO {W:World} {a:Addr} {v:Value} (h:W.cell? a=some v):Zbj (Zj6 W) [] a v:=by
 simp only [World.cell?] at h
 split at h
 ·rename_i c T fr hb
  split at h
  ·cases h
  ·rename_i hs
   exact ⟨by simpa using hs,c,T,fr,.inl hb,h⟩
 ·cases h
theorem Zhk {W:World} {t e:TypeId} {v:Value} {d:DataW H} {ps:List MemPlace} {r:Reach} {b0:Nat} {W0:World} (hval:Value.okWide P W0 r b0 t v) (ht:P.underlying t=some (.slice e)) (he:P.underlying e=some (.int .u8)) (hc:P.cellsOf e=1)
  (h:DataW.Trod enc P W 0 (fun _=>true) true t v d ps) :∃(q:Option Addr) (m cp:Nat),v = .slice q m cp∧m≤cp∧Zap (Zj6 W) q m:=by
 obtain ⟨n,hn⟩:=h
 obtain ⟨a0,l0,c0,rfl⟩:=okWide_slice ht hval
 rcases open_ints ht he hc hn with ⟨hcs,_⟩ | ⟨a,len,cap,zs,hcs,_,hl,_,hz,_,hcell,hw⟩
 ·simp only [Value.cells,List.cons.injEq,and_true] at hcs
  rw [hcs]
  exact ⟨none,0,0,rfl,Nat.le_refl _,fun j hj=>absurd hj (Nat.not_lt_zero _)⟩
 ·simp only [Value.cells,List.cons.injEq,and_true] at hcs
  rw [hcs]
  refine ⟨some a,len,cap,rfl,hl,fun j hj=>?_⟩
  have hjz:j<zs.length:=by rw [hz];simp;omega
  have h1:=hcell j hjz
  have h0:=ZjO (hcell 0 (by omega))
  have hsp:a.spot=none:=by
   have:=h0.1
   simpa [Addr.add] using this
  have hmem:zs.getD j 0∈zs:=by
   rw [List.getD_eq_getElem?_getD,List.getElem?_eq_getElem hjz]
   exact List.getElem_mem hjz
  have hb:=bounds_u8 (hw _ hmem)
  refine ⟨a,UInt8.ofNat (zs.getD j 0).toNat,rfl,hsp,?_⟩
  have e:((UInt8.ofNat (zs.getD j 0).toNat).toNat:Int)=zs.getD j 0:=by
   rw [UInt8.toNat_ofNat']
   omega
  rw [e]
  exact ZjO h1
theorem Zoj (hl:laidOutB P=true) {W W':World} (hk:Kept W W') {sp':Nat→Bool} :∀{ts:List TypeId} {vs:List Value} {ds:List (DataW H)} {ps:List MemPlace},(ts.all fun t=>P.readableRec t && decide (t<P.types.size))=true→
  DataW.TrodAll enc P W 0 (fun _=>true) true ts vs ds ps→(∀p∈ps,p.block<W.heap.size)→(∀p∈ps,sp' p.block=true)→DataW.TrodAll enc P W' 0 sp' true ts vs ds ps
 | [],[],[],_,_,h,_,_=>h
 | t :: ts,_ :: _,_ :: _,_,hts,⟨p,q,h1,h2,e⟩,hlt,hs=>by
  simp only [List.all_cons,Bool.and_eq_true,decide_eq_true_eq] at hts
  exact ⟨p,q,WideElems.Trod_stays hl hts.1.1 hts.1.2 h1 (fun x hx=>hk.same (hlt x (by rw [e];exact List.mem_append_left _ hx))) (fun x hx=>hs x (by rw [e];exact List.mem_append_left _ hx)),
   Zoj hl hk hts.2 h2 (fun x hx=>hlt x (by rw [e];exact List.mem_append_right _ hx)) (fun x hx=>hs x (by rw [e];exact List.mem_append_right _ hx)),e⟩
end
end Go.BL
namespace Go.BL
open Go.Conc (G)
abbrev Rel (α:Type):=Kn→List Value→α→Prop
def Mono {α:Type} (R:Rel α):Prop:=∀{B B':Kn},B.le B'→∀{row:List Value} {x:α},R B row x→R B' row x
def ZdY {α:Type} (B:Kn) (q:Option Addr) (w:Nat) (R:Rel α) (xs:List α):Prop:=
∀i x,xs[i]? = some x→∃b o row,q=some ⟨b,o,none⟩∧R B row x∧∀j u,row[j]? = some u→Zbj B [] ⟨b,o+i*w+j,none⟩ u
theorem ZkS.mono {B B':Kn} {L:Cells} {b:Nat} {o:Obj} (hle:B.le B') (h:ZkS B L b o):ZkS B' L b o:=h.imp (hle b o) id
theorem Zbj.mono {B B':Kn} {L:Cells} {a:Addr} {v:Value} (hle:B.le B') (h:Zbj B L a v):Zbj B' L a v:=
 let ⟨h1,cs,T,fr,h2,h3⟩:=h;⟨h1,cs,T,fr,h2.mono hle,h3⟩
theorem ZdY.mono {α:Type} {B B':Kn} {q:Option Addr} {w:Nat} {R:Rel α} {xs:List α} (hR:Mono R) (hle:B.le B') (h:ZdY B q w R xs):ZdY B' q w R xs:=fun i x hi=>by
 obtain ⟨b,o,row,h1,h2,h3⟩:=h i x hi
 exact ⟨b,o,row,h1,hR hle h2,fun j u hj=>(h3 j u hj).mono hle⟩
theorem ZdY.nil {α:Type} {B:Kn} {q:Option Addr} {w:Nat} {R:Rel α} : ZdY B q w R ([]:List α):=fun i x h=>by simp at h
theorem ZdY.take {α:Type} {B:Kn} {q:Option Addr} {w:Nat} {R:Rel α} {xs:List α} (h:ZdY B q w R xs) (k:Nat):ZdY B q w R (xs.take k):=fun i x hi=>by
 rw [List.getElem?_take] at hi
 split at hi
 ·exact h i x hi
 ·cases hi
theorem ZdY.drop {α:Type} {B:Kn} {q:Option Addr} {w:Nat} {R:Rel α} {xs:List α} (h:ZdY B q w R xs) (k:Nat):ZdY B (q.map (·.add (k*w))) w R (xs.drop k):=fun i x hi=>by
 rw [List.getElem?_drop] at hi
 obtain ⟨b,o,row,rfl,h2,h3⟩:=h _ x hi
 refine ⟨b,o+k*w,row,by simp [Addr.add_off],h2,fun j u hj=>?_⟩
 have:=h3 j u hj
 rw [Nat.add_mul] at this
 rwa [show o+k*w+i*w+j=o+(k*w+i*w)+j from by omega]
theorem ZdY.cut {α:Type} {B:Kn} {q:Option Addr} {w a b c:Nat} {R:Rel α} {xs:List α} (h:ZdY B q w R xs) (hb:b≤xs.length) (hc:xs.length≤c):ZdY B (if c=a then q else q.map (·.add (a*w))) w R ((xs.take b).drop a):=by
 by_cases e:c=a
 ·rw [if_pos e,List.drop_eq_nil_of_le (by rw [List.length_take];omega)]
  exact .nil
 ·rw [if_neg e]
  exact (h.take b).drop a
def Zbi (B:Kn) (b o:Nat) (row:List Value):Prop:=∀(L:List Cells) (j:Nat) (u:Value),row[j]? = some u→At B L ⟨b,o+j,none⟩ u
theorem ZiO {B:Kn} {L:List Cells} {b o:Nat} {row vs:List Value} {a:Addr} (hc:Zbi B b o row) (off:Nat) (ha:a=⟨b,o+off,none⟩) (hv:(row.drop off).take vs.length=vs):Zsi B L a vs:=by
 intro i v hi
 subst ha
 rw [Addr.add_off _ _ rfl]
 have hlt:i<vs.length:=(List.getElem?_eq_some_iff.1 hi).1
 have:row[off+i]? = some v:=by
  have e:=congrArg (fun l=>l[i]?) hv
  simp only [List.getElem?_take,if_pos hlt,List.getElem?_drop] at e
  rw [e,hi]
 have:=hc L _ v this
 rwa [show o+(off+i)=o+off+i from by omega] at this
section
variable {P:PJ} {C:Cx P} {k:List Item} {n:Nat} {ops:Array Oper} {i:Nat} {K:Zbl} {S:Env} {D:List Deferred} {B:Kn} {L:List Cells}
variable {dst:Option Tmp} {ty:TypeId} {pos:String} {after:Array Edge} {g:Option (Nat × Bool)}
variable {α:Type} {R:Rel α} {xs:List α} {z:α}
end
inductive All2 {α:Type} (R:List Value→α→Prop):List (List Value)→List α→Prop
 | nil:All2 R [] []
 | cons {row:List Value} {x:α} {rows:List (List Value)} {xs:List α} : R row x→All2 R rows xs→All2 R (row :: rows) (x :: xs)
theorem All2.len {α:Type} {R:List Value→α→Prop} {rows:List (List Value)} {xs:List α} (h:All2 R rows xs):rows.length=xs.length:=by
 induction h with
 | nil=>rfl
 | cons _ _ ih=>simp [ih]
theorem All2.mono {α:Type} {R R':List Value→α→Prop} {rows:List (List Value)} {xs:List α} (hR :∀row x,R row x→R' row x) (h:All2 R rows xs):All2 R' rows xs:=by
 induction h with
 | nil=>exact .nil
 | cons h1 _ ih=>exact .cons (hR _ _ h1) ih
theorem All2.app {α:Type} {R:List Value→α→Prop} {rows rows':List (List Value)} {xs xs':List α} (h:All2 R rows xs) (h':All2 R rows' xs'):All2 R (rows ++ rows') (xs ++ xs'):=by
 induction h with
 | nil=>exact h'
 | cons h1 _ ih=>exact .cons h1 ih
theorem All2.get {α:Type} {R:List Value→α→Prop} {rows:List (List Value)} {xs:List α} (h:All2 R rows xs) :∀{i:Nat} {x:α},xs[i]? = some x→∃row,rows[i]? = some row∧R row x:=by
 induction h with
 | nil=>intro i x hx;simp at hx
 | cons h1 _ ih=>
  intro i x hx
  cases i with
  | zero=>simp only [List.getElem?_cons_zero,Option.some.injEq] at hx;subst hx;exact ⟨_,rfl,h1⟩
  | succ i=>exact ih (by simpa using hx)
theorem All2.set {α:Type} {R:List Value→α→Prop} {rows:List (List Value)} {xs:List α} (h:All2 R rows xs) {row:List Value} {x:α} (hr:R row x) :∀i,All2 R (rows.set i row) (xs.set i x):=by
 induction h with
 | nil=>intro i;exact .nil
 | cons h1 h2 ih=>
  intro i
  cases i with
  | zero=>exact .cons hr h2
  | succ i=>exact .cons h1 (ih i)
def wide (w:Nat) (rows:List (List Value)):Prop:=∀row,row∈rows→row.length=w
theorem Zc5 {w:Nat} :∀{rows:List (List Value)},wide w rows→rows.flatten.length=rows.length*w
 | [],_=>by simp
 | row :: rows,h=>by
  rw [List.flatten_cons,List.length_append,Zc5 (rows:=rows) (fun r hr=>h r (List.mem_cons_of_mem _ hr)),h row (List.mem_cons_self ..),List.length_cons,Nat.succ_mul,Nat.add_comm]
theorem ZgA {w:Nat} :∀{rows:List (List Value)},wide w rows→∀{i j:Nat} {row:List Value} {u:Value},rows[i]? = some row→row[j]? = some u→rows.flatten[i*w+j]? = some u
 | [],_,i,j,row,u,h,_=>by simp at h
 | r :: rows,hw,0,j,row,u,h,hj=>by
  simp only [List.getElem?_cons_zero,Option.some.injEq] at h
  subst h
  have hlt:=(List.getElem?_eq_some_iff.1 hj).1
  rw [Nat.zero_mul,Nat.zero_add,List.flatten_cons,List.getElem?_append_left hlt];exact hj
 | r :: rows,hw,i+1,j,row,u,h,hj=>by
  have e:=hw r (List.mem_cons_self ..)
  rw [List.flatten_cons,List.getElem?_append_right (by rw [e,Nat.succ_mul];omega),e]
  have:=ZgA (rows:=rows) (fun r hr=>hw r (List.mem_cons_of_mem _ hr)) (i:=i) (j:=j) (by simpa using h) hj
  rw [← this]
  congr 1
  rw [Nat.succ_mul];omega
def ZY {α:Type} (B:Kn) (l:Cells) (p:Option Addr) (c:Nat) (T:TypeId) (w:Nat) (R:Rel α) (xs:List α):Prop:=
∃rows,All2 (R B) rows xs∧wide w rows∧Ziq l p xs.length c T w rows.flatten
theorem ZY.mono {α:Type} {B B':Kn} {l:Cells} {p:Option Addr} {c:Nat} {T:TypeId} {w:Nat} {R:Rel α} {xs:List α} (hR:Mono R) (hle:B.le B') (h:ZY B l p c T w R xs):ZY B' l p c T w R xs:=
 let ⟨rows,h1,h2,h3⟩:=h;⟨rows,h1.mono fun _ _=>hR hle,h2,h3⟩
theorem ZY.nil {α:Type} {B:Kn} {T:TypeId} {w:Nat} {R:Rel α} : ZY B [] none 0 T w R ([]:List α):=⟨[],.nil,(fun _ h=>by cases h),Ziq.nil T w⟩
theorem ZY.lit0 {α:Type} {B:Kn} {b:Nat} {T:TypeId} {w:Nat} {R:Rel α} : ZY B (Zah b [] T) (some ⟨b,0,none⟩) 0 T w R ([]:List α):=⟨[],.nil,(fun _ h=>by cases h),Ziq.lit (by simp)⟩
theorem ZY.cap {α:Type} {B:Kn} {l:Cells} {p:Option Addr} {c:Nat} {T:TypeId} {w:Nat} {R:Rel α} {xs:List α} (h:ZY B l p c T w R xs):xs.length≤c:=by
 obtain ⟨rows,_,_,_,⟨_,h0,_,_⟩ | ⟨b,arr,_,_,_,_,hm⟩⟩:=h
 ·omega
 ·exact hm
theorem ZY.lit {α:Type} {B:Kn} {b:Nat} {T:TypeId} {w:Nat} {R:Rel α} {xs:List α} {rows:List (List Value)} (h:All2 (R B) rows xs) (hw:wide w rows):ZY B (Zah b rows.flatten T) (some ⟨b,0,none⟩) xs.length T w R xs:=
 ⟨rows,h,hw,Ziq.lit (by rw [Zc5 hw,h.len])⟩
theorem ZY.rows {α:Type} {B B':Kn} {l:Cells} {p:Option Addr} {c:Nat} {T:TypeId} {w:Nat} {R:Rel α} {xs:List α} (h:ZY B l p c T w R xs) (hR:Mono R) (hle:B.le B') (hm :∀q,q∈l→B'.mem q.1=some q.2):ZdY B' p w R xs:=by
 obtain ⟨rows,h1,h2,h3,⟨rfl,hn,_,rfl⟩ | ⟨b,arr,rfl,ha,ht,rfl,hmc⟩⟩:=h
 ·have:xs=[]:=List.eq_nil_of_length_eq_zero hn
  subst this;exact .nil
 ·intro i x hi
  obtain ⟨row,hr1,hr2⟩:=h1.get hi
  refine ⟨b,0,row,rfl,hR hle hr2,fun j u hj=>?_⟩
  have hu:=ZgA h2 hr1 hj
  rw [← ht,List.getElem?_take] at hu
  split at hu
  ·refine ⟨rfl,arr.toArray,T,(0,0),.inl (hm (b,_) (List.mem_singleton.2 rfl)),?_⟩
   rw [Nat.zero_add];simpa using hu
  ·cases hu
theorem ZY.row {α:Type} {B:Kn} {l:Cells} {p:Option Addr} {c:Nat} {T:TypeId} {w:Nat} {R:Rel α} {xs:List α} (h:ZY B l p c T w R xs) {i:Nat} {x:α} (hi:xs[i]? = some x) :
∃b row,p=some ⟨b,0,none⟩∧R B row x∧row.length=w∧∀{B':Kn} (L:List Cells) (k:Nat),L[k]? = some l→∀j u,row[j]? = some u→At B' L ⟨b,i*w+j,none⟩ u:=by
 obtain ⟨rows,h1,h2,h3,⟨rfl,hn,_,rfl⟩ | ⟨b,arr,rfl,ha,ht,rfl,hmc⟩⟩:=h
 ·have:xs=[]:=List.eq_nil_of_length_eq_zero hn
  subst this;simp at hi
 ·obtain ⟨row,hr1,hr2⟩:=h1.get hi
  refine ⟨b,row,rfl,hr2,h2 row (List.mem_of_getElem? hr1),fun {B'} L k hk j u hj=>?_⟩
  have hu:=ZgA h2 hr1 hj
  rw [← ht,List.getElem?_take] at hu
  split at hu
  ·exact atL k hk rfl hu
  ·cases hu
section
variable {P:PJ} {C:Cx P} {k:List Item} {n:Nat} {ops:Array Oper} {i:Nat} {K:Zbl} {S:Env} {D:List Deferred} {B:Kn} {L:List Cells}
variable {dst:Option Tmp} {ty:TypeId} {pos:String} {after:Array Edge} {g:Option (Nat × Bool)}
variable {α:Type} {R:Rel α} {xs ys:List α} {z:α}
theorem Zbg {BV:Kn} {t u e:TypeId} {x y:Operand} {sz by_ m c c2:Nat} {p q:Option Addr} {row:List Value} {l:Cells} (j:Nat) (hj:L[j]? = some l) (hv:ZY BV l p c e sz R xs) (hm:m=xs.length) (hg:Zm ops S g=some true) (hd:ZC n dst=true)
  (he:Zck P t e sz by_=true) (hu:(match P.underlying u with | some (.slice _)=>true | _=>false)=true) (hx:ev S x=some (.slice p m c)) (hy:ev S y=some (.slice q 1 c2)) (hs:ZaQ B L.flatten q row) (hone:row.all ZgT=true) (hrl:row.length=sz) (hr:R BV row z) (hb1:(xs.length+1)*by_≤140737488355328)
  (h :∀l' p' c',ZY BV l' p' c' e sz R (xs ++ [z])→K (.slice p' (xs ++ [z]).length c') D B (L.set j l')):opX P n ops i ⟨dst,.call ⟨.builtin .append,#[x,y],#[t,u]⟩,ty,pos,after,g⟩ K S D B L:=by
 subst hm
 obtain ⟨rows,h1,h2,h3⟩:=hv
 refine ZeO j hj h3 hg hd he hu hx hy hs (by rw [hrl,Nat.one_mul]) hone hb1 fun l' p' c' hv'=>?_
 have:=h l' p' c' ⟨rows ++ [row],h1.app (.cons hr .nil),?_,?_⟩
 ·rwa [List.length_append] at this
 ·intro r hr'
  rcases List.mem_append.1 hr' with hr' | hr'
  ·exact h2 r hr'
  ·rw [List.mem_singleton.1 hr'];exact hrl
 ·rw [List.length_append,List.flatten_append];simpa using hv'
theorem ZaY {t u e:TypeId} {x y:Operand} {sz by_ m d c c2:Nat} {p q:Option Addr} {l:Cells} (j:Nat) (hj:L[j]? = some l) (hv:ZY B l p c e sz R xs) (hm:m=xs.length) (hg:Zm ops S g=some true) (hd:ZC n dst=true)
  (he:Zck P t e sz by_=true) (hu:(match P.underlying u with | some (.slice _)=>true | _=>false)=true) (hx:ev S x=some (.slice p m c)) (hy:ev S y=some (.slice q d c2)) (hdl:d=ys.length) (hs:ZdY B q sz R ys) (hone :∀row y,R B row y→row.all ZgT=true∧row.length=sz) (hpos:Nat.blt 0 sz=true) (hb1:(xs.length+ys.length)*by_≤140737488355328)
  (h :∀l' p' c',ZY B l' p' c' e sz R (xs ++ ys)→K (.slice p' (xs ++ ys).length c') D B (L.set j l')):opX P n ops i ⟨dst,.call ⟨.builtin .append,#[x,y],#[t,u]⟩,ty,pos,after,g⟩ K S D B L:=by
 subst hm;subst hdl
 obtain ⟨rows,h1,h2,h3⟩:=hv
 obtain ⟨rows',g1,g2,g3,g4⟩ :∃rows',All2 (R B) rows' ys∧wide sz rows'∧rows'.flatten.all ZgT=true∧ZaQ B L.flatten q rows'.flatten:=by
  have hrow :∀i:Fin ys.length,∃row,R B row ys[i]∧∃b o,q=some ⟨b,o,none⟩∧∀j u,row[j]? = some u→Zbj B [] ⟨b,o+i*sz+j,none⟩ u:=fun i=>by
   obtain ⟨b,o,row,a1,a2,a3⟩:=hs i ys[i] (by simp)
   exact ⟨row,a2,b,o,a1,a3⟩
  let f:Fin ys.length→List Value:=fun i=>Classical.choose (hrow i)
  have hf :∀i,R B (f i) ys[i]∧∃b o,q=some ⟨b,o,none⟩∧∀j u,(f i)[j]? = some u→Zbj B [] ⟨b,o+i*sz+j,none⟩ u:=fun i=>Classical.choose_spec (hrow i)
  have hall :∀(k:Nat) (zs:List α) (hz :∀j x,zs[j]? = some x→ys[k+j]? = some x),∃rs,All2 (R B) rs zs∧∀j row,rs[j]? = some row→∃hk:k+j<ys.length,row=f ⟨k+j,hk⟩:=by
   intro k zs
   induction zs generalizing k with
   | nil=>intro _;exact ⟨[],.nil,fun j row h=>by simp at h⟩
   | cons x zs ih=>
    intro hz
    obtain ⟨rs,a1,a2⟩:=ih (k+1) (fun j y hy=>by have:=hz (j+1) y (by simpa using hy);rwa [show k+(j+1)=k+1+j from by omega] at this)
    have h0:=hz 0 x (by simp)
    obtain ⟨hk,hxe⟩:=List.getElem?_eq_some_iff.1 h0
    have hfk:=(hf ⟨k+0,hk⟩).1
    simp only [Fin.getElem_fin] at hfk
    rw [hxe] at hfk
    refine ⟨f ⟨k+0,hk⟩ :: rs,.cons hfk a1,fun j row hj=>?_⟩
    cases j with
    | zero=>simp only [List.getElem?_cons_zero,Option.some.injEq] at hj;exact ⟨hk,hj.symm⟩
    | succ j=>
     obtain ⟨hk2,e⟩:=a2 j row (by simpa using hj)
     refine ⟨by omega,?_⟩
     rw [e]
     congr 2
     omega
  obtain ⟨rs,a1,a2⟩:=hall 0 ys (fun j x hx=>by rwa [Nat.zero_add])
  have a2' :∀j row,rs[j]? = some row→∃hk:j<ys.length,row=f ⟨j,hk⟩:=fun j row hj=>by
   obtain ⟨hk,e⟩:=a2 j row hj
   refine ⟨by omega,?_⟩
   rw [e];congr 2;omega
  have hw:wide sz rs:=fun row hr=>by
   obtain ⟨j,hj⟩:=List.mem_iff_getElem?.1 hr
   obtain ⟨hk,rfl⟩:=a2' j row hj
   exact (hone _ _ (hf ⟨j,hk⟩).1).2
  refine ⟨rs,a1,hw,?_,?_⟩
  ·rw [List.all_flatten,List.all_eq_true]
   intro row hr
   obtain ⟨j,hj⟩:=List.mem_iff_getElem?.1 hr
   obtain ⟨hk,rfl⟩:=a2' j row hj
   exact (hone _ _ (hf ⟨j,hk⟩).1).1
  ·have hsz:0<sz:=by simpa using hpos
   cases hys:ys with
   | nil=>
    have:rs=[]:=List.eq_nil_of_length_eq_zero (by rw [a1.len,hys];rfl)
    subst this
    cases q with
    | none=>rfl
    | some a=>intro j v hj;simp at hj
   | cons y0 ys0=>
    have hl0:0<ys.length:=by rw [hys];simp
    obtain ⟨_,b,o,rfl,_⟩:=hf ⟨0,hl0⟩
    intro k v hk
    have hkl:k<rs.length*sz:=by rw [← Zc5 hw];exact (List.getElem?_eq_some_iff.1 hk).1
    have hir:k / sz<rs.length:=Nat.div_lt_of_lt_mul (by rw [Nat.mul_comm];exact hkl)
    have hrow2:rs[k / sz]? = some rs[k / sz]:=List.getElem?_eq_getElem hir
    have hjl:k % sz<(rs[k / sz]).length:=by rw [hw _ (List.getElem_mem hir)];exact Nat.mod_lt _ hsz
    have hg2:=ZgA hw hrow2 (List.getElem?_eq_getElem hjl)
    rw [Nat.mul_comm (k / sz) sz,Nat.div_add_mod] at hg2
    rw [hk] at hg2
    obtain ⟨hk3,e3⟩:=a2' _ _ hrow2
    obtain ⟨_,b',o',eb,hc⟩:=hf ⟨k / sz,hk3⟩
    cases eb
    have:=hc (k % sz) v (by rw [← e3,List.getElem?_eq_getElem hjl];exact hg2.symm)
    rw [Addr.add_off _ _ rfl]
    simp only [] at this
    rw [Nat.add_assoc,Nat.mul_comm (k / sz) sz,Nat.div_add_mod] at this
    exact Zbj.app (F:=L.flatten) this
 refine ZeO j hj h3 hg hd he hu hx hy g4 (by rw [Zc5 g2,g1.len]) g3 hb1 fun l' p' c' hv'=>?_
 have:=h l' p' c' ⟨rows ++ rows',h1.app g1,?_,?_⟩
 ·rwa [List.length_append] at this
 ·intro r hr'
  rcases List.mem_append.1 hr' with hr' | hr'
  ·exact h2 r hr'
  ·exact g2 r hr'
 ·rw [List.length_append,List.flatten_append];exact hv'
end
end Go.BL
namespace Go.BL
open Go.Conc (G)
theorem ZdY.base {α:Type} {B:Kn} {q:Option Addr} {w:Nat} {R:Rel α} {xs:List α} (h:ZdY B q w R xs) {i:Nat} {z:α} (hz:xs[i]? = some z) :∃b o,q=some ⟨b,o,none⟩:=by
 obtain ⟨b,o,_,h1,_⟩:=h i z hz;exact ⟨b,o,h1⟩
theorem ZdY.elem {α:Type} {B:Kn} {b o w:Nat} {R:Rel α} {xs:List α} (h:ZdY B (some ⟨b,o,none⟩) w R xs) {i:Nat} {z:α} (hz:xs[i]? = some z) :∃row,R B row z∧Zbi B b (o+i*w) row:=by
 obtain ⟨b',o',row,h1,h2,h3⟩:=h i z hz
 cases h1
 exact ⟨row,h2,fun L j u hj=>Zbj.app (F:=L.flatten) (h3 j u hj)⟩
theorem Zag {α:Type} {xs:List α} {i:Nat} (h:i<xs.length) :∃z,xs[i]? = some z:=⟨_,List.getElem?_eq_getElem h⟩
theorem ZeB {α:Type} {xs:List α} {i:Int} (h0:0≤i) (h:i<xs.length) :∃z,xs[i.toNat]? = some z:=Zag (by omega)
theorem Zbi.mono {B B':Kn} {b o:Nat} {row:List Value} (hle:B.le B') (h:Zbi B b o row):Zbi B' b o row:=fun L j u hj=>(h L j u hj).mono hle
def Zer:List Cells→List Nat→List Cells→List Cells
 | L,[],_=>L
 | L,_,[]=>L
 | L,j :: js,s :: ss=>Zer (L.set j s) js ss
theorem Znc :∀(ks:List Nat) (S:Env),Sub (sel ks S) S
 | [],_=>trivial
 | k :: ks,S=>by
  simp only [sel]
  cases h:get S k with
  | none=>exact Znc ks S
  | some v=>exact ⟨h,Znc ks S⟩
theorem ZqA :∀{V S0 S:Env},Sub V S→Sub S0 S→Sub (V ++ S0) S
 | [],_,_,_,h=>h
 | _ :: _,_,_,h,h'=>⟨h.1,ZqA h.2 h'⟩
section
variable {P:PJ} {C:Cx P} {k:List Item} {n:Nat} {ops:Array Oper} {i:Nat} {K:Zbl} {S:Env} {D:List Deferred} {B:Kn} {L:List Cells} {Q:Exit→Zao}
variable {dst:Option Tmp} {ty:TypeId} {pos:String} {after:Array Edge} {g:Option (Nat × Bool)}
def Zxc {α:Type} (St:α→Env) (Lo:α→List Cells) (Iv:α→Kn→Prop) (μ:α→Nat) (D:List Deferred) (x:α) (Q:Exit→Zao):Exit→Zao
 | .normal=>fun S' D' B' L'=>∃x',μ x'<μ x∧Iv x' B'∧Sub (St x') S'∧(∃gl,L'.flatten.Perm ((Lo x').flatten ++ gl))∧D'=D
 | e=>Q e
theorem ZO {c:Code} {α:Type} (ks:List Nat) (V:α→Env) (js:List Nat) (M:α→List Cells) (Iv:α→Kn→Prop) (μ:α→Nat) (x₀:α) (hS:Sub (V x₀) S) (hL:L=Zer L js (M x₀)) (hI:Iv x₀ B)
  (round :∀x B',B.le B'→Iv x B'→wpS P n c (Zxc (fun x=>V x ++ sel ks S) (fun x=>Zer L js (M x)) Iv μ D x Q) (V x ++ sel ks S) D B' (Zer L js (M x))):wpS P n (.loop c) Q S D B L:=fun C k T hn hT hA=>by
 have hS':Sub (V x₀ ++ sel ks S) S:=ZqA hS (Znc ks S)
 have key :∀m x B' T,μ x=m→B.le B'→Iv x B'→T.size=n→Ag T (V x ++ sel ks S)→C.X.R (G (fat C.b T D (.code c :: .inLoop c :: k)) C.cs) B' ((Zer L js (M x)).flatten ++ C.F):=by
  intro m
  induction m using Nat.strongRecOn with
  | _ m ih=>
   intro x B' T hm hle hI hn hT
   refine round x B' hle hI C (.inLoop c :: k) T hn hT fun e S' D' B'' L' T' hle' hq hn' hT'=>?_
   cases e with
   | normal=>
    obtain ⟨x',hlt,hI',hs',⟨gl,hp⟩,rfl⟩:=hq
    refine C.X.ctl rfl (fun w=>ZiG) ?_
    refine C.X.drop (r:=(Zer L js (M x')).flatten ++ C.F) (gl:=gl) ((hp.append_right C.F).trans ?_) (ih (μ x') (hm ▸ hlt) x' B'' T' rfl (hle.trans hle') hI' hn' (hT'.sub hs'))
    rw [List.append_assoc,List.append_assoc]
    exact List.Perm.append_left _ List.perm_append_comm
   | exit id=>exact After.push rfl (by simp) (hA (.exit id) S' D' B'' L' T' (hle.trans hle') hq hn' hT')
   | ret=>exact After.push (x:=.inLoop c) rfl (by simp) (hA .ret S' D' B'' L' T' (hle.trans hle') hq hn' hT')
   | goto l=>exact hA (.goto l) S' D' B'' L' T' (hle.trans hle') hq hn' hT'
   | panic ch=>exact hA (.panic ch) S' D' B'' L' T' (hle.trans hle') hq hn' hT'
   | outgrown=>exact hA .outgrown S' D' B'' L' T' (hle.trans hle') hq hn' hT'
 refine C.X.ctl rfl (fun w=>Znd) ?_
 have:=key _ x₀ B T rfl (Kn.le.refl B) hI hn (hT.sub hS')
 rwa [← hL] at this
theorem Z3 {α:Type} {St:α→Env} {Lo:α→List Cells} {Iv:α→Kn→Prop} {μ:α→Nat} {D':List Deferred} {x:α} (h:Q .ret S D B L):Zxc St Lo Iv μ D' x Q .ret S D B L:=h
theorem ZX {α:Type} {St:α→Env} {Lo:α→List Cells} {Iv:α→Kn→Prop} {μ:α→Nat} {D':List Deferred} {x:α} {id:Nat} (h:Q (.exit id) S D B L):Zxc St Lo Iv μ D' x Q (.exit id) S D B L:=h
theorem ZD {α:Type} {St:α→Env} {Lo:α→List Cells} {Iv:α→Kn→Prop} {μ:α→Nat} {x:α} (x':α) (js:List Nat) {r:List Cells} (hm:μ x'<μ x) (hi:Iv x' B) (hs:Sub (St x') S) (hl:Za0 L js=some (Lo x',r)):Zxc St Lo Iv μ D x Q .normal S D B L:=
 ⟨x',hm,hi,hs,⟨r.flatten,ZaC js L _ r hl⟩,rfl⟩
theorem ZfQ {t e:TypeId} {x:Operand} {lo hi:Option Operand} {p:Option Addr} {len cap sz:Nat} {a b:Nat} {v:Value} (hv:Value.slice (if cap=a then p else p.map (·.add (a*sz))) (b - a) (cap - a)=v) (hab:a≤b) (hb':b≤cap) (hg:Zm ops S g=some true) (hd:ZC n dst=true) (hu:P.underlying t=some (.slice e)) (hsz:Z8 P e=some sz)
  (hx:ev S x=some (.slice p len cap)) (hlo:match lo with | none=>a=0 | some o=>∃k,∃z:Int,ev S o=some (.int k z)∧z=a) (hhi:match hi with | none=>b=len | some o=>∃k,∃z:Int,ev S o=some (.int k z)∧z=b)
  (h:K v D B L):opX P n ops i ⟨dst,.slice t x lo hi none,ty,pos,after,g⟩ K S D B L:=
 ZeK hg hd hu hsz hx hlo hhi hab hb' (by rw [hv];exact h)
theorem Zv6 {t e:TypeId} {x y:Operand} {k:IntKind} {b o len cap sz:Nat} {ix:Int} (hg:Zm ops S g=some true) (hd:ZC n dst=true) (hu:P.underlying t=some (.slice e)) (hsz:Z8 P e=some sz)
  (hx:ev S x=some (.slice (some ⟨b,o,none⟩) len cap)) (hy:ev S y=some (.int k ix)) (h0:0≤ix) (h1:ix<len) (h:K (ptr ⟨b,o+ix.toNat*sz,none⟩) D B L):opX P n ops i ⟨dst,.indexAddr t x y,ty,pos,after,g⟩ K S D B L:=
 Zbf hg hd hu hsz hx hy h0 h1 (by rw [Addr.add_off _ _ rfl];exact h)
theorem Zef {f:FuncId} {xs:List Operand} {vs:List Value} {ats:Array TypeId} {Post:Value→Kn→Prop} (hg:Zm ops S g=some true) (hd:ZC n dst=true) (he:enters P f=true) (ha:evs S xs=some vs) (hc:Zv P f vs B [] (fun v B' Ls=>Ls=[]∧Post v B'))
  (h :∀v B',B.le B'→Post v B'→K v D B' L):opX P n ops i ⟨dst,.call ⟨.value (.func f),xs.toArray,ats⟩,ty,pos,after,g⟩ K S D B L:=
 Zbs hg hd he ha hc fun v B' Ls hle ⟨h1,h2⟩=>by subst h1;rw [List.append_nil];exact h v B' hle h2
end
end Go.BL
namespace Go.BL
open Go.Conc (G)
structure SlK {α:Type} (B:Kn) (q:Option Addr) (cp w:Nat) (R:Rel α) (xs:List α):Prop where
 rows:ZdY B q w R xs
 cap:xs.length≤cp
 len:xs.length≤2000000
theorem SlK.mono {α:Type} {B B':Kn} {q:Option Addr} {cp w:Nat} {R:Rel α} {xs:List α} (h:SlK B q cp w R xs) (hR:Mono R) (hle:B.le B'):SlK B' q cp w R xs:=⟨h.rows.mono hR hle,h.cap,h.len⟩
theorem SlK.base {α:Type} {B:Kn} {q:Option Addr} {cp w:Nat} {R:Rel α} {xs:List α} (h:SlK B q cp w R xs) {i:Nat} {z:α} (hz:xs[i]? = some z) :∃b o,q=some ⟨b,o,none⟩:=h.rows.base hz
theorem SlK.elem {α:Type} {B:Kn} {b o cp w:Nat} {R:Rel α} {xs:List α} (h:SlK B (some ⟨b,o,none⟩) cp w R xs) {i:Nat} {z:α} (hz:xs[i]? = some z) :∃row,R B row z∧Zbi B b (o+i*w) row:=h.rows.elem hz
theorem SlK.nil {α:Type} {B:Kn} {q:Option Addr} {cp w:Nat} {R:Rel α} : SlK B q cp w R ([]:List α):=⟨.nil,Nat.zero_le _,Nat.zero_le _⟩
section
variable {P:PJ} {C:Cx P} {k:List Item} {n:Nat} {ops:Array Oper} {i:Nat} {K:Zbl} {S:Env} {D:List Deferred} {B:Kn} {L:List Cells} {Q:Exit→Zao}
variable {dst:Option Tmp} {ty:TypeId} {pos:String} {after:Array Edge} {g:Option (Nat × Bool)}
theorem ZuK {o:Oper} {K:Zao} (h:opW P n ops i o K S D B (L ++ [[]])):opW P n ops i o K S D B L:=fun C todo k T ho hn hT hA=>by
 have:=h C todo k T ho hn hT hA
 simpa using this
end
theorem Zd0 {P:PJ} {n:Nat} {Q:Exit→Zao} {S:Env} {D:List Deferred} {B:Kn} {L:List Cells} {c:Code} {α:Type} {R:Rel α} {xs:List α} {l:Cells} {p:Option Addr} {cp:Nat} {T:TypeId} {w:Nat} (j:Nat) (hj:L[j]? = some l) (hv:ZY B l p cp T w R xs) (hR:Mono R) (hl:xs.length≤2000000)
  (h :∀B',B.le B'→SlK B' p cp w R xs→wpS P n c Q S D B' (L.set j [])):wpS P n c Q S D B L:=
 Zm6 j hj fun B' hle hm=>h B' hle ⟨hv.rows hR hle hm,hv.cap,hl⟩
end Go.BL
namespace Go.BL
theorem SlK.cutE {α:Type} {B:Kn} {q:Option Addr} {cp w:Nat} {R:Rel α} {xs:List α} (h:SlK B q cp w R xs) (a b:Nat) (hab:a≤b) (hb:b≤xs.length):b≤cp∧∃q' cp',Value.slice (if cp=a then q else q.map (·.add (a*w))) (b - a) (cp - a) = .slice q' ((xs.take b).drop a).length cp'∧SlK B q' cp' w R ((xs.take b).drop a):=by
 have e1:((xs.take b).drop a).length=b - a:=by rw [List.length_drop,List.length_take];omega
 have hc:=h.cap
 have hl:=h.len
 exact ⟨by omega,_,_,by rw [e1],h.rows.cut hb h.cap,by omega,by omega⟩
end Go.BL
namespace Go.BL
open Go.Conc (G)
section
variable {P:PJ} {C:Cx P} {k:List Item} {n:Nat} {ops:Array Oper} {i:Nat} {K:Zbl} {S:Env} {D:List Deferred} {B:Kn} {L:List Cells} {Q:Exit→Zao}
variable {dst:Option Tmp} {ty:TypeId} {pos:String} {after:Array Edge} {g:Option (Nat × Bool)}
variable {α:Type} {R:Rel α} {xs:List α}
theorem Zn8 {BV:Kn} {t u e:TypeId} {x y:Operand} {sz by_ m d c c2:Nat} {p q:Option Addr} {rows:List (List Value)} {ys:List α} {l:Cells} (j:Nat) (hj:L[j]? = some l) (hv:ZY BV l p c e sz R xs) (hm:m=xs.length) (hg:Zm ops S g=some true) (hd:ZC n dst=true)
  (he:Zck P t e sz by_=true) (hu:(match P.underlying u with | some (.slice _)=>true | _=>false)=true) (hx:ev S x=some (.slice p m c)) (hy:ev S y=some (.slice q d c2)) (hdl:d=ys.length) (hs:ZaQ B L.flatten q rows.flatten) (hone:rows.flatten.all ZgT=true) (hw:wide sz rows) (hr:All2 (R BV) rows ys) (hb1:(xs.length+ys.length)*by_≤140737488355328)
  (h :∀l' p' c',ZY BV l' p' c' e sz R (xs ++ ys)→K (.slice p' (xs ++ ys).length c') D B (L.set j l')):opX P n ops i ⟨dst,.call ⟨.builtin .append,#[x,y],#[t,u]⟩,ty,pos,after,g⟩ K S D B L:=by
 subst hm;subst hdl
 obtain ⟨rows0,h1,h2,h3⟩:=hv
 refine ZeO j hj h3 hg hd he hu hx hy hs (by rw [Zc5 hw,hr.len]) hone hb1 fun l' p' c' hv'=>?_
 have:=h l' p' c' ⟨rows0 ++ rows,h1.app hr,?_,?_⟩
 ·rwa [List.length_append] at this
 ·intro r hr'
  rcases List.mem_append.1 hr' with hr' | hr'
  ·exact h2 r hr'
  ·exact hw r hr'
 ·rw [List.length_append,List.flatten_append];exact hv'
end
theorem Ziq.take {l:Cells} {p:Option Addr} {n c k:Nat} {T:TypeId} {sz:Nat} {vs:List Value} (h:Ziq l p n c T sz vs) (hk:k≤n):Ziq l p k c T sz (vs.take (k*sz)):=by
 obtain ⟨h1,h2⟩:=h
 have hks:k*sz≤n*sz:=Nat.mul_le_mul_right sz hk
 refine ⟨by rw [List.length_take,h1];exact Nat.min_eq_left hks,?_⟩
 rcases h2 with ⟨rfl,rfl,rfl,rfl⟩ | ⟨b,arr,rfl,h2,h3,rfl,h4⟩
 ·exact .inl ⟨rfl,by omega,rfl,rfl⟩
 ·refine .inr ⟨b,arr,rfl,h2,?_,rfl,by omega⟩
  rw [← h3,List.take_take,Nat.min_eq_left hks]
theorem All2.take {α:Type} {R:List Value→α→Prop} {rows:List (List Value)} {xs:List α} (h:All2 R rows xs) :∀k,All2 R (rows.take k) (xs.take k):=by
 induction h with
 | nil=>intro k;simp;exact .nil
 | cons h1 _ ih=>
  intro k
  cases k with
  | zero=>exact .nil
  | succ k=>exact .cons h1 (ih k)
theorem Zeb {w:Nat} :∀{rows:List (List Value)},wide w rows→∀k,(rows.take k).flatten=rows.flatten.take (k*w)
 | [],_,k=>by simp
 | r :: rows,h,0=>by simp
 | r :: rows,h,k+1=>by
  have e:=h r (List.mem_cons_self ..)
  rw [List.take_succ_cons,List.flatten_cons,List.flatten_cons,Zeb (fun r hr=>h r (List.mem_cons_of_mem _ hr)) k,show (k+1)*w=r.length+k*w from by rw [e,Nat.succ_mul,Nat.add_comm],List.take_length_add_append]
theorem ZY.take {α:Type} {B:Kn} {l:Cells} {p:Option Addr} {c:Nat} {T:TypeId} {w:Nat} {R:Rel α} {xs:List α} (h:ZY B l p c T w R xs) {k:Nat} (hk:k≤xs.length):ZY B l p c T w R (xs.take k):=by
 obtain ⟨rows,h1,h2,h3⟩:=h
 refine ⟨rows.take k,h1.take k,fun r hr=>h2 r (List.mem_of_mem_take hr),?_⟩
 rw [Zeb h2]
 have:=h3.take hk
 rwa [show (xs.take k).length=k from by rw [List.length_take];omega]
end Go.BL
namespace Go.BL
open Go.Conc (G)
section
variable {P:PJ} {C:Cx P} {k:List Item} {n:Nat} {ops:Array Oper} {i:Nat} {S:Env} {D:List Deferred} {B:Kn} {L:List Cells} {Q:Exit→Zao}
variable {α:Type} {R:Rel α} {xs:List α} {l:Cells} {p:Option Addr} {cp:Nat} {T:TypeId} {w:Nat}
theorem Z1 {o:Oper} {K:Zao} (j:Nat) (hj:L[j]? = some l) (hv:ZY B l p cp T w R xs) (hR:Mono R) (hl:xs.length≤2000000)
  (h :∀B',B.le B'→SlK B' p cp w R xs→opW P n ops i o K S D B' (L.set j [])):opW P n ops i o K S D B L:=fun C todo k T ho hn hT hA=>by
 obtain ⟨r,h1,h2⟩:=Zaa C.F [] hj
 exact C.X.publish rfl h1 fun B' hle hm=>C.X.perm (by simpa using h2.symm) (h B' hle ⟨hv.rows hR hle hm,hv.cap,hl⟩ C todo k T ho hn hT fun S' D' B'' L' T' hle' hq=>hA S' D' B'' L' T' (hle.trans hle') hq)
theorem ZaV {I:Kn→List Cells→Prop} {ℓ:List Nat} {K:Zao} (j:Nat) (hj:L[j]? = some l) (hv:ZY B l p cp T w R xs) (hR:Mono R) (hl:xs.length≤2000000) (hI' :∀B',B.le B'→I B' (L.set j []))
  (h :∀B',B.le B'→SlK B' p cp w R xs→ZbV C k n ops I ℓ K S D B' (L.set j [])):ZbV C k n ops I ℓ K S D B L:=fun T ex pend π a1 a2 a3 a4 a5 a6 a7 a8 a9 hI hA=>by
 obtain ⟨r,h1,h2⟩:=Zaa C.F [] hj
 exact C.X.publish rfl h1 fun B' hle hm=>C.X.perm (by simpa using h2.symm) (h B' hle ⟨hv.rows hR hle hm,hv.cap,hl⟩ T ex pend π a1 a2 a3 a4 a5 a6 a7 a8 a9 (hI' B' hle) fun S' D' B'' L' T' hle' hq=>hA S' D' B'' L' T' (hle.trans hle') hq)
theorem Zt8 {rs:List ResultVar} {Post:Value→Kn→List Cells→Prop} (e:Exit) (he:e = .ret∨e = .normal) (vs:List Value) (hr:Zc7 P S B L rs vs) (hq:Post (ZdL vs) B [[]]):Zfz P rs Post e S [] B L:=
 ⟨he,rfl,vs,[[]],hr,⟨L.flatten,by simp⟩,hq⟩
end
end Go.BL
namespace Go.BL
abbrev Str:=List UInt8
def Zbv:Rel Str:=fun _ row x=>row=[str x]∧x.length≤2000000
theorem Zbv.mono:Mono Zbv:=fun _ _ _ h=>h
theorem Zbv.one {B:Kn} :∀row y,Zbv B row y→row.all ZgT=true∧row.length=1:=by rintro _ y ⟨rfl,_⟩;exact ⟨rfl,rfl⟩
def Zcf:Rel Int:=fun _ row x=>row=[.int .i64 x]
theorem Zcf.mono:Mono Zcf:=fun _ _ _ h=>h
structure DUser where
 name:Str
 pass:Str
 quota:Int
deriving DecidableEq
def Zs:Rel DUser:=fun _ row x=>row=[str x.name,str x.pass,.int .i64 x.quota]∧x.name.length≤2000000∧x.pass.length≤2000000
theorem Zs.mono:Mono Zs:=fun _ _ _ h=>h
theorem Zs.one {B:Kn} :∀row y,Zs B row y→row.all ZgT=true∧row.length=3:=by rintro _ y ⟨rfl,_⟩;exact ⟨rfl,rfl⟩
structure DGrant where
 user:Str
 rights:Int
deriving DecidableEq
def ZZ:Rel DGrant:=fun _ row x=>row=[str x.user,.int .i64 x.rights]∧x.user.length≤2000000
theorem ZZ.mono:Mono ZZ:=fun _ _ _ h=>h
theorem ZZ.one {B:Kn} :∀row y,ZZ B row y→row.all ZgT=true∧row.length=2:=by rintro _ y ⟨rfl,_⟩;exact ⟨rfl,rfl⟩
structure DMail where
 uid:Int
 flags:Int
 text:Str
deriving DecidableEq
def ZN:Rel DMail:=fun _ row x=>row=[.int .i64 x.uid,.int .i64 x.flags,str x.text]∧x.text.length≤2000000
theorem ZN.mono:Mono ZN:=fun _ _ _ h=>h
theorem ZN.one {B:Kn} :∀row y,ZN B row y→row.all ZgT=true∧row.length=3:=by rintro _ y ⟨rfl,_⟩;exact ⟨rfl,rfl⟩
structure DSpan where
 low:Int
 high:Int
deriving DecidableEq
def ZjU:Rel DSpan:=fun _ row x=>row=[.int .i64 x.low,.int .i64 x.high]
theorem ZjU.mono:Mono ZjU:=fun _ _ _ h=>h
structure DItem where
 id:Int
 fr:Str
 text:Str
 left:List Str
deriving DecidableEq
def Zw:Rel DItem:=fun B row x=>∃q cp,row=[.int .i64 x.id,str x.fr,str x.text,.slice q x.left.length cp]∧SlK B q cp 1 Zbv x.left∧x.fr.length≤2000000∧x.text.length≤2000000
theorem Zw.mono:Mono Zw:=by rintro B B' hle row x ⟨q,cp,h1,h2,h3,h4⟩;exact ⟨q,cp,h1,h2.mono Zbv.mono hle,h3,h4⟩
structure DQueue where
 next:Int
 items:List DItem
deriving DecidableEq
structure DLetter where
 fr:Str
 to_:List Str
 text:Str
deriving DecidableEq
structure DBox where
 next:Int
 mail:List DMail
deriving DecidableEq
structure DFolder where
 owner:Str
 name:Str
 grants:List DGrant
 next:Int
 mail:List DMail
deriving DecidableEq
def Ze:Rel DFolder:=fun B row x=>∃q cp q' cp',row=[str x.owner,str x.name,.slice q x.grants.length cp,.int .i64 x.next,.slice q' x.mail.length cp']∧SlK B q cp 2 ZZ x.grants∧SlK B q' cp' 3 ZN x.mail∧x.owner.length≤2000000∧x.name.length≤2000000
theorem Ze.mono:Mono Ze:=by rintro B B' hle row x ⟨q,cp,q',cp',h1,h2,h3,h4⟩;exact ⟨q,cp,q',cp',h1,h2.mono ZZ.mono hle,h3.mono ZN.mono hle,h4⟩
theorem Ze.one {B:Kn} :∀row y,Ze B row y→row.all ZgT=true∧row.length=5:=by rintro _ y ⟨_,_,_,_,rfl,_⟩;exact ⟨rfl,rfl⟩
structure DHost where
 domain:Str
 users:List DUser
 folders:List DFolder
 queue:DQueue
deriving DecidableEq
end Go.BL
namespace Go.BL
theorem ZY.strs {B:Kn} {b:Nat} {T:TypeId} {ls:List Str} (h :∀x,x∈ls→x.length≤2000000):ZY B (Zah b (ls.map str) T) (some ⟨b,0,none⟩) ls.length T 1 Zbv ls:=by
 have e:ls.map str=(ls.map fun x=>[str x]).flatten:=by induction ls with
  | nil=>rfl
  | cons x r ih=>simp [ih (fun y hy=>h y (List.mem_cons_of_mem _ hy))]
 rw [e]
 refine ZY.lit ?_ (fun row hr=>by obtain ⟨x,_,rfl⟩:=List.mem_map.1 hr;rfl)
 clear e
 induction ls with
 | nil=>exact .nil
 | cons x r ih=>exact .cons ⟨rfl,h x (List.mem_cons_self ..)⟩ (ih (fun y hy=>h y (List.mem_cons_of_mem _ hy)))
theorem ZvF :∀{B:Kn} {ls:List Str},(∀x,x∈ls→x.length≤2000000)→All2 (Zbv B) (ls.map fun x=>[str x]) ls
 | _,[],_=>.nil
 | _,x :: r,h=>.cons ⟨rfl,h x (List.mem_cons_self ..)⟩ (ZvF (fun y hy=>h y (List.mem_cons_of_mem _ hy)))
end Go.BL
namespace Go.BL
theorem ZvZ {ls:List Str} : wide 1 (ls.map fun x=>[str x]):=fun row hr=>by obtain ⟨x,_,rfl⟩:=List.mem_map.1 hr;rfl
end Go.BL
namespace Go.BL
open Go.Conc (G)
def ZxS {P:PJ} (X:Lg P) (l:Cells) (hn:(l.map (·.1)).Nodup):Lg P where
 join:=fun h hlB=>X.join (P.Join.lend hn hlB h)
 main:=X.main
 R:=fun g B L=>(∀p,p∈l→B.mem p.1=some p.2)→X.R g (B.minus l) (l ++ L)
 conv:=fun {g B B' L L'} hle hs hb hl h hlB=>by
  have hlB' :∀p,p∈l→B'.mem p.1=some p.2:=fun p hp=>hle _ _ (hlB p hp)
  refine X.conv (fun b o hb=>?_) (fun w s=>Zk1 hlB' hn (hs w (Zk9 hlB s))) (fun b o hbo=>?_) (fun p hp=>?_) (h hlB')
  ·obtain ⟨h1,h2⟩:=Kn.minus_mem.1 hb
   exact Kn.minus_mem.2 ⟨hle b o h1,h2⟩
  ·obtain ⟨h1,h2⟩:=Kn.minus_mem.1 hbo
   rcases hb b o h1 with hx | ⟨p,hp,e⟩
   ·obtain ⟨o',ho'⟩:=Option.isSome_iff_exists.1 hx
    exact .inl (by rw [Kn.minus_mem.2 ⟨ho',h2⟩];rfl)
   ·exact .inr ⟨p,List.mem_append.2 (.inr hp),e⟩
  ·rcases List.mem_append.1 hp with hp | hp
   ·exact ⟨p,List.mem_append.2 (.inl hp),rfl⟩
   ·obtain ⟨q,hq,e⟩:=hl p hp
    exact ⟨q,List.mem_append.2 (.inr hq),e⟩
 step:=fun {g B L} hg h hlB=>by
  refine X.step hg fun w s=>?_
  obtain ⟨g',w',es,B',L',h1,h2,h3,h4⟩:=h w (Zk9 hlB s)
  have hlB' :∀p,p∈l→B'.mem p.1=some p.2:=fun p hp=>h3.le _ _ (hlB p hp)
  refine ⟨g',w',es,B'.minus l,l ++ L',h1,fun e he=>?_,⟨fun b o hb=>?_,Zk1 hlB' hn h3.sat,h3.size,fun b hb hn'=>h3.keep b hb fun p hp=>hn' p (List.mem_append.2 (.inr hp)),fun b o hbo=>?_,fun p hp=>?_,h3.fz,h3.tape,h3.os,h3.output⟩,h4 hlB'⟩
  ·rcases h2 e he with hx | ⟨hs,blk,hloc,hx⟩
   ·exact .inl hx
   ·refine .inr ⟨hs,blk,hloc,?_⟩
    rcases hx with ⟨o,ho⟩ | ⟨hw,hb⟩ | hge
    ·exact .inl ⟨o,List.mem_append.2 (.inr ho)⟩
    ·cases hi:inL l blk with
     | true=>
      obtain ⟨p,hp,rfl⟩:=Zlf.1 hi
      exact .inl ⟨p.2,List.mem_append.2 (.inl hp)⟩
     | false=>
      obtain ⟨o,ho⟩:=Option.isSome_iff_exists.1 hb
      exact .inr (.inl ⟨hw,by rw [Kn.minus_mem.2 ⟨ho,hi⟩];rfl⟩)
    ·exact .inr (.inr hge)
  ·obtain ⟨a1,a2⟩:=Kn.minus_mem.1 hb
   exact Kn.minus_mem.2 ⟨h3.le b o a1,a2⟩
  ·obtain ⟨a1,a2⟩:=Kn.minus_mem.1 hbo
   rcases h3.newB b o a1 with hx | ⟨p,hp,e⟩ | hge
   ·obtain ⟨o',ho'⟩:=Option.isSome_iff_exists.1 hx
    exact .inl (by rw [Kn.minus_mem.2 ⟨ho',a2⟩];rfl)
   ·exact .inr (.inl ⟨p,List.mem_append.2 (.inr hp),e⟩)
   ·exact .inr (.inr hge)
  ·rcases List.mem_append.1 hp with hp | hp
   ·exact .inl ⟨p,List.mem_append.2 (.inl hp),rfl⟩
   ·rcases h3.newL p hp with ⟨q,hq,e⟩ | hge
    ·exact .inl ⟨q,List.mem_append.2 (.inr hq),e⟩
    ·exact .inr hge
theorem Zv.borrow {P:PJ} {f:FuncId} {args:List Value} {B:Kn} {l:Cells} {Ls:List Cells} {Post:Value→Kn→List Cells→Prop}
  (h:(∀p,p∈l→(B.add l).mem p.1=some p.2)→Zv P f args (B.add l) Ls Post) :
  Zv P f args B (l :: Ls) (fun v B' Ls'=>∃B₂ Ls₂,Ls'=l :: Ls₂∧B'=B₂.minus l∧(B.add l).le B₂∧(∀p,p∈l→(B.add l).mem p.1=some p.2)∧(B.add l).minus l=B∧Post v B₂ Ls₂):=fun X kind c cs F hk hA=>by
 refine X.assume rfl fun ha hnd=>?_
 rw [List.flatten_cons,List.append_assoc] at ha hnd ⊢
 have hnl:(l.map (·.1)).Nodup:=by rw [List.map_append] at hnd;exact (List.nodup_append.1 hnd).1
 have hal :∀p,p∈l→B.mem p.1=none:=fun p hp=>ha p (List.mem_append.2 (.inl hp))
 have hm :∀p,p∈l→(B.add l).mem p.1=some p.2:=fun p hp=>Kn.add_mem hal hnl hp
 have e:(B.add l).minus l=B:=by
  have :∀b,((B.add l).minus l).mem b=B.mem b:=fun b=>by
   simp only [Kn.minus]
   cases hb:inL l b with
   | true=>
    obtain ⟨p,hp,rfl⟩:=Zlf.1 hb
    simp [hal p hp]
   | false=>
    simp only [Kn.add]
    cases hx:B.mem b with
    | some o=>simp
    | none=>
     have:l.find? (fun p=>p.1 == b)=none:=List.find?_eq_none.2 fun p hp=>by simpa using Zez.1 hb p hp
     simp [this]
  cases B
  simp only [Kn.minus] at this ⊢
  congr 1
  funext b
  exact this b
 have key:=h hm (ZxS X l hnl) kind c cs F hk fun v B₂ Ls₂ hle hq hlB=>by
  have:=hA v (B₂.minus l) (l :: Ls₂) (fun b o hb=>by
    have h1:=Kn.le_add B l b o hb
    refine Kn.minus_mem.2 ⟨hle b o h1,Zez.2 fun p hp he=>?_⟩
    rw [← he,hal p hp] at hb;cases hb) ⟨B₂,Ls₂,rfl,rfl,hle,hm,e,hq⟩
  rwa [List.flatten_cons,List.append_assoc] at this
 have:=key hm
 rwa [e] at this
theorem Kn.less_minus {B B₂:Kn} {l:Cells} (h :∀p,p∈l→(B.add l).mem p.1=some p.2):(B₂.less (B.add l)).le (B₂.minus l):=fun b o hb=>by
 simp only [Kn.less] at hb
 split at hb
 ·cases hb
 ·rename_i e
  refine Kn.minus_mem.2 ⟨hb,Zez.2 fun p hp he=>e ?_⟩
  rw [← he,h p hp];rfl
end Go.BL
namespace Go.BL
open Go.Conc (G)
def Zso {α:Type} (R:Rel α):Prop:=∀{B B':Kn} {row:List Value} {x:α},R B row x→R B' row x
theorem Zbv.any:Zso Zbv:=fun h=>h
theorem Zcf.any:Zso Zcf:=fun h=>h
theorem Zs.any:Zso Zs:=fun h=>h
theorem ZZ.any:Zso ZZ:=fun h=>h
theorem ZN.any:Zso ZN:=fun h=>h
theorem ZY.rowsF {α:Type} {B B':Kn} {l:Cells} {p:Option Addr} {c:Nat} {T:TypeId} {w:Nat} {R:Rel α} {xs:List α} (h:ZY B l p c T w R xs) (hR:Zso R) (hm :∀q,q∈l→B'.mem q.1=some q.2):ZdY B' p w R xs:=by
 obtain ⟨rows,h1,h2,h3⟩:=h
 have h':ZY B' l p c T w R xs:=⟨rows,h1.mono fun _ _=>hR,h2,h3⟩
 have:=h'.rows (fun _ _ _ h=>hR h) (Kn.le.refl B') hm
 exact this
theorem ZY.anyK {α:Type} {B B':Kn} {l:Cells} {p:Option Addr} {c:Nat} {T:TypeId} {w:Nat} {R:Rel α} {xs:List α} (h:ZY B l p c T w R xs) (hR:Zso R):ZY B' l p c T w R xs:=by
 obtain ⟨rows,h1,h2,h3⟩:=h
 exact ⟨rows,h1.mono fun _ _=>hR,h2,h3⟩
section
variable {P:PJ} {C:Cx P} {k:List Item} {n:Nat} {ops:Array Oper} {i:Nat} {S:Env} {D:List Deferred} {B BV B0:Kn} {L:List Cells} {Q:Exit→Zao}
variable {α:Type} {R:Rel α} {xs:List α} {l:Cells} {p:Option Addr} {cp:Nat} {T:TypeId} {w:Nat}
theorem Zow {B':Kn} (h0:B0.le B) (hm :∀p,p∈l→B'.mem p.1=some p.2) (ha :∀p,p∈l→B.mem p.1=none) :∀p,p∈l→(B'.less B0).mem p.1=some p.2:=fun p hp=>by
 have:B0.mem p.1=none:=by
  cases h:B0.mem p.1 with
  | none=>rfl
  | some o=>have:=h0 _ _ h;rw [ha p hp] at this;cases this
 simp [Kn.less,this,hm p hp]
theorem Zqc {c:Code} (j:Nat) (hj:L[j]? = some l) (hv:ZY BV l p cp T w R xs) (hR:Zso R) (hl:xs.length≤2000000) (h0:B0.le B)
  (h :∀B',B.le B'→SlK (B'.less B0) p cp w R xs→wpS P n c Q S D B' (L.set j [])):wpS P n c Q S D B L:=
 Zsv fun ha _=>Zm6 j hj fun B' hle hm=>h B' hle ⟨hv.rowsF hR (Zow h0 hm fun q hq=>ha q (List.mem_flatten.2 ⟨l,List.mem_of_getElem? hj,hq⟩)),hv.cap,hl⟩
theorem Zw7 {I:Kn→List Cells→Prop} {ℓ:List Nat} {K:Zao} (j:Nat) (hj:L[j]? = some l) (hv:ZY BV l p cp T w R xs) (hR:Zso R) (hl:xs.length≤2000000) (h0:B0.le B) (hI' :∀B',B.le B'→I B' (L.set j []))
  (h :∀B',B.le B'→SlK (B'.less B0) p cp w R xs→ZbV C k n ops I ℓ K S D B' (L.set j [])):ZbV C k n ops I ℓ K S D B L:=fun T ex pend π a1 a2 a3 a4 a5 a6 a7 a8 a9 hI hA=>by
 obtain ⟨r,h1,h2⟩:=Zaa C.F [] hj
 refine C.X.assume rfl fun ha _=>C.X.publish rfl h1 fun B' hle hm=>C.X.perm (by simpa using h2.symm) (h B' hle ⟨hv.rowsF hR (Zow h0 hm fun q hq=>ha q (List.mem_append.2 (.inl (List.mem_flatten.2 ⟨l,List.mem_of_getElem? hj,hq⟩)))),hv.cap,hl⟩ T ex pend π a1 a2 a3 a4 a5 a6 a7 a8 a9 (hI' B' hle) fun S' D' B'' L' T' hle' hq=>hA S' D' B'' L' T' (hle.trans hle') hq)
def ZxQ (E:α→Env) (Sg:α→List Cells) (F:α→Kn→Prop) (D:List Deferred):Zao:=fun S' D' B' L'=>D'=D∧∃x,F x B'∧Sub (E x) S'∧∃js r,Za0 L' js=some (Sg x,r)
theorem ZlG {x y:Code} (ks:List Nat) (V:α→Env) (js:List Nat) (M N:α→List Cells) (F:α→Kn→Prop)
  (h:wpS P n x (thn (ZxQ (fun g=>V g ++ sel ks S) (fun g=>Zer L js (M g) ++ N g) F D) Q) S D B L)
  (h' :∀g B',B.le B'→F g B'→wpS P n y Q (V g ++ sel ks S) D B' (Zer L js (M g) ++ N g)):wpS P n (.seq x y) Q S D B L:=
 Zst _ h fun S' D' B' L' hle ⟨hD,g,hF,hs,jj,r,hp⟩=>by
  subst hD
  exact Z2 _ hs (Zul jj hp (h' g B' hle hF))
theorem ZJ {E:α→Env} {Sg:α→List Cells} {F:α→Kn→Prop} (g:α) (js:List Nat) {r:List Cells} (hF:F g B) (hs:Sub (E g) S) (hp:Za0 L js=some (Sg g,r)):thn (ZxQ E Sg F D) Q .normal S D B L:=⟨rfl,g,hF,hs,js,r,hp⟩
end
end Go.BL
namespace Go.BL
open Go.Conc (G)
theorem ZaM.borrow {P:PJ} {f:FuncId} {args:List Value} {B:Kn} {l:Cells} {v:Value} (h:(∀p,p∈l→(B.add l).mem p.1=some p.2)→ZaM P f args (B.add l) v):Zuf P f args B l v l:=
 (Zv.borrow h).mono fun v' B' Ls' _ ⟨B₂,Ls₂,h1,h2,_,_,h3,h4,h5,h6⟩=>by subst h5;subst h6;exact ⟨h4,h2.trans h3,h1⟩
theorem Kn.less_minus' {B B₂ B':Kn} {l:Cells} (h :∀p,p∈l→(B.add l).mem p.1=some p.2) (e:B'=B₂.minus l):(B₂.less (B.add l)).le B':=e ▸ Kn.less_minus h
theorem ZY.lend {α:Type} {B:Kn} {l:Cells} {p:Option Addr} {c:Nat} {T:TypeId} {w:Nat} {R:Rel α} {xs:List α} (h:ZY B l p c T w R xs) (hR:Mono R) (hm :∀q,q∈l→(B.add l).mem q.1=some q.2) (hl:xs.length≤2000000):SlK (B.add l) p c w R xs:=⟨h.rows hR (Kn.le_add B l) hm,h.cap,hl⟩
end Go.BL
namespace Go.BL
open Go.Conc (G)
section
variable {P:PJ} {C:Cx P} {k:List Item} {n:Nat} {ops:Array Oper} {i:Nat} {K:Zbl} {S:Env} {D:List Deferred} {B:Kn} {L:List Cells} {Q:Exit→Zao}
variable {dst:Option Tmp} {ty:TypeId} {pos:String} {after:Array Edge} {g:Option (Nat × Bool)}
theorem Zf1 {t e:TypeId} {x y:Operand} {k:IntKind} {p:Option Addr} {b len cap sz:Nat} {ix:Int} (hp:p=some ⟨b,0,none⟩) (hg:Zm ops S g=some true) (hd:ZC n dst=true) (hu:P.underlying t=some (.slice e)) (hsz:Z8 P e=some sz)
  (hx:ev S x=some (.slice p len cap)) (hy:ev S y=some (.int k ix)) (h0:0≤ix) (h1:ix<len) (h:K (ptr ⟨b,ix.toNat*sz,none⟩) D B L):opX P n ops i ⟨dst,.indexAddr t x y,ty,pos,after,g⟩ K S D B L:=by
 subst hp
 exact Zbf hg hd hu hsz hx hy h0 h1 (by rw [Addr.add_off _ _ rfl,Nat.zero_add];exact h)
theorem Zqi {α:Type} {x y:Code} (ks:List Nat) (V:α→Env) (N:α→List Cells) (F:α→Kn→Prop)
  (h:wpS P n x (thn (ZxQ (fun g=>V g ++ sel ks S) N F D) Q) S D B L)
  (h' :∀g B',B.le B'→F g B'→wpS P n y Q (V g ++ sel ks S) D B' (N g)):wpS P n (.seq x y) Q S D B L:=
 Zst _ h fun S' D' B' L' hle ⟨hD,g,hF,hs,jj,r,hp⟩=>by
  subst hD
  exact Z2 _ hs (Zul jj hp (h' g B' hle hF))
end
end Go.BL
namespace Go.BL
open Go.Conc (G)
theorem ZY.ints {B:Kn} {b:Nat} {T:TypeId} {ls:List Int} : ZY B (Zah b (ls.map int) T) (some ⟨b,0,none⟩) ls.length T 1 Zcf ls:=by
 have e:ls.map int=(ls.map fun x=>[int x]).flatten:=by induction ls with
  | nil=>rfl
  | cons x r ih=>simp [ih]
 rw [e]
 refine ZY.lit ?_ (fun row hr=>by obtain ⟨x,_,rfl⟩:=List.mem_map.1 hr;rfl)
 clear e
 induction ls with
 | nil=>exact .nil
 | cons x r ih=>exact .cons rfl ih
theorem ZiM :∀(a b:List Value) (k:Nat) (us:List Value),Zav (a ++ b) (a.length+k) us=a ++ Zav b k us
 | [],b,k,us=>by simp
 | x :: a,b,k,us=>by
  cases us with
  | nil=>simp [ZbX]
  | cons u us=>
   have:=ZiM a b k (u :: us)
   rw [List.length_cons,show a.length+1+k=(a.length+k)+1 from by omega]
   simp only [List.cons_append,Zav]
   rw [this]
theorem ZfD :∀(a b:List Value) (k:Nat) (us:List Value),k+us.length≤a.length→Zav (a ++ b) k us=Zav a k us ++ b
 | a,b,k,[],_=>by simp [ZbX]
 | [],b,k,u :: us,h=>by simp at h
 | x :: a,b,0,u :: us,h=>by
  have:=ZfD a b 0 us (by simpa using h)
  simp [Zav,this]
 | x :: a,b,k+1,u :: us,h=>by
  have:=ZfD a b k (u :: us) (by simp only [List.length_cons] at h ⊢;omega)
  simp only [Zav,List.cons_append,this]
theorem ZiL (l:List Value) (i k:Nat) (us:List Value) (h:i+us.length≤k) (hk:k≤l.length):(Zav l i us).take k=Zav (l.take k) i us:=by
 have e:l=l.take k ++ l.drop k:=(List.take_append_drop k l).symm
 have hl:(l.take k).length=k:=by rw [List.length_take];omega
 conv=>lhs;rw [e,ZfD _ _ _ _ (by rw [hl];exact h)]
 rw [List.take_append_of_le_length (by rw [Zal,hl];exact Nat.le_refl _),List.take_of_length_le (by rw [Zal,hl];exact Nat.le_refl _)]
theorem Zhf {w:Nat} {us:List Value} :∀{rows:List (List Value)} {i off:Nat} {row:List Value},wide w rows→rows[i]? = some row→off+us.length≤w→Zav rows.flatten (i*w+off) us=(rows.set i (Zav row off us)).flatten
 | [],i,off,row,_,h,_=>by simp at h
 | r :: rows,0,off,row,hw,h,ho=>by
  simp only [List.getElem?_cons_zero,Option.some.injEq] at h
  subst h
  have e:=hw r (List.mem_cons_self ..)
  rw [Nat.zero_mul,Nat.zero_add,List.flatten_cons,ZfD _ _ _ _ (by rw [e];exact ho),List.set_cons_zero,List.flatten_cons]
 | r :: rows,i+1,off,row,hw,h,ho=>by
  have e:=hw r (List.mem_cons_self ..)
  have:=Zhf (rows:=rows) (i:=i) (off:=off) (fun r hr=>hw r (List.mem_cons_of_mem _ hr)) (by simpa using h) ho
  rw [show (i+1)*w+off=r.length+(i*w+off) from by rw [e,Nat.succ_mul];omega,List.flatten_cons,ZiM,this,List.set_cons_succ,List.flatten_cons]
section
variable {P:PJ} {C:Cx P} {k:List Item} {n:Nat} {ops:Array Oper} {i:Nat} {K:Zbl} {S:Env} {D:List Deferred} {B BV:Kn} {L:List Cells} {Q:Exit→Zao}
variable {dst:Option Tmp} {ty:TypeId} {pos:String} {after:Array Edge} {g:Option (Nat × Bool)}
theorem ZeJ {t T:TypeId} {x y:Operand} {v:Value} {α:Type} {R:Rel α} {xs:List α} {z:α} (z':α) (us:List Value) {l:Cells} {p:Option Addr} {cp sz k off b:Nat} (j:Nat) (hv:ZY BV l p cp T sz R xs) (hp:p=some ⟨b,0,none⟩) (hz:xs[k]? = some z) (hg:Zm ops S g=some true) (hd:ZC n dst=true) (hsz:Z8 P t=some us.length)
  (hx:ev S x=some (ptr ⟨b,k*sz+off,none⟩)) (hy:ev S y=some v) (hvc:v.cells=us.toArray) (ho:us.all ZgT=true) (hj:L[j]? = some l) (hoff:Nat.ble (off+us.length) sz=true) (hrow :∀row,R BV row z→R BV (Zav row off us) z')
  (h :∀l',ZY BV l' p cp T sz R (xs.set k z')→K undef D B (L.set j l')):opX P n ops i ⟨dst,.store t x y,ty,pos,after,g⟩ K S D B L:=by
 obtain ⟨rows,h1,h2,h3,⟨rfl,_,_,_⟩ | ⟨b',arr,rfl,ha,ht,rfl,hmc⟩⟩:=hv
 ·cases hp
 ·cases hp
  obtain ⟨row,hr1,hr2⟩:=h1.get hz
  have hoff':=Nat.le_of_ble_eq_true hoff
  have hk:k<xs.length:=(List.getElem?_eq_some_iff.1 hz).1
  have hb1:k*sz+off+us.length≤xs.length*sz:=by
   have:(k+1)*sz≤xs.length*sz:=Nat.mul_le_mul_right sz hk
   rw [Nat.succ_mul] at this;omega
  have hb2:xs.length*sz≤arr.length:=by rw [ha];exact Nat.mul_le_mul_right sz hmc
  refine ZF us j (Zav arr (k*sz+off) us) hg hd hsz hx hy hvc ho (r:=[]) hj rfl (Nat.ble_eq_true_of_le (by simpa using (by omega:k*sz+off+us.length≤arr.length))) rfl (h _ ?_)
  refine ⟨rows.set k (Zav row off us),h1.set (hrow row hr2) k,fun r hr=>?_,?_⟩
  ·rcases List.mem_or_eq_of_mem_set hr with hr | rfl
   ·exact h2 r hr
   ·rw [Zal];exact h2 row (List.mem_of_getElem? hr1)
  ·have e:=Zhf (us:=us) h2 hr1 hoff'
   refine ⟨?_,.inr ⟨b,_,rfl,by rw [Zal];exact ha,?_,rfl,by rw [List.length_set];exact hmc⟩⟩
   ·rw [← e,Zal,List.length_set];exact h3
   ·rw [List.length_set,ZiL _ _ _ _ hb1 hb2,ht,e]
end
end Go.BL
namespace Go.BL
open Go.Conc (G)
section
variable {P:PJ} {B:Kn} {L L₁:Cells} {l:Nat} {lp:Loop}
theorem ZfG {Q:Loop→Kn→Cells→Prop} (h:ZkS B L l (.loop lp)) (q:Q lp B L):hb P (Instr.getLoop l) Q B L:=by
 simp only [Instr.getLoop,Zk]
 exact ⟨.loop lp,h,rfl,rfl,q⟩
theorem Zk4 (hp:L.Perm ((l,.loop lp) :: L₁)):ZkS B L l (.loop lp):=.inr (hp.mem_iff.2 (List.mem_cons_self ..))
theorem Ztk {Q:Next→Kn→Cells→Prop} {args:Array Value} (h:ZkS B L l (.loop lp)) (hs:args.size=lp.params.size)
  (q:Q (.round l lp.fn ((lp.params.zip args).foldl (fun tmps (x:Tmp × Value)=>tmps.setIfInBounds x.1 x.2) lp.tmps) lp.assign lp.body) B L):hb P (Instr.yield l args) Q B L:=by
 simp only [Instr.yield,Zk]
 refine ZfG h ?_
 rw [if_neg (by simp [hs])]
 exact q
theorem Zli {Q:Unit→Kn→Cells→Prop} (hp:L.Perm ((l,.loop lp) :: L₁)) (hst:lp.state = .ready) (q:Q () B ((l,.loop { lp with state:=.busy }) :: L₁)):hb P (Instr.beginRound l) Q B L:=by
 simp only [Instr.beginRound,Zk]
 refine ZfG (Zk4 hp) ?_
 refine ⟨⟨rfl,rfl⟩,.loop lp,L₁,hp,rfl,?_⟩
 show hb P (match lp.state with | .ready=>_ | .done=>_ | .busy=>_ | .exhausted=>_) Q B _
 rw [hst]
 exact q
theorem ZnH {Q:Value→Kn→Cells→Prop} (hp:L.Perm ((l,.loop lp) :: L₁)) (q:Q (.bool true) B ((l,.loop { lp with state:=.ready,pending:=none }) :: L₁)):hb P (Instr.endRound l none) Q B L:=by
 simp only [Instr.endRound,Zk]
 refine ZfG (Zk4 hp) ?_
 exact ⟨⟨rfl,rfl⟩,.loop lp,L₁,hp,rfl,q⟩
theorem ZpM {Q:Option Code→Kn→Cells→Prop} (hp:L.Perm ((l,.loop lp) :: L₁)) (hst:(lp.state == .busy)=false) (q:Q lp.pending B ((l,.loop { lp with state:=.exhausted }) :: L₁)):hb P (Instr.endLoop l) Q B L:=by
 simp only [Instr.endLoop,Zk]
 refine ZfG (Zk4 hp) ?_
 simp only [hst,Bool.false_eq_true,if_false,Zk]
 exact ⟨⟨rfl,rfl⟩,.loop lp,L₁,hp,rfl,q⟩
theorem Zmy {Q:Nat × List Deferred→Kn→Cells→Prop} {fn:FuncId} {T:Array Value} {ps:Array Tmp} {asg body:Code}
  (q :∀r l,Q (l,[{ target:=.collected r,args:=#[] }]) B ((l,.loop { state:=.ready,pending:=none,fn:=fn,tmps:=T,params:=ps,assign:=asg,body:=body,defers:=r }) :: (r,.deferred (some [])) :: L)):hb P (Instr.enterLoop fn T ps asg body none) Q B L:=by
 simp only [Instr.enterLoop,Zk]
 refine ⟨rfl,fun r _ _=>?_⟩
 refine ⟨rfl,fun l _ _=>?_⟩
 exact q r l
theorem Zjm {Q:List Deferred→Kn→Cells→Prop} {r:Nat} {ds:List Deferred} (hp:L.Perm ((r,.deferred (some ds)) :: L₁)) (q:Q ds B ((r,.deferred none) :: L₁)):hb P (Instr.takeDeferred r) Q B L:=by
 simp only [Instr.takeDeferred,Zk]
 refine ⟨.deferred (some ds),.inr (hp.mem_iff.2 (List.mem_cons_self ..)),rfl,rfl,?_⟩
 exact ⟨⟨rfl,rfl⟩,.deferred (some ds),L₁,hp,rfl,q⟩
end
section moves
variable {P:PJ} {X:Lg P} {b:Frame} {T:Array Value} {D:List Deferred} {k:List Item} {cs:List Frame} {B:Kn} {L L₁:Cells} {l:Nat} {lp:Loop}
theorem Zuj (hr:b.roundOf=some l) (hke:b.kind≠.early) (hp:L.Perm ((l,.loop lp) :: L₁)) (hst:lp.state = .ready)
  (h:X.R (G (fat b T D k) cs) B ((l,.loop { lp with state:=.busy }) :: L₁)):X.R (G (fat b T D (.beginRound :: k)) cs) B L:=X.step rfl fun w s=>by
 have hq:hb P (do Instr.beginRound l;Pure.pure Next.skip:Sem Next) (fun nx B' L'=>nx = .skip∧B'=B∧L'=(l,.loop { lp with state:=.busy }) :: L₁) B L:=by
  simp only [Zk]
  exact Zli hp hst ⟨rfl,rfl,rfl⟩
 obtain ⟨a,w',es,B',L',h1,h2,h3,rfl,rfl,rfl⟩:=ZcO _ _ _ _ hq w #[] s
 simp only [Array.empty_append] at h1
 have ha:=ZkQ (fr:=fat b T D (.beginRound :: k)) (cs:=cs) hke h1
 refine ⟨G (fat b T D k) cs,w',seen P b.fn es,B',_,?_,fun e he=>h2 e (Zcl he),h3,h⟩
 have ha':stepG.apply P true (fat b T D (.beginRound :: k)) cs none (do Instr.beginRound l;Pure.pure Next.skip) w = .go (G (fat b T D k) cs) w' (seen P b.fn es):=ha
 simp only [fat,hr,G] at ha'
 simp only [G,stepG,stepG.exec,fat,hr,Option.elim]
 exact ha'
theorem ZoT {c:Frame} (hr:b.roundOf=some l) (hke:b.kind = .normal) (hp:L.Perm ((l,.loop lp) :: L₁))
  (h:X.R (G (c.finish (.bool true)) cs) B ((l,.loop { lp with state:=.ready,pending:=none }) :: L₁)):X.R (G (fat b T D []) (c :: cs)) B L:=X.step rfl fun w s=>by
 have hq:hb P (Instr.endRound l none) (fun v B' L'=>v = .bool true∧B'=B∧L'=(l,.loop { lp with state:=.ready,pending:=none }) :: L₁) B L:=ZnH hp ⟨rfl,rfl,rfl⟩
 obtain ⟨a,w',es,B',L',h1,h2,h3,rfl,rfl,rfl⟩:=ZcO _ _ _ _ hq w #[] s
 simp only [Array.empty_append] at h1
 refine ⟨G (c.finish (.bool true)) cs,w',seen P b.fn es,B',_,?_,fun e he=>h2 e (Zcl he),h3,h⟩
 have hd:doReturn P X.main (fat b T D []) (c :: cs) none (.bool true) w' = .go (G (c.finish (.bool true)) cs) w' #[]:=by simp [doReturn,fat,hke,G]
 simp only [fat,hr,hke,G] at hd
 obtain ⟨r1,r2⟩:=ZbE h1
 simp [G,stepG,stepG.exec,fat,hr,hke,r1,r2,GStep.after,hd]
theorem ZoU (hp:L.Perm ((l,.loop lp) :: L₁)) (hst:(lp.state == .busy)=false) (hpe:lp.pending=none)
  (h:X.R (G (fat b T D k) cs) B ((l,.loop { lp with state:=.exhausted }) :: L₁)):X.R (G (fat b T D (.endRangeFunc l :: k)) cs) B L:=X.step rfl fun w s=>by
 have hq:hb P (Instr.endLoop l) (fun v B' L'=>v=none∧B'=B∧L'=(l,.loop { lp with state:=.exhausted }) :: L₁) B L:=ZpM hp hst ⟨hpe,rfl,rfl⟩
 obtain ⟨a,w',es,B',L',h1,h2,h3,rfl,rfl,rfl⟩:=ZcO _ _ _ _ hq w #[] s
 simp only [Array.empty_append] at h1
 refine ⟨G (fat b T D k) cs,w',seen P b.fn es,B',_,?_,fun e he=>h2 e (Zcl he),h3,h⟩
 obtain ⟨r1,r2⟩:=ZbE h1
 simp [G,stepG,stepG.exec,fat,r1,r2,GStep.after]
theorem Zp9 {r:Nat} {todo:List Item} (hp:L.Perm ((r,.deferred (some [])) :: L₁))
  (h:X.R (G { fat b T D todo with mode:=.returning } cs) B ((r,.deferred none) :: L₁)):X.R (G { fat b T ({ target:=.collected r,args:=#[] } :: D) todo with mode:=.returning } cs) B L:=X.step rfl fun w s=>by
 have hq:hb P (Instr.takeDeferred r) (fun v B' L'=>v=[]∧B'=B∧L'=(r,.deferred none) :: L₁) B L:=Zjm hp ⟨rfl,rfl,rfl⟩
 obtain ⟨a,w',es,B',L',h1,h2,h3,rfl,rfl,rfl⟩:=ZcO _ _ _ _ hq w #[] s
 simp only [Array.empty_append] at h1
 refine ⟨G { fat b T D todo with mode:=.returning } cs,w',seen P b.fn es,B',_,?_,fun e he=>h2 e (Zcl he),h3,h⟩
 obtain ⟨r1,r2⟩:=ZbE h1
 simp [G,stepG,unwind,fat,r1,r2,GStep.after]
theorem Zui {f:Operand} {F:FuncId} {cap:Array Value} {ps:Array Tmp} {asg body:Code} (hr:b.roundOf=none) (hke:b.kind≠.early) (hf:evT T f = .func (.func F) #[] cap) (hen:enters P F=true)
  (h :∀r l,X.R (G (Frame.enter P F (#[.func (.yield l) #[] #[]] ++ cap) .normal) (fat b T ({ target:=.collected r,args:=#[] } :: D) (.inRangeFunc l :: k) :: cs)) B
   ((l,.loop { state:=.ready,pending:=none,fn:=b.fn,tmps:=T,params:=ps,assign:=asg,body:=body,defers:=r }) :: (r,.deferred (some [])) :: L)):X.R (G (fat b T D (.code (.rangeFunc f ps asg body) :: k)) cs) B L:=X.step rfl fun w s=>by
 have hq:hb P (Instr.enterLoop b.fn T ps asg body none) (fun v B' L'=>∃r l,v=(l,[{ target:=.collected r,args:=#[] }])∧B'=B∧L'=(l,.loop { state:=.ready,pending:=none,fn:=b.fn,tmps:=T,params:=ps,assign:=asg,body:=body,defers:=r }) :: (r,.deferred (some [])) :: L) B L:=
  Zmy fun r l=>⟨r,l,rfl,rfl,rfl⟩
 obtain ⟨a,w',es,B',L',h1,h2,h3,r,l,rfl,rfl,rfl⟩:=ZcO _ _ _ _ hq w #[] s
 simp only [Array.empty_append] at h1
 let fr:=fat b T ({ target:=.collected r,args:=#[] } :: D) (.inRangeFunc l :: k)
 let call:Call:={ callee:=.value f,args:=#[.const (.func (.yield l) #[] #[])],argTypes:=#[] }
 have hq2:hb P (do let d ← resolve fr.eval call 0;invoke d.target d.args:Sem Next) (fun nx B₂ L₂=>nx = .enter F (#[.func (.yield l) #[] #[]] ++ cap)∧B₂=B'∧L₂=(l,.loop { state:=.ready,pending:=none,fn:=b.fn,tmps:=T,params:=ps,assign:=asg,body:=body,defers:=r }) :: (r,.deferred (some [])) :: L) B' ((l,.loop { state:=.ready,pending:=none,fn:=b.fn,tmps:=T,params:=ps,assign:=asg,body:=body,defers:=r }) :: (r,.deferred (some [])) :: L):=by
  have e1:fr.eval=evT T:=Zlo b T _ _
  simp only [call,resolve,Zk,Zr,e1,hf,Deferred.ofValue,invoke]
  refine Zgq hen ⟨?_,rfl,rfl⟩
  simp [evT]
 obtain ⟨a2,w2,es2,B₂,L₂,g1,g2,g3,rfl,rfl,rfl⟩:=ZcO _ _ _ _ hq2 w' #[] h3.sat
 simp only [Array.empty_append] at g1
 have ha:=Zgt (fr:=fr) (cs:=cs) hke (by intro a b c d r;simp [fr,fat]) g1
 refine ⟨_,w2,seen P b.fn es ++ seen P b.fn es2,B₂,_,?_,fun e he=>?_,h3.trans g3,h r l⟩
 ·have ha':stepG.apply P true fr cs none (do let d ← resolve fr.eval call 0;invoke d.target d.args) w' = .go (G (Frame.enter P F (#[.func (.yield l) #[] #[]] ++ cap) .normal) (fr :: cs)) w2 (seen P b.fn es2):=ha
  simp only [fr,fat,call,hr,G] at ha'
  simp only [G,stepG,stepG.exec,fat,hr,h1,GStep.after,List.singleton_append,ha']
 ·rcases Array.mem_append.1 he with he | he
  ·exact (h2 e (Zcl he)).up g3.size
  ·exact Ev.after h3 g3.size (g2 e (Zcl he))
end moves
end Go.BL
namespace Go.BL
open Go.Conc (G)
def Zsj (P:PJ) (l:Nat) (fn:FuncId) (T:Array Value) (asg body:Code) (B:Kn) (s:Cells) (Post:Kn→Cells→Prop):Prop:=
∀(X:Lg P) (c:Frame) (cs:List Frame) (F:Cells),(∀B' s',B.le B'→Post B' s'→X.R (G (c.finish (.bool true)) cs) B' (s' ++ F))→X.R (G (Frame.round l fn T asg body .normal) (c :: cs)) B (s ++ F)
def Zzk (l:Nat) (lp:Loop) (Post:Kn→Cells→Prop):Exit→Zao:=fun e S D B L=>
 e = .normal∧L[0]? = some [(l,.loop { lp with state:=.busy })]∧∃s' gl,((L.set 0 [(l,.loop { lp with state:=.ready,pending:=none })]).flatten).Perm (s' ++ gl)∧Post B s'
theorem ZqM {P:PJ} {l:Nat} {fn:FuncId} {n:Nat} {T:Array Value} {asg body:Code} {B:Kn} {s:Cells} {Post:Kn→Cells→Prop} {lp:Loop} {L:List Cells} (hT:T.size=n) (S:Env) (hS:Ag T S) (hs:s.Perm ((l,.loop lp) :: L.flatten)) (hst:lp.state = .ready)
  (h:wpS P n asg (fun e S' D' B' L'=>e = .normal∧D'=[]∧L'[0]? = some [(l,.loop lp)]∧wpS P n body (Zzk l lp Post) S' [] B' (L'.set 0 [(l,.loop { lp with state:=.busy })])) S [] B ([(l,.loop lp)] :: L)):Zsj P l fn T asg body B s Post:=fun X c cs F hA=>by
 let b0:Frame:={ fn:=fn,tmps:=#[],todo:=[],defers:=[],mode:=.run,kind:=.normal,roundOf:=some l }
 have e0:Frame.round l fn T asg body .normal=fat b0 T [] [.code asg,.beginRound,.code body]:=rfl
 rw [e0]
 refine X.perm (L':=([(l,.loop lp)] :: L).flatten ++ F) (by simpa using hs.append_right F) ?_
 refine h ⟨X,b0,c :: cs,F,by simp [b0]⟩ [.beginRound,.code body] T hT hS fun e S' D' B' L' T' hle hq hn' hT'=>?_
 obtain ⟨rfl,rfl,h0,hb⟩:=hq
 obtain ⟨r,p1,p2⟩:=Zaa F [(l,.loop { lp with state:=.busy })] h0
 refine Zuj rfl (by simp [b0]) (by simpa using p1) hst ?_
 refine X.perm (by simpa using p2.symm) ?_
 refine hb ⟨X,b0,c :: cs,F,by simp [b0]⟩ [] T' hn' hT' fun e₂ S₂ D₂ B₂ L₂ T₂ hle₂ hq₂ hn₂ hT₂=>?_
 obtain ⟨rfl,h1,s',gl,hp,hq⟩:=hq₂
 obtain ⟨r₂,p3,p4⟩:=Zaa F [(l,.loop { lp with state:=.ready,pending:=none })] h1
 refine ZoT rfl rfl (lp:={ lp with state:=.busy }) (by simpa using p3) ?_
 refine X.drop (r:=s' ++ F) (gl:=gl) ?_ (hA B₂ s' (hle.trans hle₂) hq)
 refine (List.Perm.trans (by simpa using p4.symm) (hp.append_right F)).trans ?_
 rw [List.append_assoc,List.append_assoc]
 exact List.Perm.append_left _ List.perm_append_comm
theorem Zn1 {P:PJ} {fr:Frame} {cs:List Frame} {s:Sem Next} {w w':World} {l:Nat} {f:FuncId} {T:Array Value} {asg body:Code} {es:Array Event} (hk:fr.kind≠.early) (h:s.runT P w #[]=(.ok (.round l f T asg body) w',es)) :
  stepG.apply P true fr cs none s w = .go (G (Frame.round l f T asg body .normal) (fr :: cs)) w' (seen P fr.fn es):=by
 have hk':(fr.kind == CallKind.early)=false:=by simpa using hk
 obtain ⟨hr,he⟩:=ZbE h
 rw [← he]
 simp [stepG.apply,hr,hk',GStep.after,G]
section
variable {P:PJ} {n:Nat} {ops:Array Oper} {i:Nat} {K:Zbl} {S:Env} {D:List Deferred} {B:Kn} {L:List Cells} {Q:Exit→Zao}
variable {dst:Option Tmp} {ty:TypeId} {pos:String} {after:Array Edge} {g:Option (Nat × Bool)}
def ZmV (ps:Array Tmp) (T:Array Value) (vs:List Value):Array Value:=(ps.zip vs.toArray).foldl (fun tmps (x:Tmp × Value)=>tmps.setIfInBounds x.1 x.2) T
theorem Zuo {x:Operand} {l j:Nat} {s:Cells} {lp:Loop} {xs:List Operand} {vs:List Value} {ats:Array TypeId} {Post:Kn→Cells→Prop} (hj:L[j]? = some s) (hl:(l,Obj.loop lp)∈s) (hg:Zm ops S g=some true) (hd:ZC n dst=true)
  (hx:ev S x=some (.func (.yield l) #[] #[])) (ha:evs S xs=some vs) (hs:vs.length=lp.params.size) (hc:Zsj P l lp.fn (ZmV lp.params lp.tmps vs) lp.assign lp.body B s Post)
  (h :∀B' s',B.le B'→Post B' s'→K (.bool true) D B' (L.set j s')):opX P n ops i ⟨dst,.call ⟨.value x,xs.toArray,ats⟩,ty,pos,after,g⟩ K S D B L:=⟨hd,fun C todo k T ho hn hT hA=>by
 refine C.X.step rfl fun w st=>?_
 have hq:hb P (execOp (evT T) ⟨dst,.call ⟨.value x,xs.toArray,ats⟩,ty,pos,after,g⟩) (fun nx B' L'=>nx = .round l lp.fn (ZmV lp.params lp.tmps vs) lp.assign lp.body∧B'=B∧L'=L.flatten ++ C.F) B (L.flatten ++ C.F):=by
  simp only [execOp,resolve,Zfu hT hx,Deferred.ofValue,Zk,Zr,invoke]
  refine Ztk (lp:=lp) (.inr (List.mem_append.2 (.inl (List.mem_flatten.2 ⟨s,List.mem_of_getElem? hj,hl⟩)))) ?_ ⟨?_,rfl,rfl⟩
  ·rw [List.map_toArray,ZnQ hT ha];simpa using hs
  ·rw [List.map_toArray,ZnQ hT ha];simp [ZmV]
 obtain ⟨a,w',es,B',L',h1,h2,h3,rfl,rfl,rfl⟩:=ZcO _ _ _ _ hq w #[] st
 simp only [Array.empty_append] at h1
 rw [ZkW rfl ho (Zci hT hg)]
 have hk:(fat C.b T D (.inRegion ops (i :: todo) :: k)).kind≠.early:=C.early
 refine ⟨_,w',_,B',L.flatten ++ C.F,Zn1 hk h1,fun e he=>h2 e (Zcl he),h3,?_⟩
 obtain ⟨r,p1,p2⟩:=Zaa C.F [] hj
 refine C.X.perm p1 (hc C.X _ C.cs r fun B₂ s' hle hp=>?_)
 obtain ⟨r2,p3,p4⟩:=Zaa C.F s' hj
 have hr:r.Perm r2:=(List.perm_append_left_iff s).1 (p1.symm.trans p3)
 show C.X.R (G ((fat C.b T D (.inRegion ops (i :: todo) :: k)).finish (.bool true)) C.cs) B₂ _
 rw [ZfH ho]
 exact C.X.perm ((List.Perm.append_left s' hr).trans p4.symm) (hA _ D B₂ (L.set j s') hle (h B₂ s' hle hp))⟩
def wpT (P:PJ) (n:Nat) (c:Code) (Q:Exit→Zao):Zao:=fun S D B L=>
∀(C:Cx P) (k:List Item) (T:Array Value),C.b.roundOf=none→T.size=n→Ag T S→
  (∀e S' D' B' L' T',B.le B'→Q e S' D' B' L'→T'.size=n→Ag T' S'→After C k T' D' B' L' e)→C.X.R (G (fat C.b T D (.code c :: k)) C.cs) B (L.flatten ++ C.F)
theorem ZxC {x y:Code} (h:wpS P n x (thn (wpT P n y Q) Q) S D B L):wpT P n (.seq x y) Q S D B L:=fun C k T hr hn hT hA=>by
 refine C.X.ctl rfl (fun w=>ZlY) (h C (.code y :: k) T hn hT fun e S' D' B' L' T' hle hq hn' hT'=>?_)
 cases e with
 | normal=>exact hq C k T' hr hn' hT' fun e₂ S₂ D₂ B₂ L₂ T₂ hle₂ hq₂=>hA e₂ S₂ D₂ B₂ L₂ T₂ (hle.trans hle₂) hq₂
 | exit id=>exact After.push rfl (by simp) (hA (.exit id) S' D' B' L' T' hle hq hn' hT')
 | ret=>exact After.push (x:=.code y) rfl (by simp) (hA .ret S' D' B' L' T' hle hq hn' hT')
 | goto l=>exact (hA (.goto l) S' D' B' L' T' hle hq hn' hT')
 | panic ch=>exact (hA (.panic ch) S' D' B' L' T' hle hq hn' hT')
 | outgrown=>exact (hA .outgrown S' D' B' L' T' hle hq hn' hT')
theorem Zwg {x y:Code} (h:wpT P n x (thn (wpS P n y Q) Q) S D B L):wpT P n (.seq x y) Q S D B L:=fun C k T hr hn hT hA=>by
 refine C.X.ctl rfl (fun w=>ZlY) (h C (.code y :: k) T hr hn hT fun e S' D' B' L' T' hle hq hn' hT'=>?_)
 cases e with
 | normal=>exact hq C k T' hn' hT' fun e₂ S₂ D₂ B₂ L₂ T₂ hle₂ hq₂=>hA e₂ S₂ D₂ B₂ L₂ T₂ (hle.trans hle₂) hq₂
 | exit id=>exact After.push rfl (by simp) (hA (.exit id) S' D' B' L' T' hle hq hn' hT')
 | ret=>exact After.push (x:=.code y) rfl (by simp) (hA .ret S' D' B' L' T' hle hq hn' hT')
 | goto l=>exact (hA (.goto l) S' D' B' L' T' hle hq hn' hT')
 | panic ch=>exact (hA (.panic ch) S' D' B' L' T' hle hq hn' hT')
 | outgrown=>exact (hA .outgrown S' D' B' L' T' hle hq hn' hT')
theorem Zuw {id:Nat} {c:Code} (h:wpT P n c (inB id Q) S D B L):wpT P n (.block id c) Q S D B L:=fun C k T hr hn hT hA=>by
 refine C.X.ctl rfl (fun w=>ZkX) (h C (.inBlock id :: k) T hr hn hT fun e S' D' B' L' T' hle hq hn' hT'=>?_)
 cases e with
 | normal=>exact C.X.ctl rfl (fun w=>Zhe) (hA .normal S' D' B' L' T' hle hq hn' hT')
 | exit id'=>
  by_cases hid:id'=id
  ·subst hid
   have hq':Q .normal S' D' B' L':=by simpa [inB] using hq
   exact ⟨k,by simp [exitTo],hA .normal S' D' B' L' T' hle hq' hn' hT'⟩
  ·have hb:Nat.beq id' id=false:=by
    cases h:Nat.beq id' id with
    | false=>rfl
    | true=>exact absurd (Nat.eq_of_beq_eq_true h) hid
   have hq':Q (.exit id') S' D' B' L':=by simpa [inB,hb] using hq
   obtain ⟨k',hk',hg⟩:=hA (.exit id') S' D' B' L' T' hle hq' hn' hT'
   have:(id == id')=false:=by simp;exact fun h=>hid h.symm
   exact ⟨k',by simp [exitTo,this,hk'],hg⟩
 | ret=>exact hA .ret S' D' B' L' T' hle hq hn' hT'
 | goto l=>exact hA (.goto l) S' D' B' L' T' hle hq hn' hT'
 | panic ch=>exact hA (.panic ch) S' D' B' L' T' hle hq hn' hT'
 | outgrown=>exact hA .outgrown S' D' B' L' T' hle hq hn' hT'
theorem Zfc {id:Nat} {l:List Oper} {y:Code} (h:Zp4 P n l.toArray 0 l (wpT P n y Q) S D B L):wpT P n (.seq (.region id l.toArray false) y) Q S D B L:=
 ZxC (Zc h)
theorem Zwh {c:Code} (S':Env) (hs:Sub S' S) (h:wpT P n c Q S' D B L):wpT P n c Q S D B L:=fun C k T hr hn hT hA=>h C k T hr hn (hT.sub hs) hA
theorem Zqy {c:Code} (S':Env) (L':List Cells) (hs:Sub S' S) (hl:L=L') (h:wpT P n c Q S' D B L'):wpT P n c Q S D B L:=by subst hl;exact Zwh S' hs h
theorem ZxE {c:Code} (i:Nat) {l:Cells} (hi:L[i]? = some l) (h :∀B',B.le B'→(∀p,p∈l→B'.mem p.1=some p.2)→wpT P n c Q S D B' (L.set i [])):wpT P n c Q S D B L:=fun C k T hr hn hT hA=>by
 obtain ⟨r,h1,h2⟩:=Zaa C.F [] hi
 exact C.X.publish rfl h1 fun B' hle hm=>C.X.perm (by simpa using h2.symm) (h B' hle hm C k T hr hn hT fun e S' D' B'' L' T' hle' hq=>hA e S' D' B'' L' T' (hle.trans hle') hq)
theorem Zuv {f:Operand} {F:FuncId} {cap:Array Value} {ps:Array Tmp} {asg body:Code} {J:Kn→List Cells→Prop} (hf:ev S f=some (.func (.func F) #[] cap)) (hen:enters P F=true)
  (hc :∀fn T r l,T.size=n→Ag T S→Zv P F (.func (.yield l) #[] #[] :: cap.toList) B [(l,.loop { state:=.ready,pending:=none,fn:=fn,tmps:=T,params:=ps,assign:=asg,body:=body,defers:=r }) :: L.flatten] (fun v B' Ls=>∃lp L' s,Ls=[s]∧s.Perm ((l,Obj.loop lp) :: L'.flatten)∧(lp.state == .busy)=false∧lp.pending=none∧J B' L'))
  (h :∀r B' L',B.le B'→J B' L'→Q .normal S ({ target:=.collected r,args:=#[] } :: D) B' (L' ++ [[(r,.deferred (some []))]])):wpT P n (.rangeFunc f ps asg body) Q S D B L:=fun C k T hr hn hT hA=>by
 refine Zui hr C.early (Zfu hT hf) hen fun r l=>?_
 have e1:(#[Value.func (.yield l) #[] #[]] ++ cap)=(Value.func (.yield l) #[] #[] :: cap.toList).toArray:=by apply Array.ext';simp
 rw [e1]
 refine C.X.perm (L':=[(l,Obj.loop { state:=.ready,pending:=none,fn:=C.b.fn,tmps:=T,params:=ps,assign:=asg,body:=body,defers:=r }) :: L.flatten].flatten ++ ((r,.deferred (some [])) :: C.F)) ?_ (hc C.b.fn T r l hn hT C.X .normal _ C.cs ((r,.deferred (some [])) :: C.F) (.inl rfl) fun v B' Ls hle hq=>?_)
 ·simp only [List.flatten_cons,List.flatten_nil,List.append_nil,List.cons_append]
  exact List.Perm.cons _ List.perm_middle.symm
 ·obtain ⟨lp,L',s,rfl,hsp,h1,h2,hJ⟩:=hq
  show C.X.R (G (fat C.b T ({ target:=.collected r,args:=#[] } :: D) (.endRangeFunc l :: k)) C.cs) B' _
  refine ZoU (lp:=lp) (L₁:=L'.flatten ++ ((r,.deferred (some [])) :: C.F)) (by simpa using hsp.append_right ((r,.deferred (some [])) :: C.F)) h1 h2 ?_
  refine C.X.drop (r:=(L' ++ [[(r,Obj.deferred (some []))]]).flatten ++ C.F) (gl:=[(l,.loop { lp with state:=.exhausted })]) ?_ (hA .normal S _ B' _ T hle (h r B' L' hle hJ) hn hT)
  refine List.perm_append_comm (l₁:=[(l,Obj.loop { lp with state:=.exhausted })]) |>.trans ?_
  simp
end
def ZyR (P:PJ) (rs:List ResultVar) (Post:Value→Kn→List Cells→Prop):Exit→Zao:=fun e S D B L=>
 (e = .ret∨e = .normal)∧∃r j,D=[{ target:=.collected r,args:=#[] }]∧L[j]? = some [(r,.deferred (some []))]∧∃vs Lr,Zc7 P S B (L.set j []) rs vs∧(∃gl,(L.set j []).flatten.Perm (Lr.flatten ++ gl))∧Post (ZdL vs) B Lr
theorem ZmQ {P:PJ} {f:FuncId} {fn:Func} {code:Code} {rs:List ResultVar} (n:Nat) (hf:P.funcs[f]? = some fn) (hb:fn.body=some code) (hn:fn.ntmps=n) (hrs:fn.results.toList=rs) {args:List Value} (ha:args.length≤n) {B:Kn} {Ls:List Cells} {Post:Value→Kn→List Cells→Prop}
  (h:wpT P n code (ZyR P rs Post) (Zdd args 0) [] B Ls):Zv P f args B Ls Post:=fun X kind c cs F hk hA=>by
 have hke:kind≠.early:=by rcases hk with rfl | ⟨rfl,_⟩ <;> simp
 let b0:Frame:={ fn:=f,tmps:=#[],todo:=[],defers:=[],mode:=.run,kind:=kind }
 let T0:Array Value:=args.toArray ++ Array.replicate (n - args.length) undef
 have hen:Frame.enter P f args.toArray kind=fat b0 T0 [] [.code code]:=by
  simp [Frame.enter,fat,hf,hb,hn,b0,T0]
 rw [hen]
 have hT:Ag T0 (Zdd args 0):=fun i v hv=>by
  obtain ⟨_,h2⟩:=ZdE args 0 i v hv
  have hlt:=Z6 (a:=args.toArray) (i:=i) (x:=v) (by simpa using h2)
  simp only [T0]
  rw [Array.getElem?_append_left hlt]
  simpa using h2
 refine h ⟨X,b0,c :: cs,F,hke⟩ [] T0 rfl (by simp [T0];omega) hT fun e S' D' B' L' T' hle hq hn' hT'=>?_
 obtain ⟨he,r,j,rfl,hj,vs,Lr,hr,⟨gl,hp⟩,hq⟩:=hq
 rw [← hrs] at hr
 have key :∀todo,X.R (G { fat b0 T' [{ target:=.collected r,args:=#[] }] todo with mode:=.returning } (c :: cs)) B' (L'.flatten ++ F):=fun todo=>by
  obtain ⟨q,p1,p2⟩:=Zaa F [] hj
  refine Zp9 (L₁:=q) (by simpa using p1) ?_
  refine X.drop (r:=(L'.set j []).flatten ++ F) (gl:=[(r,.deferred none)]) ?_ ?_
  ·refine (List.Perm.cons _ (by simpa using p2.symm)).trans ?_
   exact List.perm_append_comm (l₁:=[(r,Obj.deferred none)])
  ·exact Zex hf hk rfl rfl rfl rfl hT' hr hp (hA _ B' Lr hle hq)
 rcases he with rfl | rfl
 ·exact ⟨rfl,key⟩
 ·exact X.ctl rfl (fun w=>Zoe rfl) (key _)
end Go.BL
namespace Go.BL
open Go.Conc (G)
def Kn.none:Kn:=⟨fun _=>Option.none⟩
abbrev ZjW (α:Type):=List Value→α→Cells→Prop
inductive All3 {α:Type} (R:ZjW α):List (List Value)→List α→Cells→Prop
 | nil:All3 R [] [] []
 | cons {row:List Value} {x:α} {ins rest:Cells} {rows:List (List Value)} {xs:List α} : R row x ins→All3 R rows xs rest→All3 R (row :: rows) (x :: xs) (ins ++ rest)
theorem All3.len {α:Type} {R:ZjW α} {rows:List (List Value)} {xs:List α} {s:Cells} (h:All3 R rows xs s):rows.length=xs.length:=by
 induction h with
 | nil=>rfl
 | cons _ _ ih=>simp [ih]
theorem All3.snoc {α:Type} {R:ZjW α} {rows:List (List Value)} {xs:List α} {s:Cells} (h:All3 R rows xs s) {row:List Value} {x:α} {ins:Cells} (hx:R row x ins):All3 R (rows ++ [row]) (xs ++ [x]) (s ++ ins):=by
 induction h with
 | nil=>have:=All3.cons hx All3.nil;simpa using this
 | cons h1 _ ih=>rw [List.append_assoc];exact .cons h1 ih
def ZcD {α:Type} (l:Cells) (p:Option Addr) (c:Nat) (T:TypeId) (w:Nat) (R:ZjW α) (xs:List α):Prop:=
∃rows blk ins,All3 R rows xs ins∧wide w rows∧l.Perm (blk ++ ins)∧Ziq blk p xs.length c T w rows.flatten
theorem ZcD.lit0 {α:Type} {b:Nat} {T:TypeId} {w:Nat} {R:ZjW α} : ZcD (Zah b [] T) (some ⟨b,0,Option.none⟩) 0 T w R ([]:List α):=⟨[],_,[],.nil,(fun _ h=>by cases h),by simp,Ziq.lit (by simp)⟩
theorem ZcD.nil {α:Type} {T:TypeId} {w:Nat} {R:ZjW α} : ZcD [] Option.none 0 T w R ([]:List α):=⟨[],[],[],.nil,(fun _ h=>by cases h),by simp,Ziq.nil T w⟩
theorem ZcD.cap {α:Type} {l:Cells} {p:Option Addr} {c:Nat} {T:TypeId} {w:Nat} {R:ZjW α} {xs:List α} (h:ZcD l p c T w R xs):xs.length≤c:=by
 obtain ⟨rows,blk,ins,_,_,_,_,⟨_,h0,_,_⟩ | ⟨b,arr,_,_,_,_,hm⟩⟩:=h
 ·omega
 ·exact hm
theorem All3.known {α:Type} {R:ZjW α} {R':Rel α} {B:Kn} (hR :∀row x ins,R row x ins→(∀q,q∈ins→B.mem q.1=some q.2)→R' B row x) :∀{rows:List (List Value)} {xs:List α} {s:Cells},All3 R rows xs s→(∀q,q∈s→B.mem q.1=some q.2)→All2 (R' B) rows xs:=by
 intro rows xs s h
 induction h with
 | nil=>intro _;exact .nil
 | cons h1 _ ih=>intro hm;exact .cons (hR _ _ _ h1 fun q hq=>hm q (List.mem_append.2 (.inl hq))) (ih fun q hq=>hm q (List.mem_append.2 (.inr hq)))
theorem ZcD.known {α:Type} {l:Cells} {p:Option Addr} {c:Nat} {T:TypeId} {w:Nat} {R:ZjW α} {R':Rel α} {B:Kn} {xs:List α} (h:ZcD l p c T w R xs) (hR :∀row x ins,R row x ins→(∀q,q∈ins→B.mem q.1=some q.2)→R' B row x) (hM:Mono R') (hm :∀q,q∈l→B.mem q.1=some q.2) (hl:xs.length≤2000000):SlK B p c w R' xs:=by
 have hc:=h.cap
 obtain ⟨rows,blk,ins,h1,h2,h3,h4⟩:=h
 have h5:ZY B blk p c T w R' xs:=⟨rows,h1.known hR fun q hq=>hm q (h3.mem_iff.2 (List.mem_append.2 (.inr hq))),h2,h4⟩
 exact ⟨h5.rows hM (Kn.le.refl B) fun q hq=>hm q (h3.mem_iff.2 (List.mem_append.2 (.inl hq))),hc,hl⟩
abbrev Zsh (T:TypeId) (s:Cells) (q:Option Addr) (c:Nat) (ls:List Str):Prop:=ZY Kn.none s q c T 1 Zbv ls
def Zb3 (T:TypeId):ZjW DItem:=fun row x ins=>∃q c,row=[.int .i64 x.id,str x.fr,str x.text,.slice q x.left.length c]∧Zsh T ins q c x.left∧x.fr.length≤2000000∧x.text.length≤2000000∧x.left.length≤2000000
theorem Zb3.known {T:TypeId} {B:Kn} {row:List Value} {x:DItem} {ins:Cells} (h:Zb3 T row x ins) (hm :∀q,q∈ins→B.mem q.1=some q.2):Zw B row x:=by
 obtain ⟨q,c,h1,h2,h3,h4,h5⟩:=h
 exact ⟨q,c,h1,⟨h2.rowsF Zbv.any hm,h2.cap,h5⟩,h3,h4⟩
def ZfO (T Tn:TypeId):Value→List DItem→Cells→Prop
 | v,[],s=>v = .pointer Option.none∧s=[]
 | v,x :: xs,s=>∃b row nx ins rest,v=ptr ⟨b,0,Option.none⟩∧s.Perm (Zah b (row ++ [nx]) Tn ++ (ins ++ rest))∧Zb3 T row x ins∧ZfO T Tn nx xs rest
section
variable {P:PJ} {n:Nat} {ops:Array Oper} {i:Nat} {K:Zbl} {S:Env} {D:List Deferred} {B:Kn} {L:List Cells} {Q:Exit→Zao}
variable {dst:Option Tmp} {ty:TypeId} {pos:String} {after:Array Edge} {g:Option (Nat × Bool)}
theorem Zor {o:Oper} {L':List Cells} {K':Zbl} (hp:L.flatten.Perm L'.flatten) (h:opX P n ops i o K' S D B L') (hk :∀v D' B' L₁,B.le B'→K' v D' B' L₁→∃L₂,L₁.flatten.Perm L₂.flatten∧K v D' B' L₂):opX P n ops i o K S D B L:=⟨h.1,fun C todo k T ho hn hT hA=>
 C.X.perm (hp.append_right _) (h.2 C todo k T ho hn hT fun v D' B' L₁ hle hK=>by
  obtain ⟨L₂,hp2,hK2⟩:=hk v D' B' L₁ hle hK
  exact C.X.perm (hp2.append_right _) (hA v D' B' L₂ hle hK2))⟩
theorem ZgK {L:List Cells} {j:Nat} {s:Cells} (s':Cells) (hj:L[j]? = some s) :∃r,L.flatten.Perm (s ++ r)∧((L.set j s').flatten).Perm (s' ++ r):=by
 obtain ⟨r,h1,h2⟩:=Zaa [] s' hj
 exact ⟨r,by simpa using h1,by simpa using h2⟩
theorem Zwe {α:Type} {R:ZjW α} {xs:List α} {z:α} {t u e:TypeId} {x y:Operand} {sz by_ m c c2:Nat} {p q:Option Addr} {row:List Value} {l ins:Cells} (j k:Nat) (hjk:Nat.beq j k=false) (hj:L[j]? = some l) (hk:L[k]? = some ins) (hv:ZcD l p c e sz R xs) (hm:m=xs.length) (hg:Zm ops S g=some true) (hd:ZC n dst=true)
  (he:Zck P t e sz by_=true) (hu:(match P.underlying u with | some (.slice _)=>true | _=>false)=true) (hx:ev S x=some (.slice p m c)) (hy:ev S y=some (.slice q 1 c2)) (hs:ZaQ B L.flatten q row) (hone:row.all ZgT=true) (hrl:row.length=sz) (hr:R row z ins) (hb1:(xs.length+1)*by_≤140737488355328)
  (h :∀l' p' c',ZcD l' p' c' e sz R (xs ++ [z])→K (.slice p' (xs ++ [z]).length c') D B ((L.set j l').set k [])):opX P n ops i ⟨dst,.call ⟨.builtin .append,#[x,y],#[t,u]⟩,ty,pos,after,g⟩ K S D B L:=by
 subst hm
 obtain ⟨rows,blk,inn,h1,h2,h3,h4⟩:=hv
 obtain ⟨r,p1,_⟩:=ZgK [] hj
 have hne:j≠k:=fun e=>by subst e;simp at hjk
 have hk2 :∀l',(L.set j l')[k]? = some ins:=fun l'=>by rw [List.getElem?_set,if_neg hne];exact hk
 refine Zor (L':=[blk,inn ++ r]) (K':=fun v D' B' L₁=>∃blk' p' c',L₁=[blk',inn ++ r]∧v = .slice p' (xs.length+1) c'∧D'=D∧B'=B∧Ziq blk' p' (xs.length+1) c' e sz (rows.flatten ++ row)) ?_ ?_ ?_
 ·refine p1.trans ?_
  simp only [List.flatten_cons,List.flatten_nil,List.append_nil]
  rw [← List.append_assoc]
  exact h3.append_right r
 ·refine ZeO 0 rfl h4 hg hd he hu hx hy ?_ (by rw [hrl,Nat.one_mul]) hone hb1 fun l' p' c' hv'=>⟨l',p',c',rfl,rfl,rfl,rfl,hv'⟩
  cases q with
  | none=>exact hs
  | some a=>
   intro jj v hjj
   refine (hs jj v hjj).perm (p1.trans ?_)
   simp only [List.flatten_cons,List.flatten_nil,List.append_nil]
   rw [← List.append_assoc]
   exact h3.append_right r
 ·rintro v D' B' L₁ hle ⟨blk',p',c',rfl,rfl,rfl,rfl,hv'⟩
  have hnew:ZcD (blk' ++ (inn ++ ins)) p' c' e sz R (xs ++ [z]):=⟨rows ++ [row],blk',inn ++ ins,h1.snoc hr,fun r' hr'=>by
   rcases List.mem_append.1 hr' with hr' | hr'
   ·exact h2 r' hr'
   ·rw [List.mem_singleton.1 hr'];exact hrl,.refl _,by rw [List.length_append,List.flatten_append];simpa using hv'⟩
  refine ⟨_,?_,by have:=h _ _ _ hnew;rwa [List.length_append] at this⟩
  obtain ⟨r2,q1,q2⟩:=ZgK (blk' ++ (inn ++ ins)) hj
  have hrr:r.Perm r2:=(List.perm_append_left_iff l).1 (p1.symm.trans q1)
  obtain ⟨r3,q3,q4⟩:=ZgK [] (hk2 (blk' ++ (inn ++ ins)))
  have e1:(ins ++ r3).Perm (ins ++ (blk' ++ (inn ++ r))):=by
   refine (q3.symm.trans q2).trans ?_
   refine (List.Perm.append_left _ hrr.symm).trans ?_
   have:(blk' ++ (inn ++ ins) ++ r).Perm (ins ++ (blk' ++ inn ++ r)):=by
    have a1:(blk' ++ (inn ++ ins) ++ r)=(blk' ++ inn) ++ (ins ++ r):=by simp
    rw [a1]
    have a2:ins ++ (blk' ++ inn ++ r)=(ins ++ (blk' ++ inn)) ++ r:=by simp
    rw [a2,← List.append_assoc]
    exact List.Perm.append_right r List.perm_append_comm
   simpa using this
  have e2:=(List.perm_append_left_iff ins).1 e1
  refine List.Perm.trans ?_ q4.symm
  simp only [List.flatten_cons,List.flatten_nil,List.append_nil,List.nil_append]
  exact e2.symm
end
theorem ZxD {P:PJ} {n:Nat} {Q:Exit→Zao} {S:Env} {D:List Deferred} {B:Kn} {L:List Cells} {c:Code} (js:List Nat) {ss r:List Cells} (hp:Za0 L js=some (ss,r)) (h:wpT P n c Q S D B ss):wpT P n c Q S D B L:=fun C k T hr hn hT hA=>by
 have h1:=(ZaC js L ss r hp).append_right C.F
 refine C.X.drop (r:=ss.flatten ++ C.F) (gl:=r.flatten) (h1.trans ?_) (h C k T hr hn hT hA)
 rw [List.append_assoc,List.append_assoc]
 exact List.Perm.append_left _ List.perm_append_comm
end Go.BL
namespace Go.BL
open Go.Conc (G)
section
variable {P:PJ} {n:Nat} {ops:Array Oper} {i:Nat} {K:Zbl} {S:Env} {D:List Deferred} {B:Kn} {L:List Cells} {Q:Exit→Zao}
variable {dst:Option Tmp} {ty:TypeId} {pos:String} {after:Array Edge} {g:Option (Nat × Bool)}
theorem Zep {f:Fn} {xs ys:List Operand} {us vs:List Value} (hg:Zm ops S g=some true) (hd:ZC n dst=true) (hx:evs S xs=some us) (hy:evs S ys=some vs) (h:K (.func f us.toArray vs.toArray) D B L):opX P n ops i ⟨dst,.makeFunc f xs.toArray ys.toArray,ty,pos,after,g⟩ K S D B L:=
 ZV hg hd (fun ρ hρ Q F q=>by
  simp only [execOp,Instr.makeFunc,Zk,Zr,List.map_toArray,ZbB hρ hx,ZbB hρ hy]
  exact q) h
theorem ZeL {t:TypeId} {x:Operand} {v:Value} {d:TypeDesc} (hg:Zm ops S g=some true) (hd:ZC n dst=true) (hu:P.underlying t=some d) (hni:(match d with | .interface _=>false | _=>true)=true) (hx:ev S x=some v) (h:K (.iface t v) D B L):opX P n ops i ⟨dst,.makeInterface t x,ty,pos,after,g⟩ K S D B L:=
 ZV hg hd (fun ρ hρ Q F q=>by
  simp only [execOp,Instr.makeInterface,Zk,Zt hu,hρ x _ hx]
  cases d <;> first | (simp only [Zr];exact q) | cases hni) h
end
end Go.BL
namespace Go.BL
open Go.Conc (G)
theorem Zsy {P:PJ} {n:Nat} {S:Env} {D:List Deferred} {B:Kn} {L:List Cells} {Q:Exit→Zao} {f:Operand} {F:FuncId} {cap:List Value} {ps:Array Tmp} {asg body:Code} {J:Kn→List Cells→Prop} (hf:ev S f=some (.func (.func F) #[] cap.toArray)) (hen:enters P F=true)
  (hc :∀(lp:Loop) (l:Nat),lp.tmps.size=n→Ag lp.tmps S→lp.params=ps→lp.assign=asg→lp.body=body→lp.state = .ready→({ lp with state:=.ready,pending:=none } : Loop)=lp→Zv P F (.func (.yield l) #[] #[] :: cap) B [(l,.loop lp) :: L.flatten] (fun v B' Ls=>∃L' s,Ls=[s]∧s.Perm ((l,Obj.loop lp) :: L'.flatten)∧J B' L'))
  (h :∀r B' L',B.le B'→J B' L'→Q .normal S ({ target:=.collected r,args:=#[] } :: D) B' (L' ++ [[(r,.deferred (some []))]])):wpT P n (.rangeFunc f ps asg body) Q S D B L:=by
 refine Zuv (J:=J) hf hen (fun fn T r l hn hT=>?_) h
 have:=hc { state:=.ready,pending:=none,fn:=fn,tmps:=T,params:=ps,assign:=asg,body:=body,defers:=r } l hn hT rfl rfl rfl rfl rfl
 refine Zv.mono this fun v B' Ls hle ⟨L',s,h1,h2,h3⟩=>⟨_,L',s,h1,h2,rfl,rfl,h3⟩
theorem ZtK {T:Array Value} {S:Env} {n a b:Nat} {x y:Value} (h:Ag T S) (hn:T.size=n) (ha:Nat.blt a n=true) (hb:Nat.blt b n=true):Ag (ZmV #[a,b] T [x,y]) ((b,y) :: (a,x) :: S)∧(ZmV #[a,b] T [x,y]).size=n:=by
 rw [Nat.blt_eq] at ha hb
 have e:ZmV #[a,b] T [x,y]=(T.setIfInBounds a x).setIfInBounds b y:=by simp [ZmV]
 rw [e]
 exact ⟨(h.put (by omega) x).put (by simp;omega) y,by simp [hn]⟩
theorem ZbY {B:Kn} {b:Nat} {row:List Value} {T:TypeId} (hm :∀p,p∈Zah b row T→B.mem p.1=some p.2):Zbi B b 0 row:=fun L j u hj=>by
 refine atB (hm (b,_) (List.mem_singleton.2 rfl)) rfl ?_
 simpa using hj
theorem ZfO.ptr {T Tn:TypeId} {v:Value} {xs:List DItem} {s:Cells} (h:ZfO T Tn v xs s) :∃p,v = .pointer p:=by
 cases xs with
 | nil=>exact ⟨_,h.1⟩
 | cons x xs=>obtain ⟨b,_,_,_,_,rfl,_⟩:=h;exact ⟨_,rfl⟩
theorem ZfO.more {T Tn:TypeId} {p:Option Addr} {xs:List DItem} {s:Cells} (h:ZfO T Tn (.pointer p) xs s) (hp:p.isNone=false) :∃y ys b q c np ins rest,p=some ⟨b,0,Option.none⟩∧xs=y :: ys∧s.Perm (Zah b [.int .i64 y.id,str y.fr,str y.text,.slice q y.left.length c,.pointer np] Tn ++ [ins,rest].flatten)∧Zsh T ins q c y.left∧y.fr.length≤2000000∧y.text.length≤2000000∧y.left.length≤2000000∧ZfO T Tn (.pointer np) ys rest:=by
 cases xs with
 | nil=>cases h.1;cases hp
 | cons y ys=>
  obtain ⟨b,row,nx,ins,rest,h1,h2,⟨q,c,rfl,h4,h5,h6,h7⟩,h8⟩:=h
  obtain ⟨np,rfl⟩:=h8.ptr
  cases h1
  exact ⟨y,ys,b,q,c,np,ins,rest,rfl,rfl,by simpa using h2,h4,h5,h6,h7,h8⟩
theorem ZfO.done {T Tn:TypeId} {p:Option Addr} {xs:List DItem} {s:Cells} (h:ZfO T Tn (.pointer p) xs s) (hp:p.isNone=true):xs=[]:=by
 cases xs with
 | nil=>rfl
 | cons y ys=>obtain ⟨b,row,nx,ins,rest,h1,_⟩:=h;cases h1;cases hp
theorem ZeW {P:PJ} {t e:TypeId} {p:Option Addr} (hu:P.underlying t=some (.pointer e)):Zxd P t (.pointer p) (.pointer Option.none) p.isNone:=fun B L Q q=>by
 show hb P (Op.equalIn (9999+1) t _ _) Q B L
 rw [Op.equalIn,Zk,Zt hu]
 cases p <;> (simp only [Zr];exact q)
theorem ZkT {P:PJ} {n:Nat} {Q:Exit→Zao} {S:Env} {D:List Deferred} {B:Kn} {L:List Cells} {c:Code} {s a:Cells} {bs:List Cells} (j:Nat) (hj:L[j]? = some s) (hp:s.Perm (a ++ bs.flatten)) (h:wpS P n c Q S D B (L.set j a ++ bs)):wpS P n c Q S D B L:=fun C k T hn hT hA=>by
 refine C.X.perm ?_ (h C k T hn hT hA)
 refine List.Perm.append_right _ ?_
 obtain ⟨r,h1,h2⟩:=ZgK a hj
 refine h1.trans ((hp.append_right r).trans ?_)
 rw [List.flatten_append]
 refine List.Perm.trans ?_ (h2.symm.append_right _)
 rw [List.append_assoc,List.append_assoc]
 exact List.Perm.append_left _ List.perm_append_comm
end Go.BL
namespace Go.BL
open Go.Conc (G)
section
variable {P:PJ}
def Zk8 (P:Program) (t:TypeId) (name:String) (f:FuncId) (pr:Bool):Bool:=
 match P.info? t with
 | some i=>match i.methods.find? (·.name == name) with
  | some m=>m.path.isEmpty && (m.func == some (f,pr))
  | none=>false
 | none=>false
def Found (P:Program) (B:Kn) (L:List Cells) (t:TypeId) (v:Value) (name:String) (f:FuncId) (u:Value):Prop:=
∀(k:Nat) (F:Cells) (Q:FuncId × Value→Kn→Cells→Prop),Q (f,u) B (L.flatten ++ F)→hb P (method (k+1) t v name) Q B (L.flatten ++ F)
theorem Zt4 {t:TypeId} {name:String} {f:FuncId} {pr:Bool} (h:Zk8 P t name f pr=true) {k:Nat} {v:Value} {Q:FuncId × Value→Kn→Cells→Prop} {B:Kn} {L:Cells}
  (q:hb P (receiverAt t (.val v) pr (some ((name.splitOn ".").getLastD name))) (fun u B L=>Q (f,u) B L) B L):hb P (method (k+1) t v name) Q B L:=by
 unfold Zk8 at h
 split at h
 ·rename_i i hi
  split at h
  ·rename_i m hm
   simp only [Bool.and_eq_true,beq_iff_eq] at h
   obtain ⟨hp,hf⟩:=h
   have hp':m.path.toList=[]:=by
    have:=Array.isEmpty_iff.1 hp
    rw [this]
   unfold method
   simp only [Zk,Zb1 hi,hm,hp',follow,Zr,hf,hp,if_true]
   exact q
  ·cases h
 ·cases h
theorem ZmB {B:Kn} {L:List Cells} {t e:TypeId} {v:Value} {name:String} {f:FuncId} (h:Zk8 P t name f true=true) (hu:P.underlying t=some (.pointer e)):Found P B L t v name f v:=fun k F Q q=>by
 refine Zt4 h ?_
 unfold receiverAt
 simp only [Zk,Zt hu,Place.get,Zr]
 exact q
theorem Zwx {ts:Array TypeId} {t:TypeId} {a:Addr} {x y:String} : Builtin.ssaWrapNilChk_ ts t #[.pointer (some a),strVal x,strVal y]=pure (.pointer (some a)):=rfl
theorem ZbI {B:Kn} {L:List Cells} {t e:TypeId} {a:Addr} {u:Value} {name:String} {f:FuncId} (h:Zk8 P t name f false=true) (hu:P.underlying t=some (.pointer e)) (hl:lk P e=some none) (ha:At B L a u):Found P B L t (.pointer (some a)) name f u:=fun k F Q q=>by
 refine Zt4 h ?_
 unfold receiverAt
 simp only [Zk,Zt hu,Place.get,Zr,Zwx,asAddr]
 exact Zgj hl (Zbj.app ha) q
theorem Zpy {n:Nat} {S:Env} {L:List Cells} {B:Kn} {dst:Option Tmp} {ty:TypeId} {pos:String} {after:Array Edge} {g:Option (Nat × Bool)} {x:Operand} {t:TypeId} {v u:Value} {name:String} {f:FuncId} {xs:List Operand} {vs:List Value} {ats:Array TypeId} (he:enters P f=true) (hx:ev S x=some (.iface t v)) (ha:evs S xs=some vs) (hm:Found P B L t v name f u) :
∀ρ:Operand→Value,(∀x u,ev S x=some u→ρ x=u)→∀(Q:Next→Kn→Cells→Prop) F,Q (.enter f (u :: vs).toArray) B (L.flatten ++ F)→hb P (execOp ρ ⟨dst,.call ⟨.invoke x name,xs.toArray,ats⟩,ty,pos,after,g⟩) Q B (L.flatten ++ F):=by
 intro ρ hρ Q F q
 have e1:(#[Value.iface t v] ++ vs.toArray)[0]? = some (.iface t v):=by simp
 have e2:(#[Value.iface t v] ++ vs.toArray).extract 1 (#[Value.iface t v] ++ vs.toArray).size=vs.toArray:=by apply Array.ext';simp
 have e3 : #[u] ++ vs.toArray=(u :: vs).toArray:=by simp
 simp only [execOp,resolve,hρ x _ hx,Zk,Zr,invoke,List.map_toArray,ZbB hρ ha,e1,e2,callMethod,ZbL]
 exact hm _ F _ (Zgq he (by rw [e3];exact q))
end
section
variable {P:PJ} {n:Nat} {ops:Array Oper} {i:Nat} {K:Zbl} {S:Env} {D:List Deferred} {B:Kn} {L:List Cells}
variable {dst:Option Tmp} {ty:TypeId} {pos:String} {after:Array Edge} {g:Option (Nat × Bool)}
theorem ZhI {f:FuncId} {x:Operand} {t:TypeId} {v u:Value} {name:String} {xs:List Operand} {vs:List Value} {ats:Array TypeId} {Post:Value→Kn→List Cells→Prop} (js:List Nat) {ss r:List Cells} (hp:Za0 L js=some (ss,r)) (hn:Ze4 js=true) (hg:Zm ops S g=some true) (hd:ZC n dst=true) (he:enters P f=true) (hx:ev S x=some (.iface t v)) (ha:evs S xs=some vs) (hm:Found P B L t v name f u) (hc:Zv P f (u :: vs) B ss Post)
  (h :∀v B' Ls',B.le B'→Post v B' Ls'→K v D B' (ZcS r js Ls')):opX P n ops i ⟨dst,.call ⟨.invoke x name,xs.toArray,ats⟩,ty,pos,after,g⟩ K S D B L:=
 Zet (o:=⟨dst,.call ⟨.invoke x name,xs.toArray,ats⟩,ty,pos,after,g⟩) (vs:=u :: vs) hg (Zpy (n:=n) he hx ha hm) hd (Ls:=ss) (Lk:=r) (ZaC js L ss r hp) hc
  fun v B' Ls' hle hq=>⟨ZcS r js Ls',Zcr Ls' r js (Zct hn) (fun j hj=>Zcs js L ss r hp j (.inr hj)),h v B' Ls' hle hq⟩
theorem ZlJ {x:Operand} {xt t:TypeId} {v:Value} {d:TypeDesc} (hg:Zm ops S g=some true) (hd:ZC n dst=true) (hu:P.underlying t=some d) (hni:(match d with | .interface _=>false | _=>true)=true) (hx:ev S x=some (.iface t v)) (h:K v D B L):opX P n ops i ⟨dst,.typeAssert x xt t false,ty,pos,after,g⟩ K S D B L:=
 ZV hg hd (fun ρ hρ Q F q=>by
  simp only [execOp,Instr.typeAssert,Zk,Zt hu,hρ x _ hx]
  cases d <;> first | (simp only [if_true,Bool.false_eq_true,if_false,Zr];exact q) | cases hni) h
theorem Zf2 {f:FuncId} {x:Operand} {t:TypeId} {v u:Value} {name:String} {xs:List Operand} {vs:List Value} {ats:Array TypeId} {r:Value} (j:Nat) {s:Cells} (hj:L[j]? = some s) (hg:Zm ops S g=some true) (hd:ZC n dst=true) (he:enters P f=true) (hx:ev S x=some (.iface t v)) (ha:evs S xs=some vs) (hm:Found P B L t v name f u) (hc:Zuf P f (u :: vs) B s r s)
  (h:K r D B L):opX P n ops i ⟨dst,.call ⟨.invoke x name,xs.toArray,ats⟩,ty,pos,after,g⟩ K S D B L:=
 ZhI [j] (ss:=[s]) (r:=L.set j []) (by simp [Za0,hj]) rfl hg hd he hx ha hm hc fun v' B' Ls' hle hq=>by
  obtain ⟨rfl,rfl,rfl⟩:=hq
  simp only [ZcS,List.set_set]
  rw [ZgJ hj];exact h
end
end Go.BL
namespace Go.BL
open Go.Conc (G)
theorem Zma {a b:Cells} (h :∀(f:Cells→Nat) (g:Nat × Obj→Nat),f []=0→(∀x y,f (x ++ y)=f x+f y)→(∀x l,f (x :: l)=g x+f l)→f a=f b):a.Perm b:=by
 classical
 rw [List.perm_iff_count]
 intro x
 exact h (fun l=>l.count x) (fun y=>if y == x then 1 else 0) (by simp) (fun l m=>by simp [List.count_append]) (fun y l=>by rw [List.count_cons,Nat.add_comm])
theorem Addr.add_blk (a:Addr) (i:Nat):(a.add i).block=a.block:=by unfold Addr.add;split <;> rfl
section
variable {P:PJ} {n:Nat} {ops:Array Oper} {i:Nat} {K:Zbl} {S:Env} {D:List Deferred} {B:Kn} {L:List Cells} {Q:Exit→Zao}
variable {dst:Option Tmp} {ty:TypeId} {pos:String} {after:Array Edge} {g:Option (Nat × Bool)}
theorem Zxv {c:Code} (h:wpS P n c Q S D B (L ++ [[]])):wpS P n c Q S D B L:=ZtR (L':=L ++ [[]]) (by simp) h
theorem ZsV {o:Oper} {K:Zao} {L':List Cells} (hp:L.flatten.Perm L'.flatten) (h:opW P n ops i o K S D B L'):opW P n ops i o K S D B L:=fun C todo k T ho hn hT hA=>
 C.X.perm (hp.append_right _) (h C todo k T ho hn hT hA)
theorem Zo3 {s a:Cells} {bs:List Cells} (j:Nat) (hj:L[j]? = some s) (hp:s.Perm (a ++ bs.flatten)):L.flatten.Perm (L.set j a ++ bs).flatten:=by
 obtain ⟨r,h1,h2⟩:=ZgK a hj
 refine h1.trans ((hp.append_right r).trans ?_)
 rw [List.flatten_append]
 refine List.Perm.trans ?_ (h2.symm.append_right _)
 rw [List.append_assoc,List.append_assoc]
 exact List.Perm.append_left _ List.perm_append_comm
theorem ZqS {o:Oper} {K:Zao} {s a:Cells} {bs:List Cells} (j:Nat) (hj:L[j]? = some s) (hp:s.Perm (a ++ bs.flatten)) (h:opW P n ops i o K S D B (L.set j a ++ bs)):opW P n ops i o K S D B L:=
 ZsV (Zo3 j hj hp) h
theorem Zss {t e:TypeId} {x lo hi mx:Operand} {p:Option Addr} {len cap sz:Nat} {a b m:Nat} (hg:Zm ops S g=some true) (hd:ZC n dst=true) (hu:P.underlying t=some (.slice e)) (hsz:Z8 P e=some sz)
  (hx:ev S x=some (.slice p len cap)) (hlo :∃k,∃z:Int,ev S lo=some (.int k z)∧z=a) (hhi :∃k,∃z:Int,ev S hi=some (.int k z)∧z=b) (hmx :∃k,∃z:Int,ev S mx=some (.int k z)∧z=m) (hab:a≤b) (hbm:b≤m) (hm:m≤cap)
  (h :∀v,K v D B L):opX P n ops i ⟨dst,.slice t x (some lo) (some hi) (some mx),ty,pos,after,g⟩ K S D B L:=
 ZV hg hd (fun ρ hρ Q F q=>by
  obtain ⟨k1,z1,h1,rfl⟩:=hlo
  obtain ⟨k2,z2,h2,rfl⟩:=hhi
  obtain ⟨k3,z3,h3,rfl⟩:=hmx
  simp only [execOp,Instr.sliceAt,Instr.slice,hρ x _ hx,hρ lo _ h1,hρ hi _ h2,hρ mx _ h3,Zk,Zr,Zt hu,Option.map_some,Instr.sliceBounds,if_true]
  rw [ZaJ (by omega) (by omega)]
  simp only [Int.toNat_natCast,Zk]
  rw [ZaJ (by omega) (by omega)]
  simp only [Zk,Int.toNat_natCast]
  rw [ZaJ (by omega) (by omega)]
  simp only [Zk,Zr,Int.toNat_natCast,ZaS hsz]
  exact q) (h (.slice (if m=a then p else p.map (·.add (a*sz))) (b - a) (m - a)))
theorem Zur {t u e:TypeId} {x y:Operand} {sz by_ m c d c2 b:Nat} {q:Option Addr} {arr ws:List Value} (j:Nat) (hj:L[j]? = some (Zah b arr e)) (ha:arr.length=c*sz) (hg:Zm ops S g=some true) (hd:ZC n dst=true)
  (he:Zck P t e sz by_=true) (hu:(match P.underlying u with | some (.slice _)=>true | _=>false)=true) (hx:ev S x=some (.slice (some ⟨b,0,none⟩) m c)) (hy:ev S y=some (.slice q d c2)) (hs:ZaQ B L.flatten q ws) (hl:ws.length=d*sz) (hone:ws.all ZgT=true) (hfit:m+d≤c)
  (h:K (.slice (some ⟨b,0,none⟩) (m+d) c) D B (L.set j (Zah b (Zav arr (m*sz) ws) e))):opX P n ops i ⟨dst,.call ⟨.builtin .append,#[x,y],#[t,u]⟩,ty,pos,after,g⟩ K S D B L:=
 Zd7 hg hd fun ρ hρ F=>by
  unfold Zck at he
  split at he
  ·rename_i e' inf hut hie
   simp only [Bool.and_eq_true,beq_iff_eq] at he
   obtain ⟨⟨⟨⟨rfl,hsz⟩,hby⟩,hpos⟩,hz⟩:=he
   have hsi:Z8 P e'=some sz:=by simp [Z8,hie,hsz]
   obtain ⟨du,hdu,hnoint⟩ :∃du,P.underlying u=some du∧(match du with | .slice _=>true | _=>false)=true:=by
    cases hq:P.underlying u with
    | none=>rw [hq] at hu;cases hu
    | some du=>exact ⟨du,rfl,by rw [hq] at hu;cases du <;> simp_all⟩
   obtain ⟨e2,rfl⟩ :∃e2,du = .slice e2:=by cases du <;> first | exact ⟨_,rfl⟩ | cases hnoint
   obtain ⟨rr,hp1,_⟩:=Zaa F [] hj
   have hset :∀l',((L.set j l').flatten ++ F).Perm (l' ++ rr):=fun l'=>by
    obtain ⟨r2,a1,a2⟩:=Zaa F l' hj
    have:rr.Perm r2:=(List.perm_append_left_iff (Zah b arr e')).1 (hp1.symm.trans a1)
    exact a2.trans (List.Perm.append_left l' this.symm)
   simp only [execOp,resolve,Zk,Zr,invoke,builtin,Builtin.append_,List.map_toArray,List.map_cons,List.map_nil,hρ x _ hx,hρ y _ hy,List.getElem?_toArray,List.getElem?_cons_zero,List.getElem?_cons_succ,Zt hut,Zt hdu,ZaS hsi,Bool.false_eq_true,if_false,Builtin.lenOf,Bool.not_false,if_true]
   rw [if_pos hfit]
   simp only [Zk]
   refine Zdt hs.app hl ?_
   simp only [Zk]
   have hoff:(Addr.add ⟨b,0,none⟩ (m*sz)).off=m*sz:=by unfold Addr.add;split <;> simp_all
   have hblk:(Addr.add ⟨b,0,none⟩ (m*sz)).block=b:=by unfold Addr.add;split <;> rfl
   have hspt:(Addr.add ⟨b,0,none⟩ (m*sz)).spot=none:=by unfold Addr.add;split <;> rfl
   have hlen:m*sz+ws.length≤arr.length:=by rw [ha,hl,← Nat.add_mul];exact Nat.mul_le_mul_right sz hfit
   refine ZcN (T:=e') (L₁:=rr) hspt ws 0 arr _ hone (by rw [hblk];exact hp1) (by rw [hoff,Nat.add_zero];exact hlen) fun L' hp=>?_
   simp only [Zr]
   rw [hblk,hoff,Nat.add_zero] at hp
   exact ⟨L.set j (Zah b (Zav arr (m*sz) ws) e'),(Sup.of (hp.trans (hset (Zah b (Zav arr (m*sz) ws) e')).symm)),h⟩
  ·cases he
theorem Zum {t e T:TypeId} {x:Operand} {d c2 off b:Nat} {q:Option Addr} {arr:List Value} {sz:Nat} (j:Nat) (hj:L[j]? = some (Zah b arr T)) (hg:Zm ops S g=some true) (hd:ZC n dst=true) (hut:P.underlying t=some (.slice e)) (hsz:Z8 P e=some sz) (hzo :∃z,ZaB P e=some z∧z.cells.size=sz∧z.cells.toList.all ZgT=true)
  (hx:ev S x=some (.slice q d c2)) (hq:0<d→q=some ⟨b,off,none⟩) (hfit:off+d*sz≤arr.length)
  (h :∀zs,zs.length=d*sz→K (.tuple #[]) D B (L.set j (Zah b (Zav arr off zs) T))):opX P n ops i ⟨dst,.call ⟨.builtin .clear,#[x],#[t]⟩,ty,pos,after,g⟩ K S D B L:=
 Zd7 hg hd fun ρ hρ F=>by
  obtain ⟨z,hz1,hz2,hz3⟩:=hzo
  obtain ⟨rr,hp1,_⟩:=Zaa F [] hj
  have hset :∀l',((L.set j l').flatten ++ F).Perm (l' ++ rr):=fun l'=>by
   obtain ⟨r2,a1,a2⟩:=Zaa F l' hj
   have:rr.Perm r2:=(List.perm_append_left_iff (Zah b arr T)).1 (hp1.symm.trans a1)
   exact a2.trans (List.Perm.append_left l' this.symm)
  simp only [execOp,resolve,Zk,Zr,invoke,builtin,Builtin.clear_,List.map_toArray,List.map_cons,List.map_nil,hρ x _ hx,List.getElem?_toArray,List.getElem?_cons_zero,Zt hut]
  cases d with
  | zero=>
   have:=h [] (by simp)
   rw [ZbX,ZgJ hj] at this
   cases q <;> (simp only [Zr,Zk];exact ⟨L,.of (.refl _),this⟩)
  | succ d=>
   obtain rfl:=hq (Nat.succ_pos d)
   simp only [Zk,Zb0 hz1]
   have hone:(Builtin.zeroCells z.cells (d+1)).toList.all ZgT=true:=by
    rw [List.all_eq_true]
    intro u hu
    simp only [Builtin.zeroCells,Array.toList_map,List.mem_map] at hu
    obtain ⟨k,hk,rfl⟩:=hu
    have hk':k<(d+1)*z.cells.size:=by simpa using hk
    have hpos:0<z.cells.size:=by
     rcases Nat.eq_zero_or_pos z.cells.size with e0 | e0
     ·rw [e0] at hk';simp at hk'
     ·exact e0
    have hlt:k % z.cells.size<z.cells.size:=Nat.mod_lt _ hpos
    rw [getElem!_pos z.cells _ hlt]
    exact List.all_eq_true.1 hz3 _ (by simp)
   have hlen:(Builtin.zeroCells z.cells (d+1)).toList.length=(d+1)*sz:=by rw [Array.length_toList,ZfP,hz2]
   refine ZcN (T:=T) (L₁:=rr) rfl _ 0 arr _ hone hp1 (by rw [Nat.add_zero,hlen];exact hfit) fun L' hp=>?_
   simp only [Zr,Zk]
   rw [Nat.add_zero] at hp
   exact ⟨L.set j (Zah b (Zav arr off (Builtin.zeroCells z.cells (d+1)).toList) T),(Sup.of (hp.trans (hset (Zah b (Zav arr off (Builtin.zeroCells z.cells (d+1)).toList) T)).symm)),h _ hlen⟩
end
theorem Zkl :∀(l:List Value) (i:Nat) (vs:List Value) (k:Nat),k≤i→(Zav l i vs).take k=l.take k
 | l,i,[],k,_=>by rw [ZbX]
 | [],i,v :: vs,k,_=>by simp [Zav]
 | x :: l,0,v :: vs,k,h=>by
  obtain rfl:k=0:=by omega
  rfl
 | x :: l,i+1,v :: vs,0,h=>rfl
 | x :: l,i+1,v :: vs,k+1,h=>by
  have:=Zkl l i (v :: vs) k (by omega)
  simp only [Zav,List.take_succ_cons] at this ⊢
  rw [this]
def Zn3 (T Tn Tb:TypeId) (b9 bl o:Nat) (cs:List Value) (Tc:TypeId) (rest:Cells) (pre:List DItem):Prop:=
∀v xs s,ZfO T Tn v xs s→∃v0 s0,ZfO T Tn v0 (pre ++ xs) s0∧(Zah bl (cs.set o v) Tc ++ (rest ++ s)).Perm (Zah b9 [v0] Tb ++ s0)
theorem Zn3.init {T Tn Tb:TypeId} {b9:Nat} {v0:Value} : Zn3 T Tn Tb b9 b9 0 [v0] Tb [] []:=fun v xs s h=>⟨v,s,h,.refl _⟩
theorem Zn3.step {T Tn Tb Tc:TypeId} {b9 bl o b8:Nat} {cs row:List Value} {rest ins:Cells} {pre:List DItem} {y:DItem} {np:Value} (h:Zn3 T Tn Tb b9 bl o cs Tc rest pre) (hl:row.length=4) (hr:Zb3 T row y ins) :
  Zn3 T Tn Tb b9 b8 4 (row ++ [np]) Tn (rest ++ (Zah bl (cs.set o (ptr ⟨b8,0,Option.none⟩)) Tc ++ ins)) (pre ++ [y]):=fun v xs s hs=>by
 obtain ⟨v0,s0,h1,h2⟩:=h (ptr ⟨b8,0,Option.none⟩) (y :: xs) (Zah b8 (row ++ [v]) Tn ++ (ins ++ s)) ⟨b8,row,v,ins,s,rfl,.refl _,hr,hs⟩
 refine ⟨v0,s0,by simpa using h1,?_⟩
 have e:(row ++ [np]).set 4 v=row ++ [v]:=by rw [← hl];simp
 rw [e]
 refine List.Perm.trans ?_ h2
 exact Zma fun f g h0 ha hc=>by simp only [ha];omega
structure QTk where
 pre:List DItem
 xs:List DItem
 p:Option Addr
 bl:Nat
 o:Nat
 cs:List Value
 Tc:TypeId
 rest:Cells
 cells:Cells
end Go.BL
namespace Go.BL
open Go.Conc (G)
theorem All2.drop {α:Type} {R:List Value→α→Prop} {rows:List (List Value)} {xs:List α} (h:All2 R rows xs) :∀k,All2 R (rows.drop k) (xs.drop k):=by
 induction h with
 | nil=>intro k;simp;exact .nil
 | cons h1 h2 ih=>
  intro k
  cases k with
  | zero=>exact .cons h1 h2
  | succ k=>exact ih k
theorem Zft {w:Nat} :∀{rows:List (List Value)},wide w rows→∀k,(rows.drop k).flatten=rows.flatten.drop (k*w)
 | [],_,k=>by simp
 | r :: rows,h,0=>by simp
 | r :: rows,h,k+1=>by
  have e:=h r (List.mem_cons_self ..)
  rw [List.drop_succ_cons,List.flatten_cons,Zft (fun r hr=>h r (List.mem_cons_of_mem _ hr)) k,show (k+1)*w=r.length+k*w from by rw [e,Nat.succ_mul,Nat.add_comm],List.drop_length_add_append]
theorem ZY.del {α:Type} {BV:Kn} {rows:List (List Value)} {xs:List α} {R:Rel α} {arr zs:List Value} {b c i:Nat} {T:TypeId} (h1:All2 (R BV) rows xs) (h2:wide 1 rows) (ha:arr.length=c*1) (ht:arr.take (xs.length*1)=rows.flatten) (hi:i<xs.length) (hmc:xs.length≤c) {k:Nat} (hk:k=i+(xs.length - (i+1))) :
  ZY BV (Zah b (Zav (Zav arr (i*1) ((arr.take xs.length).drop (i+1))) k zs) T) (some ⟨b,0,none⟩) c T 1 R (xs.take i ++ xs.drop (i+1)):=by
 have hl:=h1.len
 have hlen:(xs.take i ++ xs.drop (i+1)).length=k:=by rw [List.length_append,List.length_take,List.length_drop];omega
 rw [Nat.mul_one] at ht ha ⊢
 have hws:((arr.take xs.length).drop (i+1)).length=xs.length - (i+1):=by rw [List.length_drop,List.length_take];omega
 refine ⟨rows.take i ++ rows.drop (i+1),(h1.take i).app (h1.drop (i+1)),fun r hr=>?_,?_,.inr ⟨b,_,rfl,?_,?_,rfl,by rw [hlen];omega⟩⟩
 ·rcases List.mem_append.1 hr with hr | hr
  ·exact h2 r (List.mem_of_mem_take hr)
  ·exact h2 r (List.mem_of_mem_drop hr)
 ·rw [List.flatten_append,Zeb h2,Zft h2,List.length_append,List.length_take,List.length_drop,Zc5 h2,List.length_append,List.length_take,List.length_drop];omega
 ·rw [Zal,Zal,ha,Nat.mul_one]
 ·rw [hlen,Nat.mul_one,Zkl _ _ _ _ (Nat.le_refl _)]
  have:=Zeq arr i ((arr.take xs.length).drop (i+1)) (by rw [hws,ha];omega)
  rw [hws,← hk] at this
  rw [this,List.flatten_append,Zeb h2,Zft h2,Nat.mul_one,Nat.mul_one,← ht,List.take_take,Nat.min_eq_left (by omega)]
end Go.BL
namespace Go.BL
open Go.Conc (G)
theorem ZyU {P:PJ} {n:Nat} {Q:Exit→Zao} {S:Env} {D:List Deferred} {B:Kn} {L:List Cells} {c:Code} (js:List Nat) {ss r ss':List Cells} (hp:Za0 L js=some (ss,r)) (hn:Ze4 js=true) (hs:ss.flatten.Perm ss'.flatten) (h:wpS P n c Q S D B (ZcS r js ss')):wpS P n c Q S D B L:=
 ZtR ((ZaC js L ss r hp).trans ((hs.append_right _).trans (Zcr ss' r js (Zct hn) (fun j hj=>Zcs js L ss r hp j (.inr hj))))) h
theorem ZsD {l:List Value} {i:Nat} {v:Value} (h:l[i]? = some v):l.set i v=l:=by
 obtain ⟨hi,rfl⟩:=List.getElem?_eq_some_iff.1 h
 exact List.set_getElem_self hi
theorem ZqI {l:List Value} {i:Nat} {v:Value} (h:i<l.length):Zav l i [v]=l.set i v:=by
 induction l generalizing i with
 | nil=>simp at h
 | cons x l ih=>
  cases i with
  | zero=>simp [Zav]
  | succ i=>simp only [Zav,List.set_cons_succ];rw [ih (by simpa using h)]
end Go.BL
namespace Go.BL
open Go.Conc (G)
theorem Zuz {B:Kn} {L:List Cells} {b n c i:Nat} {arr:List Value} {T:TypeId} (hi:i+1≤n) (hc:n≤c) {k:Nat} (hk:k=i+1) (hL:L[0]? = some (Zah b arr T):=by rfl):ZaQ B L.flatten (if c=k then some ⟨b,0,none⟩ else (some ⟨b,0,none⟩:Option Addr).map (·.add (k*1))) ((arr.take n).drop (i+1)):=by
 subst hk
 by_cases e:c=i+1
 ·rw [if_pos e]
  intro j v hj
  rw [List.drop_eq_nil_of_le (by rw [List.length_take];omega)] at hj
  simp at hj
 ·rw [if_neg e]
  intro j v hj
  rw [List.getElem?_drop,List.getElem?_take] at hj
  split at hj
  ·have e1:Addr.add (Addr.add ⟨b,0,none⟩ ((i+1)*1)) j=⟨b,i+1+j,none⟩:=by
    rw [Addr.add_off ⟨b,0,none⟩ _ rfl,Addr.add_off _ _ rfl];simp
   show Zbj B L.flatten (Addr.add (Addr.add ⟨b,0,none⟩ ((i+1)*1)) j) v
   rw [e1]
   exact ⟨rfl,arr.toArray,T,(0,0),.inr (List.mem_flatten.2 ⟨_,List.mem_of_getElem? hL,List.mem_cons_self ..⟩),by simpa using hj⟩
  ·cases hj
theorem ZuL {BV:Kn} {rows:List (List Value)} {xs:List Str} {arr:List Value} {i:Nat} (h:All2 (Zbv BV) rows xs) (ht:arr.take (xs.length*1)=rows.flatten):((arr.take xs.length).drop i).all ZgT=true:=by
 have h1 :∀{rows:List (List Value)} {xs:List Str},All2 (Zbv BV) rows xs→rows.flatten.all ZgT=true:=by
  intro rows xs h
  induction h with
  | nil=>rfl
  | cons h1 _ ih=>rw [List.flatten_cons,List.all_append,ih,h1.1];rfl
 rw [Nat.mul_one] at ht
 rw [ht,List.all_eq_true]
 intro x hx
 exact List.all_eq_true.1 (h1 h) x (List.mem_of_mem_drop hx)
section
variable {P:PJ} {n:Nat} {ops:Array Oper} {i:Nat} {K:Zbl} {S:Env} {D:List Deferred} {B:Kn} {L:List Cells}
variable {dst:Option Tmp} {ty:TypeId} {pos:String} {after:Array Edge} {g:Option (Nat × Bool)}
theorem ZtS {f:FuncId} {x:Operand} {cap:Array Value} {xs:List Operand} {vs:List Value} {ats:Array TypeId} {v:Value} (hg:Zm ops S g=some true) (hd:ZC n dst=true) (he:enters P f=true) (hx:ev S x=some (.func (.func f) #[] cap)) (ha:evs S xs=some vs) (hc:ZaM P f (vs ++ cap.toList) B v)
  (h:K v D B L):opX P n ops i ⟨dst,.call ⟨.value x,xs.toArray,ats⟩,ty,pos,after,g⟩ K S D B L:=
 Zet (o:=⟨dst,.call ⟨.value x,xs.toArray,ats⟩,ty,pos,after,g⟩) (vs:=vs ++ cap.toList) hg (fun ρ hρ Q F q=>by
   have:=ZeY (P:=P) (B:=B) (L:=L) (dst:=dst) (ty:=ty) (pos:=pos) (after:=after) (g:=g) (x:=x) (first:=#[]) (cap:=cap) (ats:=ats) he hx ha ρ hρ Q F
   exact this (by simpa using q)) hd (Ls:=[]) (Lk:=L) (by simp) hc
  fun v' B' Ls' hle ⟨h1,h2,h3⟩=>⟨L,by subst h3;simp,by subst h1;subst h2;exact h⟩
end
theorem ZaM.borrow2 {P:PJ} {f:FuncId} {args:List Value} {B:Kn} {l l':Cells} {v:Value} (h:(∀p,p∈l→((B.add l).add l').mem p.1=some p.2)→(∀p,p∈l'→((B.add l).add l').mem p.1=some p.2)→ZaM P f args ((B.add l).add l') v) :
  Zv P f args B [l,l'] (fun v' B' Ls=>v'=v∧B'=B∧Ls=[l,l']):=
 (Zv.borrow (Ls:=[l']) (Post:=fun v' B' Ls=>v'=v∧B'=B.add l∧Ls=[l']) fun h1=>
  (Zv.borrow (P:=P) (Ls:=[]) fun h2=>h (fun p hp=>Kn.le_add _ _ _ _ (h1 p hp)) h2).mono fun v' B' Ls' _ ⟨B₂,Ls₂,a1,a2,_,_,a3,a4,a5,a6⟩=>by subst a5;subst a6;exact ⟨a4,a2.trans a3,a1⟩).mono
  fun v' B' Ls' _ ⟨B₂,Ls₂,a1,a2,_,_,a3,a4,a5,a6⟩=>by subst a5;subst a6;exact ⟨a4,a2.trans a3,a1⟩
theorem Zv1 {P:PJ} {n:Nat} {ops:Array Oper} {i:Nat} {K:Zbl} {S:Env} {D:List Deferred} {B:Kn} {L:List Cells} {dst:Option Tmp} {ty:TypeId} {pos:String} {after:Array Edge} {g:Option (Nat × Bool)}
  {f:FuncId} {xs:List Operand} {vs:List Value} {ats:Array TypeId} {v:Value} (j j':Nat) {l l':Cells} {r:List Cells} (hp:Za0 L [j,j']=some ([l,l'],r)) (hput:ZcS r [j,j'] [l,l']=L) (hn:Ze4 [j,j']=true) (hg:Zm ops S g=some true) (hd:ZC n dst=true) (he:enters P f=true) (ha:evs S xs=some vs)
  (hc:Zv P f vs B [l,l'] (fun v' B' Ls=>v'=v∧B'=B∧Ls=[l,l'])) (h:K v D B L):opX P n ops i ⟨dst,.call ⟨.value (.func f),xs.toArray,ats⟩,ty,pos,after,g⟩ K S D B L:=
 Zax [j,j'] hp hn hg hd he ha hc fun v' B' Ls' hle ⟨h1,h2,h3⟩=>by subst h1;subst h2;subst h3;rw [hput];exact h
end Go.BL
