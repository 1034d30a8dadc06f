/-
  THE WALK'S LOGIC: owned cells and known cells, goroutines started and awaited, calls, loops, data, and plain laws on lists: no program in sight.
-/
import Derived.Test.YtpdpnilbhlojbaaK0
import Derived.Orders
import Derived.Laws.Strings
import Derived.IntWalk
import Derived.RowKit3
import Derived.OpenShut
import Derived.WideKeyArgs
import Derived.ChangeSlices
import Derived.ChangeCalls
import Derived.ProofKit
import Derived.WalkKit
import Derived.Lib.Bytealg
import Derived.ChangeArms
import Derived.Stop.Asserts
import Derived.Conc.LeavingOf
import Derived.SevenTiedAt
import Derived.LaidMore
import Derived.MakeChecks
import Derived.Stop.Joined
import Derived.Stop.LaidErr
import Derived.KernelRfl
set_option linter.unusedVariables false
set_option linter.unusedSimpArgs false
set_option linter.unusedSectionVars false
namespace Go.BL
open Go.Conc (G)
set_option linter.unusedVariables false
abbrev Env:=List (Nat × Value)
def get:Env→Nat→Option Value
  | [],_=>none
  | (k,v) :: r,i=>bif Nat.beq k i then some v else get r i
def Ag (T:Array Value) (S:Env):Prop:=∀i v,get S i=some v→T[i]? = some v
def Sub:Env→Env→Prop
  | [],_=>True
  | p :: r,S=>get S p.1=some p.2∧Sub r S
theorem Sub.get_of :∀{S' S:Env},Sub S' S→∀{i v},get S' i=some v→get S i=some v
  | [],_,_,_,_,h=>by cases h
  | (k,x) :: r,S,⟨h1,h2⟩,i,v,h=>by
    simp only [get] at h
    cases hb:Nat.beq k i with
    | true=>
      rw [hb] at h
      simp only [cond_true,Option.some.injEq] at h
      subst h
      have:=Nat.eq_of_beq_eq_true hb
      subst this
      exact h1
    | false=>rw [hb] at h;exact Sub.get_of h2 h
theorem Ag.sub {T:Array Value} {S S':Env} (h:Ag T S) (hs:Sub S' S):Ag T S':=fun i v hv=>h i v (hs.get_of hv)
theorem Ag.put {T:Array Value} {S:Env} (h:Ag T S) {d:Nat} (hd:d<T.size) (v:Value):Ag (T.setIfInBounds d v) ((d,v) :: S):=by
  intro i x hx
  simp only [get] at hx
  cases hb:Nat.beq d i with
  | true=>
    rw [hb] at hx
    simp only [cond_true,Option.some.injEq] at hx
    subst hx
    have:=Nat.eq_of_beq_eq_true hb
    subst this
    simp [hd]
  | false=>
    rw [hb] at hx
    rw [Array.getElem?_setIfInBounds,if_neg (fun e=>by subst e;simp [Nat.beq_eq] at hb)]
    exact h i x hx
def ev (S:Env):Operand→Option Value
  | .tmp t=>get S t
  | .const v=>some v
  | .global g=>some (.pointer (some ⟨g,0,none⟩))
  | .func f=>some (.func (.func f) #[] #[])
def evT (T:Array Value):Operand→Value
  | .tmp t=>T.getD t undef
  | .const v=>v
  | .global g=>.pointer (some ⟨g,0,none⟩)
  | .func f=>.func (.func f) #[] #[]
theorem Ziq {T:Array Value} {S:Env} (h:Ag T S) {x:Operand} {v:Value} (hx:ev S x=some v):evT T x=v:=by
  cases x with
  | tmp t=>have:=h t v hx;simp only [evT,Array.getD_eq_getD_getElem?,this];rfl
  | const u=>simpa [ev,evT] using hx
  | global g=>simpa [ev,evT] using hx
  | func f=>simpa [ev,evT] using hx
def evs (S:Env):List Operand→Option (List Value)
  | []=>some []
  | x :: r=>match ev S x,evs S r with
    | some v,some vs=>some (v :: vs)
    | _,_=>none
def fat (b:Frame) (T:Array Value) (D:List Deferred) (todo:List Item):Frame:={ b with tmps:=T,todo,defers:=D,mode:=.run }
theorem ZgN (b:Frame) (T:Array Value) (D:List Deferred) (todo:List Item):(fat b T D todo).eval=evT T:=by
  funext x;cases x <;> rfl
section moves
variable {P:Program} {main:Bool} {b:Frame} {T:Array Value} {D:List Deferred} {k:List Item} {cs:List Frame} {w:World}
theorem Zkb:stepG P main (G (fat b T D (.code .skip :: k)) cs) w = .go (G (fat b T D k) cs) w #[]:=by simp [G,stepG,stepG.exec,fat]
theorem ZkY {x y:Code} : stepG P main (G (fat b T D (.code (.seq x y) :: k)) cs) w = .go (G (fat b T D (.code x :: .code y :: k)) cs) w #[]:=by simp [G,stepG,stepG.exec,fat]
theorem Zkd {c:Operand} {x y:Code} {t:Bool} (h:evT T c = .bool t) :
    stepG P main (G (fat b T D (.code (.cond c x y) :: k)) cs) w = .go (G (fat b T D (.code (if t then x else y) :: k)) cs) w #[]:=by
  have h':(fat b T D (.code (.cond c x y) :: k)).eval c = .bool t:=by rw [ZgN];exact h
  simp only [fat] at h'
  simp [G,stepG,stepG.exec,fat,h']
theorem ZiQ {id:Nat} {c:Code} : stepG P main (G (fat b T D (.code (.block id c) :: k)) cs) w = .go (G (fat b T D (.code c :: .inBlock id :: k)) cs) w #[]:=by simp [G,stepG,stepG.exec,fat]
theorem Zg0 {id:Nat} : stepG P main (G (fat b T D (.inBlock id :: k)) cs) w = .go (G (fat b T D k) cs) w #[]:=by simp [G,stepG,stepG.exec,fat]
theorem ZhM {c:Code} : stepG P main (G (fat b T D (.code (.loop c) :: k)) cs) w = .go (G (fat b T D (.code c :: .inLoop c :: k)) cs) w #[]:=by simp [G,stepG,stepG.exec,fat]
theorem Ze3 {c:Code} : stepG P main (G (fat b T D (.inLoop c :: k)) cs) w = .go (G (fat b T D (.code c :: .inLoop c :: k)) cs) w #[]:=by simp [G,stepG,stepG.exec,fat]
theorem Zkc {id:Nat} {k':List Item} (h:exitTo id k=some k'):stepG P main (G (fat b T D (.code (.exit id) :: k)) cs) w = .go (G (fat b T D k') cs) w #[]:=by simp [G,stepG,stepG.exec,fat,h]
theorem ZhK {id:Nat} {ops:Array Oper} : stepG P main (G (fat b T D (.code (.region id ops false) :: k)) cs) w = .go (G (fat b T D (.inRegion ops (List.range ops.size) :: k)) cs) w #[]:=by simp [G,stepG,stepG.exec,fat]
theorem ZdR {id:Nat} {ops:Array Oper} : stepG P main (G (fat b T D (.code (.region id ops true) :: k)) cs) w =
    .go (G (fat b T D (.inRegion ops (Region.schedule (P.follows .mixedOrders) ops (w.tape w.drawn (.order b.fn id))) :: k)) cs) { w with drawn:=w.drawn+1 } #[]:=by
  simp [G,stepG,stepG.exec,fat,choose,Sem.run,Question.forced,Question.cut]
theorem Zcn {ops:Array Oper} : stepG P main (G (fat b T D (.inRegion ops [] :: k)) cs) w = .go (G (fat b T D k) cs) w #[]:=by simp [G,stepG,stepG.exec,fat]
theorem ZkZ (hr:b.roundOf=none):stepG P main (G (fat b T D (.code .ret :: k)) cs) w = .go (G { fat b T D (.code .ret :: k) with mode:=.returning } cs) w #[]:=by
  simp [G,stepG,stepG.exec,fat,hr]
theorem ZjM (hr:b.roundOf=none):stepG P main (G (fat b T D []) cs) w = .go (G { fat b T D [] with mode:=.returning } cs) w #[]:=by
  simp [G,stepG,stepG.exec,fat,hr]
theorem ZgZ {ops:Array Oper} {i:Nat} {rest:List Nat} {o:Oper} (ho:ops[i]? = some o) (hw:Region.wanted o (yielded ops T)=false) :
    stepG P main (G (fat b T D (.inRegion ops (i :: rest) :: k)) cs) w = .go (G (fat b (match o.dst with | some d=>T.setIfInBounds d undef | none=>T) D (.inRegion ops rest :: k)) cs) w #[]:=by
  cases hd:o.dst <;> simp [G,stepG,stepG.exec,fat,ho,hw,Frame.finish,hd]
def ZeG:Op→Bool
  | .defer _=>true
  | _=>false
theorem ZhL {ops:Array Oper} {i:Nat} {rest:List Nat} {o:Oper} (hnd:ZeG o.op=false) (ho:ops[i]? = some o) (hw:Region.wanted o (yielded ops T)=true) :
    stepG P main (G (fat b T D (.inRegion ops (i :: rest) :: k)) cs) w=stepG.apply P true (fat b T D (.inRegion ops (i :: rest) :: k)) cs none (execOp (evT T) o) w:=by
  have he:=ZgN b T D (.inRegion ops (i :: rest) :: k)
  simp only [fat] at he
  have key :∀(x:Option Nat),(match x,o.op with
      | some l,.defer c=>stepG.apply P true (fat b T D (.inRegion ops (i :: rest) :: k)) cs none (do Instr.deferInRound l (← resolve (fat b T D (.inRegion ops (i :: rest) :: k)).eval c o.type);pure .skip) w
      | _,_=>stepG.apply P true (fat b T D (.inRegion ops (i :: rest) :: k)) cs none (execOp (evT T) o) w)=stepG.apply P true (fat b T D (.inRegion ops (i :: rest) :: k)) cs none (execOp (evT T) o) w:=by
    intro x
    split
    · rename_i h;rw [h] at hnd;cases hnd
    · rfl
  have:=key b.roundOf
  simp only [fat] at this
  simp only [G,stepG,stepG.exec,fat,ho,Option.map_some,hw,Option.getD_some,if_true,stepG.oper,Frame.oper?,he]
  exact this
end moves
def putT (T:Array Value) (dst:Option Tmp) (v:Value):Array Value:=match dst with | some d=>T.setIfInBounds d v | none=>T
theorem Zbi (T:Array Value) (dst:Option Tmp) (v:Value):(putT T dst v).size=T.size:=by cases dst <;> simp [putT]
theorem ZcL {b:Frame} {T:Array Value} {D:List Deferred} {ops:Array Oper} {i:Nat} {rest:List Nat} {k:List Item} {o:Oper} (ho:ops[i]? = some o) (v:Value) :
    (fat b T D (.inRegion ops (i :: rest) :: k)).finish v=fat b (putT T o.dst v) D (.inRegion ops rest :: k):=by
  cases h:o.dst <;> simp [fat,Frame.finish,ho,h,putT]
structure Cx (P:PJ) where
  X:Lg P
  b:Frame
  cs:List Frame
  F:Cells
  early:b.kind≠.early
abbrev ZR:=Env→List Deferred→Kn→List Cells→Prop
def After {P:PJ} (C:Cx P) (k:List Item) (T:Array Value) (D:List Deferred) (B:Kn) (L:List Cells):Exit→Prop
  | .normal=>C.X.R (G (fat C.b T D k) C.cs) B (L.flatten ++ C.F)
  | .exit id=>∃k',exitTo id k=some k'∧C.X.R (G (fat C.b T D k') C.cs) B (L.flatten ++ C.F)
  | .ret=>C.b.roundOf=none∧∀todo,C.X.R (G { fat C.b T D todo with mode:=.returning } C.cs) B (L.flatten ++ C.F)
  | _=>False
def wpS (P:PJ) (n:Nat) (c:Code) (Q:Exit→ZR):ZR:=fun S D B L=>
∀(C:Cx P) (k:List Item) (T:Array Value),T.size=n→Ag T S→
    (∀e S' D' B' L' T',B.le B'→Q e S' D' B' L'→T'.size=n→Ag T' S'→After C k T' D' B' L' e)→C.X.R (G (fat C.b T D (.code c :: k)) C.cs) B (L.flatten ++ C.F)
def thn (K:ZR) (Q:Exit→ZR):Exit→ZR
  | .normal=>K
  | e=>Q e
def inB (id:Nat) (Q:Exit→ZR):Exit→ZR
  | .exit id'=>bif Nat.beq id' id then Q .normal else Q (.exit id')
  | e=>Q e
section rules
variable {P:PJ} {n:Nat} {Q:Exit→ZR} {S:Env} {D:List Deferred} {B:Kn} {L:List Cells}
theorem ZiN {c:Code} {Q':Exit→ZR} (h:wpS P n c Q' S D B L) (hq :∀e S D B' L,B.le B'→Q' e S D B' L→Q e S D B' L):wpS P n c Q S D B L:=
  fun C k T hn hT hA=>h C k T hn hT fun e S' D' B' L' T' hle hq'=>hA e S' D' B' L' T' hle (hq e S' D' B' L' hle hq')
theorem Zy {c:Code} (S':Env) (hs:Sub S' S) (h:wpS P n c Q S' D B L):wpS P n c Q S D B L:=
  fun C k T hn hT hA=>h C k T hn (hT.sub hs) hA
theorem Zh (h:Q .normal S D B L):wpS P n .skip Q S D B L:=fun C k T hn hT hA=>
  C.X.ctl rfl (fun w=>Zkb) (hA .normal S D B L T (Kn.le.refl B) h hn hT)
theorem Zj (h:Q .ret S D B L):wpS P n .ret Q S D B L:=fun C k T hn hT hA=>by
  obtain ⟨hr,hR⟩:=hA .ret S D B L T (Kn.le.refl B) h hn hT
  exact C.X.ctl rfl (fun w=>ZkZ hr) (hR _)
theorem ZH {id:Nat} (h:Q (.exit id) S D B L):wpS P n (.exit id) Q S D B L:=fun C k T hn hT hA=>by
  obtain ⟨k',hk,hR⟩:=hA (.exit id) S D B L T (Kn.le.refl B) h hn hT
  exact C.X.ctl rfl (fun w=>Zkc hk) hR
theorem After.push {C:Cx P} {x:Item} {k:List Item} {T:Array Value} {e:Exit} (hx:x.plain=true) (he:e≠.normal) (h:After C k T D B L e):After C (x :: k) T D B L e:=by
  cases e with
  | normal=>exact absurd rfl he
  | exit id=>obtain ⟨k',hk,hg⟩:=h;exact ⟨k',by cases x <;> simp_all [exitTo,Item.plain],hg⟩
  | ret=>exact h
  | goto l=>exact h
  | panic ch=>exact h
  | outgrown=>exact h
theorem Zg {x y:Code} (h:wpS P n x (thn (wpS P n y Q) Q) S D B L):wpS P n (.seq x y) Q S D B L:=fun C k T hn hT hA=>by
  refine C.X.ctl rfl (fun w=>ZkY) (h C (.code y :: k) T hn hT fun e S' D' B' L' T' hle hq hn' hT'=>?_)
  cases e with
  | normal=>exact hq C k T' hn' hT' fun e₂ S₂ D₂ B₂ L₂ T₂ hle₂ hq₂=>hA e₂ S₂ D₂ B₂ L₂ T₂ (hle.trans hle₂) hq₂
  | exit id=>exact After.push rfl (by simp) (hA (.exit id) S' D' B' L' T' hle hq hn' hT')
  | ret=>exact After.push (x:=.code y) rfl (by simp) (hA .ret S' D' B' L' T' hle hq hn' hT')
  | goto l=>exact (hA (.goto l) S' D' B' L' T' hle hq hn' hT')
  | panic ch=>exact (hA (.panic ch) S' D' B' L' T' hle hq hn' hT')
  | outgrown=>exact (hA .outgrown S' D' B' L' T' hle hq hn' hT')
theorem ZkT {x y:Code} (M:ZR) (h:wpS P n x (thn M Q) S D B L) (h' :∀S' D' B' L',B.le B'→M S' D' B' L'→wpS P n y Q S' D' B' L'):wpS P n (.seq x y) Q S D B L:=
  Zg (ZiN h fun e S' D' B' L' hle hq=>by cases e <;> first | exact hq | exact h' _ _ _ _ hle hq)
theorem Zd {c:Operand} {x y:Code} {t:Bool} (hc:ev S c=some (.bool t)) (h1:t=true→wpS P n x Q S D B L) (h2:t=false→wpS P n y Q S D B L):wpS P n (.cond c x y) Q S D B L:=fun C k T hn hT hA=>by
  refine C.X.ctl rfl (fun w=>Zkd (Ziq hT hc)) ?_
  cases t
  · exact h2 rfl C k T hn hT hA
  · exact h1 rfl C k T hn hT hA
theorem Zl {id:Nat} {c:Code} (h:wpS P n c (inB id Q) S D B L):wpS P n (.block id c) Q S D B L:=fun C k T hn hT hA=>by
  refine C.X.ctl rfl (fun w=>ZiQ) (h C (.inBlock id :: k) T hn hT fun e S' D' B' L' T' hle hq hn' hT'=>?_)
  cases e with
  | normal=>exact C.X.ctl rfl (fun w=>Zg0) (hA .normal S' D' B' L' T' hle hq hn' hT')
  | exit id'=>
    by_cases hid:id'=id
    · subst hid
      have hq':Q .normal S' D' B' L':=by simpa [inB] using hq
      exact ⟨k,by simp [exitTo],hA .normal S' D' B' L' T' hle hq' hn' hT'⟩
    · have hb:Nat.beq id' id=false:=by
        cases h:Nat.beq id' id with
        | false=>rfl
        | true=>exact absurd (Nat.eq_of_beq_eq_true h) hid
      have hq':Q (.exit id') S' D' B' L':=by simpa [inB,hb] using hq
      obtain ⟨k',hk',hg⟩:=hA (.exit id') S' D' B' L' T' hle hq' hn' hT'
      have:(id == id')=false:=by simp;exact fun h=>hid h.symm
      exact ⟨k',by simp [exitTo,this,hk'],hg⟩
  | ret=>exact hA .ret S' D' B' L' T' hle hq hn' hT'
  | goto l=>exact hA (.goto l) S' D' B' L' T' hle hq hn' hT'
  | panic ch=>exact hA (.panic ch) S' D' B' L' T' hle hq hn' hT'
  | outgrown=>exact hA .outgrown S' D' B' L' T' hle hq hn' hT'
def rnd {α:Type} (St:α→Env) (Lo:α→List Cells) (Iv:α→Kn→Prop) (μ:α→Nat) (D:List Deferred) (x:α) (Q:Exit→ZR):Exit→ZR
  | .normal=>fun S' D' B' L'=>∃x',μ x'<μ x∧Iv x' B'∧Sub (St x') S'∧L'=Lo x'∧D'=D
  | e=>Q e
theorem ZeW {c:Code} {α:Type} (St:α→Env) (Lo:α→List Cells) (Iv:α→Kn→Prop) (μ:α→Nat) (x₀:α) (hS:Sub (St x₀) S) (hL:L=Lo x₀) (hI:Iv x₀ B)
    (round :∀x B',B.le B'→Iv x B'→wpS P n c (rnd St Lo Iv μ D x Q) (St x) D B' (Lo x)):wpS P n (.loop c) Q S D B L:=fun C k T hn hT hA=>by
  have key :∀m x B' T,μ x=m→B.le B'→Iv x B'→T.size=n→Ag T (St x)→C.X.R (G (fat C.b T D (.code c :: .inLoop c :: k)) C.cs) B' ((Lo x).flatten ++ C.F):=by
    intro m
    induction m using Nat.strongRecOn with
    | _ m ih=>
      intro x B' T hm hle hI hn hT
      refine round x B' hle hI C (.inLoop c :: k) T hn hT fun e S' D' B'' L' T' hle' hq hn' hT'=>?_
      cases e with
      | normal=>
        obtain ⟨x',hlt,hI',hs',rfl,rfl⟩:=hq
        exact C.X.ctl rfl (fun w=>Ze3) (ih (μ x') (hm ▸ hlt) x' B'' T' rfl (hle.trans hle') hI' hn' (hT'.sub hs'))
      | exit id=>exact After.push rfl (by simp) (hA (.exit id) S' D' B'' L' T' (hle.trans hle') hq hn' hT')
      | ret=>exact After.push (x:=.inLoop c) rfl (by simp) (hA .ret S' D' B'' L' T' (hle.trans hle') hq hn' hT')
      | goto l=>exact hA (.goto l) S' D' B'' L' T' (hle.trans hle') hq hn' hT'
      | panic ch=>exact hA (.panic ch) S' D' B'' L' T' (hle.trans hle') hq hn' hT'
      | outgrown=>exact hA .outgrown S' D' B'' L' T' (hle.trans hle') hq hn' hT'
  subst hL
  exact C.X.ctl rfl (fun w=>ZhM) (key _ x₀ B T rfl (Kn.le.refl B) hI hn (hT.sub hS))
theorem Lg.assume {P:PJ} (X:Lg P) {g:Goroutine} {B:Kn} {L:Cells} (hs:g=G g.frame g.callers) (h:(∀p,p∈L→B.mem p.1=none)→(L.map (·.1)).Nodup→X.R g B L):X.R g B L:=by
  by_cases hw :∃w,Sat B L w
  · obtain ⟨w,s⟩:=hw
    exact h s.apart s.nodup
  · exact X.step hs fun w s=>absurd ⟨w,s⟩ hw
def Kn.add (B:Kn) (l:Cells):Kn:=⟨fun b=>match B.mem b with | some o=>some o | none=>(l.find? (fun p=>p.1 == b)).map (·.2)⟩
theorem Kn.le_add (B:Kn) (l:Cells):B.le (B.add l):=fun b o h=>by simp [Kn.add,h]
theorem Zcy :∀{l:Cells},(l.map (·.1)).Nodup→∀{p:Nat × Obj},p∈l→l.find? (fun q=>q.1 == p.1)=some p
  | [],_,_,hp=>by cases hp
  | q :: r,hn,p,hp=>by
    have hn':=List.nodup_cons.1 hn
    rcases List.mem_cons.1 hp with rfl | hp
    · simp
    · have:q.1≠p.1:=fun e=>hn'.1 (List.mem_map.2 ⟨p,hp,e.symm⟩)
      rw [List.find?_cons_of_neg (by simpa using this)]
      exact Zcy hn'.2 hp
theorem Kn.add_mem {B:Kn} {l:Cells} (ha :∀p,p∈l→B.mem p.1=none) (hn:(l.map (·.1)).Nodup) {p:Nat × Obj} (hp:p∈l):(B.add l).mem p.1=some p.2:=by
  simp [Kn.add,ha p hp,Zcy hn hp]
theorem Kn.add_inv {B:Kn} {l:Cells} {b:Nat} {o:Obj} (h:(B.add l).mem b=some o):B.mem b=some o∨(b,o)∈l:=by
  simp only [Kn.add] at h
  cases hm:B.mem b with
  | some o'=>rw [hm] at h;exact .inl h
  | none=>
    rw [hm] at h
    simp only [Option.map_eq_some_iff] at h
    obtain ⟨p,hp,rfl⟩:=h
    have h1:=List.mem_of_find?_eq_some hp
    have h2:=List.find?_some hp
    simp only [beq_iff_eq] at h2
    subst h2
    exact .inr h1
theorem Lg.publish {P:PJ} (X:Lg P) {g:Goroutine} {B:Kn} {L l r:Cells} (hs:g=G g.frame g.callers) (hp:L.Perm (l ++ r))
    (h :∀B',B.le B'→(∀p,p∈l→B'.mem p.1=some p.2)→X.R g B' r):X.R g B L:=by
  refine X.assume hs fun ha hn=>?_
  have hn':((l ++ r).map (·.1)).Nodup:=(hp.map _).nodup_iff.1 hn
  have hnl:(l.map (·.1)).Nodup:=by rw [List.map_append] at hn';exact (List.nodup_append.1 hn').1
  have hal :∀p,p∈l→B.mem p.1=none:=fun p hpl=>ha p (hp.mem_iff.2 (List.mem_append.2 (.inl hpl)))
  refine X.conv (B':=B.add l) (L':=r) (Kn.le_add B l) (fun w s=>?_) (fun b o hb=>?_) (fun p hpr=>⟨p,hp.mem_iff.2 (List.mem_append.2 (.inr hpr)),rfl⟩) (h _ (Kn.le_add B l) fun p hpl=>Kn.add_mem hal hnl hpl)
  · have s':=s.perm hp
    refine ⟨fun b o hb=>?_,fun p hpr=>s'.own p (List.mem_append.2 (.inr hpr)),?_,fun p hpr=>?_⟩
    · rcases Kn.add_inv hb with hb | hb
      · exact s.ro b o hb
      · exact s'.own (b,o) (List.mem_append.2 (.inl hb))
    · have:=s'.nodup;rw [List.map_append] at this;exact (List.nodup_append.1 this).2.1
    · cases hm:(B.add l).mem p.1 with
      | none=>rfl
      | some o=>
        rcases Kn.add_inv hm with hm | hm
        · rw [s'.apart p (List.mem_append.2 (.inr hpr))] at hm;cases hm
        · have:=s'.nodup;rw [List.map_append] at this
          exact absurd rfl ((List.nodup_append.1 this).2.2 _ (List.mem_map.2 ⟨_,hm,rfl⟩) _ (List.mem_map.2 ⟨p,hpr,rfl⟩))
  · rcases Kn.add_inv hb with hb | hb
    · exact .inl (by rw [hb];rfl)
    · exact .inr ⟨(b,o),hp.mem_iff.2 (List.mem_append.2 (.inl hb)),rfl⟩
theorem Zae :∀{L:List Cells} {i:Nat} {l:Cells} (F:Cells) (l':Cells),L[i]? = some l→∃r,(L.flatten ++ F).Perm (l ++ r)∧((L.set i l').flatten ++ F).Perm (l' ++ r)
  | [],_,_,_,_,h=>by simp at h
  | x :: L,0,l,F,l',h=>by
    simp only [List.getElem?_cons_zero,Option.some.injEq] at h
    subst h
    exact ⟨L.flatten ++ F,by simp,by simp⟩
  | x :: L,i+1,l,F,l',h=>by
    obtain ⟨r,h1,h2⟩:=Zae (L:=L) (i:=i) F l' (by simpa using h)
    refine ⟨x ++ r,?_,?_⟩
    · simp only [List.flatten_cons,List.append_assoc]
      exact (List.Perm.append_left x h1).trans (by simpa using (List.perm_append_comm_assoc x l r))
    · simp only [List.set_cons_succ,List.flatten_cons,List.append_assoc]
      exact (List.Perm.append_left x h2).trans (by simpa using (List.perm_append_comm_assoc x l' r))
theorem Lg.drop {P:PJ} (X:Lg P) {g:Goroutine} {B:Kn} {L r gl:Cells} (hp:L.Perm (r ++ gl)) (h:X.R g B r):X.R g B L:=
  X.conv (Kn.le.refl B) (fun w s=>by
      have s':=s.perm hp
      exact ⟨s.ro,fun p hpr=>s'.own p (List.mem_append.2 (.inl hpr)),by have:=s'.nodup;rw [List.map_append] at this;exact (List.nodup_append.1 this).1,fun p hpr=>s'.apart p (List.mem_append.2 (.inl hpr))⟩)
    (fun b o hb=>.inl (by rw [hb];rfl)) (fun p hpr=>⟨p,hp.mem_iff.2 (List.mem_append.2 (.inl hpr)),rfl⟩) h
end rules
def Zaz (S:Env):Option Tmp→Value→Env
  | some d,v=>(d,v) :: S
  | none,_=>S
def Zn (n:Nat):Option Tmp→Bool
  | some d=>Nat.blt d n
  | none=>true
def opW (P:PJ) (n:Nat) (ops:Array Oper) (i:Nat) (o:Oper) (K:ZR):ZR:=fun S D B L=>
∀(C:Cx P) (todo:List Nat) (k:List Item) (T:Array Value),ops[i]? = some o→T.size=n→Ag T S→
    (∀S' D' B' L' T',B.le B'→K S' D' B' L'→T'.size=n→Ag T' S'→C.X.R (G (fat C.b T' D' (.inRegion ops todo :: k)) C.cs) B' (L'.flatten ++ C.F))→
    C.X.R (G (fat C.b T D (.inRegion ops (i :: todo) :: k)) C.cs) B (L.flatten ++ C.F)
abbrev Z6:=Value→List Deferred→Kn→List Cells→Prop
def opX (P:PJ) (n:Nat) (ops:Array Oper) (i:Nat) (o:Oper) (K:Z6) (S:Env) (D:List Deferred) (B:Kn) (L:List Cells):Prop:=
  Zn n o.dst=true∧∀(C:Cx P) (todo:List Nat) (k:List Item) (T:Array Value),ops[i]? = some o→T.size=n→Ag T S→
    (∀v D' B' L',B.le B'→K v D' B' L'→C.X.R (G (fat C.b (putT T o.dst v) D' (.inRegion ops todo :: k)) C.cs) B' (L'.flatten ++ C.F))→
    C.X.R (G (fat C.b T D (.inRegion ops (i :: todo) :: k)) C.cs) B (L.flatten ++ C.F)
def ZiF (P:PJ) (n:Nat) (ops:Array Oper):Nat→List Oper→ZR→ZR
  | _,[],K=>K
  | i,o :: r,K=>opW P n ops i o (ZiF P n ops (i+1) r K)
theorem Zd6 {P:PJ} {n:Nat} {ops:Array Oper} {K:ZR} :∀(l:List Oper) (i:Nat) {S:Env} {D:List Deferred} {B:Kn} {L:List Cells},
    (∀j,l[j]? = ops[i+j]?)→ZiF P n ops i l K S D B L→∀(C:Cx P) (k:List Item) (T:Array Value),T.size=n→Ag T S→
    (∀S' D' B' L' T',B.le B'→K S' D' B' L'→T'.size=n→Ag T' S'→C.X.R (G (fat C.b T' D' (.inRegion ops [] :: k)) C.cs) B' (L'.flatten ++ C.F))→
    C.X.R (G (fat C.b T D (.inRegion ops (List.range' i l.length) :: k)) C.cs) B (L.flatten ++ C.F)
  | [],i,S,D,B,L,_,h,C,k,T,hn,hT,hA=>hA S D B L T (Kn.le.refl B) h hn hT
  | o :: l,i,S,D,B,L,hl,h,C,k,T,hn,hT,hA=>by
    simp only [List.length_cons,List.range'_succ]
    refine h C _ k T (by simpa using (hl 0).symm) hn hT fun S' D' B' L' T' hle hK hn' hT'=>?_
    exact Zd6 l (i+1) (fun j=>by have:=hl (j+1);simpa [Nat.add_assoc,Nat.add_comm 1 j] using this) hK C k T' hn' hT'
      fun S₂ D₂ B₂ L₂ T₂ hle₂ hK₂=>hA S₂ D₂ B₂ L₂ T₂ (hle.trans hle₂) hK₂
section
variable {P:PJ} {n:Nat} {Q:Exit→ZR} {S:Env} {D:List Deferred} {B:Kn} {L:List Cells}
theorem Zk {id:Nat} {l:List Oper} (h:ZiF P n l.toArray 0 l (Q .normal) S D B L):wpS P n (.region id l.toArray false) Q S D B L:=fun C k T hn hT hA=>by
  refine C.X.ctl rfl (fun w=>ZhK) ?_
  rw [List.size_toArray,List.range_eq_range']
  exact Zd6 l 0 (fun j=>by simp) h C k T hn hT fun S' D' B' L' T' hle hq hn' hT'=>
    C.X.ctl rfl (fun w=>Zcn) (hA .normal S' D' B' L' T' hle hq hn' hT')
theorem Za {id:Nat} {l:List Oper} {y:Code} (h:ZiF P n l.toArray 0 l (wpS P n y Q) S D B L):wpS P n (.seq (.region id l.toArray false) y) Q S D B L:=
  Zg (Zk h)
end
def Zf (ops:Array Oper) (S:Env):Option (Nat × Bool)→Option Bool
  | none=>some true
  | some (j,want)=>match ops[j]? with
    | some oj=>match oj.dst with
      | some d=>match get S d with
        | some (.bool b)=>some (b == want)
        | some (.tuple _)=>some false
        | _=>none
      | none=>none
    | none=>none
theorem Zbg {ops:Array Oper} {T:Array Value} {S:Env} (hT:Ag T S) {o:Oper} {t:Bool} (h:Zf ops S o.guard=some t):Region.wanted o (yielded ops T)=t:=by
  cases hg:o.guard with
  | none=>rw [hg] at h;simp only [Zf,Option.some.injEq] at h;simp [Region.wanted,hg,← h]
  | some p=>
    obtain ⟨j,want⟩:=p
    rw [hg] at h
    simp only [Zf] at h
    split at h
    · rename_i oj hj
      split at h
      · rename_i d hd
        split at h
        · rename_i b hb
          simp only [Option.some.injEq] at h
          have:=hT _ _ hb
          simp [Region.wanted,hg,yielded,hj,hd,this,← h]
        · rename_i b hb
          simp only [Option.some.injEq] at h
          have:=hT _ _ hb
          simp [Region.wanted,hg,yielded,hj,hd,this,← h]
        · cases h
      · cases h
    · cases h
theorem Ag.putT {T:Array Value} {S:Env} (h:Ag T S) {n:Nat} (hn:T.size=n) {dst:Option Tmp} (hd:Zn n dst=true) (v:Value):Ag (putT T dst v) (Zaz S dst v):=by
  cases dst with
  | none=>exact h
  | some d=>exact h.put (by rw [hn];simpa [Zn] using hd) v
theorem Ze6 {e:Event} {f:Bool × Array Event→Event→Bool × Array Event} (hf :∀x a,(f x a).2=x.2∨(f x a).2=x.2.push a) :∀(l:List Event) (x:Bool × Array Event),e∈(l.foldl f x).2→e∈x.2∨e∈l
  | [],x,h=>.inl h
  | a :: l,x,h=>by
    rcases Ze6 hf l _ h with h | h
    · rcases hf x a with e1 | e1
      · rw [e1] at h;exact .inl h
      · rw [e1] at h
        rcases Array.mem_push.1 h with h | h
        · exact .inl h
        · exact .inr (h ▸ List.mem_cons_self ..)
    · exact .inr (List.mem_cons_of_mem _ h)
theorem Zc3 {P:Program} {fn:FuncId} {es:Array Event} {e:Event} (h:e∈seen P fn es):e∈es:=by
  dsimp only [seen] at h
  rw [← Array.foldl_toList] at h
  refine Ze6 (fun x a=>?_) es.toList _ h |>.elim (fun h=>by simp at h) (fun h=>Array.mem_toList_iff.1 h)
  obtain ⟨q,kept⟩:=x
  dsimp only
  split
  · exact .inl rfl
  · dsimp only
    split
    · exact .inl rfl
    · exact .inr rfl
def Sup (a b:Cells):Prop:=∃gl,a.Perm (b ++ gl)
theorem Sup.of {a b:Cells} (h:a.Perm b):Sup a b:=⟨[],by rw [List.append_nil];exact h⟩
def yields (P:PJ) (n:Nat) (o:Oper) (K:Z6) (S:Env) (D:List Deferred) (F:Cells):Next→Kn→Cells→Prop
  | .value v,B',L'=>∃LL:List Cells,Sup L' (LL.flatten ++ F)∧K v D B' LL
  | .skip,B',L'=>∃LL:List Cells,Sup L' (LL.flatten ++ F)∧K undef D B' LL
  | _,_,_=>False
section
variable {P:PJ} {n:Nat} {ops:Array Oper} {i:Nat} {o:Oper} {K:Z6} {S:Env} {D:List Deferred} {B:Kn} {L:List Cells}
theorem Zbr {α:Type} {s:Sem α} {w:World} {r:Result α} {es:Array Event} (h:s.runT P w #[]=(r,es)):s.run P w=r∧s.events P w #[]=es:=by
  refine ⟨?_,?_⟩
  · rw [← Sem.runT_fst P s w #[],h]
  · show (s.runT P w #[]).2=es;rw [h]
theorem Zgj {fr:Frame} {cs:List Frame} {s:Sem Next} {w w':World} {v:Value} {es:Array Event} (hk:fr.kind≠.early) (h:s.runT P w #[]=(.ok (.value v) w',es)) :
    stepG.apply P true fr cs none s w = .go (G (fr.finish v) cs) w' (seen P fr.fn es):=by
  have hk':(fr.kind == CallKind.early)=false:=by simpa using hk
  obtain ⟨hr,he⟩:=Zbr h
  rw [← he]
  simp [stepG.apply,hr,hk',GStep.after,G]
theorem Zhl {fr:Frame} {cs:List Frame} {s:Sem Next} {w w':World} {es:Array Event} (hk:fr.kind≠.early) (h:s.runT P w #[]=(.ok .skip w',es)) :
    stepG.apply P true fr cs none s w = .go (G (fr.finish undef) cs) w' (seen P fr.fn es):=by
  have hk':(fr.kind == CallKind.early)=false:=by simpa using hk
  obtain ⟨hr,he⟩:=Zbr h
  rw [← he]
  simp [stepG.apply,hr,hk',GStep.after,G]
theorem Zgk {fr:Frame} {cs:List Frame} {s:Sem Next} {w w':World} {f:FuncId} {args:Array Value} {es:Array Event} (hk:fr.kind≠.early) (ht :∀a b c d r,fr.todo≠.call a b c d :: r) (h:s.runT P w #[]=(.ok (.enter f args) w',es)) :
    stepG.apply P true fr cs none s w = .go (G (Frame.enter P f args .normal) (fr :: cs)) w' (seen P fr.fn es):=by
  have hk':(fr.kind == CallKind.early)=false:=by simpa using hk
  obtain ⟨hr,he⟩:=Zbr h
  rw [← he]
  have hkd:(match fr.todo with | .call _ true _ _ :: _=>CallKind.wrapped | _=>.normal) = .normal:=by
    split
    · rename_i h';exact absurd h' (ht _ _ _ _ _)
    · rfl
  simp [stepG.apply,hr,hk',GStep.after,G]
  exact congrArg (Frame.enter P f args) hkd
theorem Zdk (hg:Zf ops S o.guard=some true) (hd:Zn n o.dst=true)
    (h :∀(ρ:Operand→Value),(∀x v,ev S x=some v→ρ x=v)→∀F:Cells,hb P (execOp ρ o) (yields P n o K S D F) B (L.flatten ++ F)) (hnd:ZeG o.op=false:=by rfl):opX P n ops i o K S D B L:=⟨hd,fun C todo k T ho hn hT hA=>by
  refine C.X.step rfl fun w s=>?_
  obtain ⟨a,w',es,B',L',h1,h2,h3,h4⟩:=ZeK _ _ _ _ (h (evT T) (fun x v hx=>Ziq hT hx) C.F) w #[] s
  simp only [Array.empty_append] at h1
  rw [ZhL hnd ho (Zbg hT hg)]
  have hk:(fat C.b T D (.inRegion ops (i :: todo) :: k)).kind≠.early:=C.early
  cases a with
  | value v=>
    obtain ⟨LL,⟨gl,hp⟩,hK⟩:=h4
    refine ⟨_,w',_,B',L',Zgj hk h1,fun e he=>h2 e (Zc3 he),h3,?_⟩
    rw [ZcL ho]
    exact C.X.drop hp (hA v D B' LL h3.le hK)
  | skip=>
    obtain ⟨LL,⟨gl,hp⟩,hK⟩:=h4
    refine ⟨_,w',_,B',L',Zhl hk h1,fun e he=>h2 e (Zc3 he),h3,?_⟩
    rw [ZcL ho]
    exact C.X.drop hp (hA undef D B' LL h3.le hK)
  | _=>exact h4.elim⟩
theorem ZjB {dst:Option Tmp} {op:Op} {t:TypeId} {pos:String} {after:Array Edge} {g:Option (Nat × Bool)} (hg:Zf ops S g=some false) (hd:Zn n dst=true) (h:K undef D B L):opX P n ops i ⟨dst,op,t,pos,after,g⟩ K S D B L:=⟨hd,fun C todo k T ho hn hT hA=>by
  refine C.X.ctl rfl (fun w=>ZgZ ho (Zbg (o:=⟨dst,op,t,pos,after,g⟩) hT hg)) ?_
  exact hA undef D B L (Kn.le.refl B) h⟩
theorem Zr {K:ZR} (h:opX P n ops i o (fun v D' B' L'=>K (Zaz S o.dst v) D' B' L') S D B L):opW P n ops i o K S D B L:=fun C todo k T ho hn hT hA=>
  h.2 C todo k T ho hn hT fun v D' B' L' hle hK=>hA _ D' B' L' _ hle hK (by rw [Zbi,hn]) (hT.putT hn h.1 v)
end
end Go.BL
namespace Go.BL
section
variable {K:ZR} {Q:Exit→ZR} {S:Env} {D:List Deferred} {B:Kn} {L:List Cells} {id id':Nat}
theorem Ze (h:K S D B L):thn K Q .normal S D B L:=h
theorem Zp (h:Q .ret S D B L):thn K Q .ret S D B L:=h
theorem Z3 (h:Q (.exit id) S D B L):thn K Q (.exit id) S D B L:=h
theorem ZY (h:Q .normal S D B L):inB id Q .normal S D B L:=h
theorem ZA (h:Q .ret S D B L):inB id Q .ret S D B L:=h
theorem Zx (h:Q .normal S D B L):inB id Q (.exit id) S D B L:=by simpa [inB] using h
theorem Zkg {α:Type} {St:α→Env} {Lo:α→List Cells} {Iv:α→Kn→Prop} {μ:α→Nat} {D':List Deferred} {x:α} (h:Q .ret S D B L):rnd St Lo Iv μ D' x Q .ret S D B L:=h
theorem Zg3 {α:Type} {St:α→Env} {Lo:α→List Cells} {Iv:α→Kn→Prop} {μ:α→Nat} {D':List Deferred} {x:α} (h:Q (.exit id) S D B L):rnd St Lo Iv μ D' x Q (.exit id) S D B L:=h
theorem Zg4 {α:Type} {St:α→Env} {Lo:α→List Cells} {Iv:α→Kn→Prop} {μ:α→Nat} {x:α} (x':α) (hm:μ x'<μ x) (hi:Iv x' B) (hs:Sub (St x') S) (hl:L=Lo x'):rnd St Lo Iv μ D x Q .normal S D B L:=⟨x',hm,hi,hs,hl,rfl⟩
theorem ZF {P:PJ} {n:Nat} {c:Code} (S':Env) (L':List Cells) (hs:Sub S' S) (hl:L=L') (h:wpS P n c Q S' D B L'):wpS P n c Q S D B L:=by subst hl;exact Zy S' hs h
end
end Go.BL
namespace Go.BL
open Go.Conc (G)
set_option linter.unusedVariables false
@[reducible] def str (l:List UInt8):Value:=.string ⟨l.toArray⟩
@[reducible] def int (x:Int):Value:=.int .i64 x
@[reducible] def ZaB (b:Nat) (l:List Value) (T:TypeId):Cells:=[(b,.cells l.toArray T (0,0))]
@[reducible] def ptr (a:Addr):Value:=.pointer (some a)
def lk (P:Program) (t:TypeId):Option (Option Nat):=
  match P.underlying t,P.info? t with
  | some (.struct _),some i=>some (some i.size)
  | some (.array _ _),some i=>some (some i.size)
  | some _,some _=>some none
  | _,_=>none
def Zaj (P:Program) (t:TypeId):Option Value:=(P.info? t).bind (·.zero)
def ZL (P:Program) (t:TypeId):Option Nat:=(P.info? t).map (·.size)
def Zu (P:Program) (s:TypeId) (i:Nat):Option Nat:=
  match P.underlying s with
  | some (.struct fs)=>match fs[i]? with
    | some f=>match P.info? f.type with
      | some j=>if j.size=0 then none else some f.offset
      | none=>none
    | none=>none
  | _=>none
section
variable {P:Program} {α:Type} {Q:α→Kn→Cells→Prop} {B:Kn} {L:Cells}
theorem ZcI {Q:Program→Kn→Cells→Prop} : hb P program Q B L=Q P B L:=rfl
theorem Zo {Q:TypeDesc→Kn→Cells→Prop} {t:TypeId} {d:TypeDesc} (h:P.underlying t=some d):hb P (underlying t) Q B L=Q d B L:=by
  simp only [underlying,Zi,ZcI,h,Zm]
theorem Za8 {Q:TypeInfo→Kn→Cells→Prop} {t:TypeId} {i:TypeInfo} (h:P.info? t=some i):hb P (typeInfo t) Q B L=Q i B L:=by
  simp only [typeInfo,Zi,ZcI,h,Zm]
theorem ZaT {Q:Value→Kn→Cells→Prop} {t:TypeId} {v:Value} (h:Zaj P t=some v):hb P (zeroValue t) Q B L=Q v B L:=by
  simp only [Zaj,Option.bind_eq_some_iff] at h
  obtain ⟨i,hi,hz⟩:=h
  simp only [zeroValue,Zi,Za8 hi,hz,Zm]
theorem Z0 {Q:Nat→Kn→Cells→Prop} {t:TypeId} {n:Nat} (h:ZL P t=some n):hb P (sizeOf t) Q B L=Q n B L:=by
  simp only [ZL,Option.map_eq_some_iff] at h
  obtain ⟨i,hi,rfl⟩:=h
  simp only [sizeOf,Zi,Za8 hi,Zm]
theorem Zkp {t:TypeId} (h:lk P t=some none) {Q:Bool→Kn→Cells→Prop} : hb P (isAgg t) Q B L=Q false B L:=by
  unfold lk at h
  cases hd:P.underlying t with
  | none=>rw [hd] at h;cases P.info? t <;> cases h
  | some d=>
    rw [hd] at h
    rw [isAgg,Zi,Zo hd]
    cases hi:P.info? t with
    | none=>rw [hi] at h;cases d <;> cases h
    | some i=>rw [hi] at h;cases d <;> first | rfl | cases h
theorem Zh8 {t:TypeId} {n:Nat} (h:lk P t=some (some n)) {Q:Bool→Kn→Cells→Prop} : hb P (isAgg t) Q B L=Q true B L∧ZL P t=some n:=by
  unfold lk at h
  split at h
  · rename_i fs i hd hi;simp only [Option.some.injEq] at h;exact ⟨by rw [isAgg,Zi,Zo hd];rfl,by simp [ZL,hi,h]⟩
  · rename_i a e i hd hi;simp only [Option.some.injEq] at h;exact ⟨by rw [isAgg,Zi,Zo hd];rfl,by simp [ZL,hi,h]⟩
  · cases h
  · cases h
theorem Zik {Q:Value→Kn→Cells→Prop} {a:Addr} {v:Value} (hc:Z9 B L a v) (h:Q v B L):hb P (load a) Q B L:=⟨rfl,v,hc,h⟩
theorem Zat {Q:Array Value→Kn→Cells→Prop} {a:Addr} :∀(vs:List Value) (i:Nat) (acc:Array Value),(∀j v,vs[j]? = some v→Z9 B L (a.add (i+j)) v)→Q (acc ++ vs.toArray) B L→
    hb P (loadCellsFrom a i vs.length acc) Q B L
  | [],i,acc,_,h=>by simp only [List.length_nil,loadCellsFrom,Zm];simpa using h
  | v :: vs,i,acc,hc,h=>by
    simp only [List.length_cons,loadCellsFrom,Zi]
    refine Zik (hc 0 v (by simp)) ?_
    refine Zat vs (i+1) (acc.push v) (fun j u hj=>by have:=hc (j+1) u (by simpa using hj);rwa [show i+(j+1)=i+1+j from by omega] at this) ?_
    simpa using h
theorem Zdz {Q:Value→Kn→Cells→Prop} {t:TypeId} {a:Addr} {v:Value} (hl:lk P t=some none) (hc:Z9 B L a v) (h:Q v B L):hb P (loadVar t a) Q B L:=by
  simp only [loadVar,Zi,Zkp hl]
  exact Zik hc h
theorem Zdy {Q:Value→Kn→Cells→Prop} {t:TypeId} {a:Addr} {vs:List Value} (hl:lk P t=some (some vs.length)) (hc :∀j v,vs[j]? = some v→Z9 B L (a.add j) v) (h:Q (.agg vs.toArray) B L):hb P (loadVar t a) Q B L:=by
  simp only [loadVar,Zi,(Zh8 hl).1,if_true,Z0 (Zh8 (L:=L) (B:=B) (Q:=fun _ _ _=>True) hl).2,loadCells]
  refine Zat vs 0 #[] (fun j v hj=>by simpa using hc j v hj) ?_
  simp only [Zm]
  simpa using h
def ZV:List Value→Nat→List Value→List Value
  | l,_,[]=>l
  | [],_,_=>[]
  | _ :: l,0,v :: vs=>v :: ZV l 0 vs
  | x :: l,i+1,vs=>x :: ZV l i vs
theorem Zao (l:List Value) (i:Nat):ZV l i []=l:=by cases l <;> cases i <;> rfl
theorem ZaZ :∀(l:List Value) (i:Nat) (v:Value) (vs:List Value),ZV l i (v :: vs)=ZV (l.set i v) (i+1) vs
  | [],i,v,vs=>by cases i <;> cases vs <;> rfl
  | x :: l,0,v,vs=>by
    cases vs with
    | nil=>simp [ZV,Zao]
    | cons u us=>simp [ZV]
  | x :: l,i+1,v,vs=>by
    simp only [ZV,List.set_cons_succ]
    cases vs with
    | nil=>simp [Zao,ZaZ l i v []]
    | cons u us=>simp only [ZV];rw [ZaZ l i v (u :: us)]
theorem Zew {v:Value} {vs:List Value} (h:(v :: vs).all Zc0=true):Zc0 v=true∧vs.all Zc0=true:=by simpa using h
theorem Zbt {Q:Unit→Kn→Cells→Prop} {a:Addr} (ha:a.spot=none) {T:TypeId} {L₁:Cells} :∀(vs:List Value) (i:Nat) (l:List Value) (L:Cells),vs.all Zc0=true→L.Perm ((a.block,.cells l.toArray T (0,0)) :: L₁)→a.off+i+vs.length≤l.length→
    (∀L',L'.Perm ((a.block,.cells (ZV l (a.off+i) vs).toArray T (0,0)) :: L₁)→Q () B L')→hb P (storeCells a vs i) Q B L
  | [],i,l,L,_,hp,_,h=>by
    simp only [storeCells,Zm]
    exact h L (by rw [Zao];exact hp)
  | v :: vs,i,l,L,h1,hp,hlen,h=>by
    simp only [storeCells,Zi]
    have hoff:(a.add i).off=a.off+i:=by unfold Addr.add;split <;> simp_all
    have hbl:(a.add i).block=a.block:=by unfold Addr.add;split <;> rfl
    have hsp:(a.add i).spot=none:=by unfold Addr.add;split <;> simp_all
    obtain ⟨hv,hvs⟩:=Zew h1
    refine ⟨rfl,hv,hsp,l.toArray,T,(0,0),L₁,by rw [hbl];exact hp,by rw [hoff];simp only [List.size_toArray];simp only [List.length_cons] at hlen;omega,by simp,?_⟩
    rw [ZeJ]
    refine Zbt (T:=T) (L₁:=L₁) ha vs (i+1) (l.set (a.off+i) v) _ hvs (by rw [hbl,hoff];simp) (by simp only [List.length_set];simp only [List.length_cons] at hlen;omega) fun L' hp'=>h L' ?_
    rw [ZaZ,Nat.add_assoc]
    exact hp'
end
@[reducible] def At (B:Kn) (L:List Cells) (a:Addr) (v:Value):Prop:=Z9 B L.flatten a v
theorem Z9.app {B:Kn} {L F:Cells} {a:Addr} {v:Value} (h:Z9 B L a v):Z9 B (L ++ F) a v:=
  let ⟨h1,cs,T,fr,h2,h3⟩:=h;⟨h1,cs,T,fr,h2.imp id fun x=>List.mem_append.2 (.inl x),h3⟩
theorem atL {B:Kn} {L:List Cells} {a:Addr} {v:Value} {l:List Value} {T:TypeId} {fr:Nat × Nat} {r:Cells} (j:Nat) (hj:L[j]? = some ((a.block,.cells l.toArray T fr) :: r)) (hs:a.spot=none) (hv:l[a.off]? = some v):At B L a v:=
  ⟨hs,l.toArray,T,fr,.inr (List.mem_flatten.2 ⟨_,List.mem_of_getElem? hj,List.mem_cons_self ..⟩),by simpa using hv⟩
@[reducible] def Zjr (B:Kn) (L:List Cells) (a:Addr) (vs:List Value):Prop:=∀j v,vs[j]? = some v→At B L (a.add j) v
theorem Addr.add_off (a:Addr) (i:Nat) (h:a.spot=none):a.add i=⟨a.block,a.off+i,none⟩:=by
  unfold Addr.add;split
  · subst_vars;cases a;simp_all
  · rfl
theorem Zhp {B:Kn} {L:List Cells} {a:Addr} {l vs:List Value} {T:TypeId} {fr:Nat × Nat} {r:Cells} (j:Nat) (hj:L[j]? = some ((a.block,.cells l.toArray T fr) :: r)) (hs:a.spot=none) (hv:(l.drop a.off).take vs.length=vs):Zjr B L a vs:=by
  intro i v hi
  rw [Addr.add_off a i hs]
  refine ⟨rfl,l.toArray,T,fr,.inr (List.mem_flatten.2 ⟨_,List.mem_of_getElem? hj,List.mem_cons_self ..⟩),?_⟩
  have:vs[i]? = l[a.off+i]?:=by
    rw [← hv]
    have hlt:i<vs.length:=by
      rcases Nat.lt_or_ge i vs.length with h | h
      · exact h
      · rw [List.getElem?_eq_none h] at hi;cases hi
    rw [List.getElem?_take,if_pos hlt,List.getElem?_drop]
  simpa [this] using hi
section
variable {P:PJ} {n:Nat} {ops:Array Oper} {i:Nat} {K:Z6} {S:Env} {D:List Deferred} {B:Kn} {L:List Cells}
variable {dst:Option Tmp} {ty:TypeId} {pos:String} {after:Array Edge} {g:Option (Nat × Bool)}
theorem Zw {op:Op} {v:Value} (hg:Zf ops S g=some true) (hd:Zn n dst=true)
    (hv :∀ρ:Operand→Value,(∀x u,ev S x=some u→ρ x=u)→∀(Q:Next→Kn→Cells→Prop) F,Q (.value v) B (L.flatten ++ F)→hb P (execOp ρ ⟨dst,op,ty,pos,after,g⟩) Q B (L.flatten ++ F))
    (h:K v D B L) (hnd:ZeG op=false:=by rfl):opX P n ops i ⟨dst,op,ty,pos,after,g⟩ K S D B L:=
  Zdk hg hd (fun ρ hρ F=>hv ρ hρ _ F ⟨L,.of (.refl _),h⟩) hnd
theorem ZjE {x:Operand} {v:Value} (hg:Zf ops S g=some true) (hd:Zn n dst=true) (hx:ev S x=some v) (h:K v D B L):opX P n ops i ⟨dst,.move x,ty,pos,after,g⟩ K S D B L:=
  Zw hg hd (fun ρ hρ Q F q=>by show Q (.value (ρ x)) _ _;rw [hρ x v hx];exact q) h
theorem Zgs {x:Operand} {v:Value} (hg:Zf ops S g=some true) (hd:Zn n dst=true) (hx:ev S x=some v) (h:K v D B L):opX P n ops i ⟨dst,.assign x,ty,pos,after,g⟩ K S D B L:=
  Zw hg hd (fun ρ hρ Q F q=>by show Q (.value (ρ x)) _ _;rw [hρ x v hx];exact q) h
theorem Zhw {c a b:Operand} {v:Value} (hg:Zf ops S g=some true) (hd:Zn n dst=true) (hc:ev S c=some (.bool true)) (hx:ev S a=some v) (h:K v D B L):opX P n ops i ⟨dst,.pick c a b,ty,pos,after,g⟩ K S D B L:=
  Zw hg hd (fun ρ hρ Q F q=>by simp only [execOp,hρ c _ hc,asBool,Zi,Zm,if_true,hρ a _ hx];exact q) h
theorem Zhx {c a b:Operand} {v:Value} (hg:Zf ops S g=some true) (hd:Zn n dst=true) (hc:ev S c=some (.bool false)) (hx:ev S b=some v) (h:K v D B L):opX P n ops i ⟨dst,.pick c a b,ty,pos,after,g⟩ K S D B L:=
  Zw hg hd (fun ρ hρ Q F q=>by simp only [execOp,hρ c _ hc,asBool,Zi,Zm,if_false,Bool.false_eq_true,hρ b _ hx];exact q) h
theorem Zhz {x:Operand} {ix:Nat} {vs:List Value} {v:Value} (hg:Zf ops S g=some true) (hd:Zn n dst=true) (hx:ev S x=some (.tuple vs.toArray)) (hi:vs[ix]? = some v) (h:K v D B L):opX P n ops i ⟨dst,.extract x ix,ty,pos,after,g⟩ K S D B L:=
  Zw hg hd (fun ρ hρ Q F q=>by simp only [execOp,Instr.extract,hρ x _ hx,List.getElem?_toArray,hi,Zi,Zm];exact q) h
theorem ZkI {x:Operand} {b:Bool} {t:TypeId} (hg:Zf ops S g=some true) (hd:Zn n dst=true) (hx:ev S x=some (.bool b)) (h:K (.bool (!b)) D B L):opX P n ops i ⟨dst,.unOp .not t x,ty,pos,after,g⟩ K S D B L:=
  Zw hg hd (fun ρ hρ Q F q=>by simp only [execOp,hρ x _ hx,Op.unary,Zi,Zm];exact q) h
theorem Zd1 {x:Operand} {a:Addr} (hg:Zf ops S g=some true) (hd:Zn n dst=true) (hx:ev S x=some (.pointer (some a))) (h:K (.pointer (some a)) D B L):opX P n ops i ⟨dst,.nilCheck x,ty,pos,after,g⟩ K S D B L:=
  Zw hg hd (fun ρ hρ Q F q=>by simp only [execOp,hρ x _ hx,Zm];exact q) h
theorem ZM {op:BinOp} {t:TypeId} {x y:Operand} {a b:Value} {Q:Unit→Kn→Cells→Prop} {L:Cells} (ha:(match a,b with | .nilIface,.nilIface=>false | .agg _,.agg _=>false | _,_=>true)=true):hb P (eqGuard op t x y a b) Q B L=Q () B L:=by
  unfold eqGuard
  cases a <;> cases b <;> simp only [Bool.false_eq_true] at ha <;> cases op <;> rfl
section binary
variable {t u:TypeId} {x y:Operand} {k:IntKind} {a b r:Int}
theorem ZhB {op:BinOp} (hg:Zf ops S g=some true) (hd:Zn n dst=true) (hx:ev S x=some (.int k a)) (hy:ev S y=some (.int k b))
    (hr:(match op with | .add=>some (k.wrap (a+b)) | .sub=>some (k.wrap (a - b)) | .mul=>some (k.wrap (a*b)) | _=>none)=some r) (h:K (.int k r) D B L):opX P n ops i ⟨dst,.binOp op t x y u,ty,pos,after,g⟩ K S D B L:=
  Zw hg hd (fun ρ hρ Q F q=>by
    cases op <;> simp only [Option.some.injEq,reduceCtorEq] at hr <;> subst hr <;>
      (simp only [execOp,hρ x _ hx,hρ y _ hy,Zi,ZM,binOp,ne_eq,not_true_eq_false,if_false,Op.intArith,Zm];exact q)) h
theorem Zes (hg:Zf ops S g=some true) (hd:Zn n dst=true) (hx:ev S x=some (.int k a)) (hy:ev S y=some (.int k b)) (hr:k.wrap (a+b)=r) (h:K (.int k r) D B L):opX P n ops i ⟨dst,.binOp .add t x y u,ty,pos,after,g⟩ K S D B L:=
  ZhB hg hd hx hy (by rw [hr]) h
theorem Zhv (hg:Zf ops S g=some true) (hd:Zn n dst=true) (hx:ev S x=some (.int k a)) (hy:ev S y=some (.int k b)) (hr:k.wrap (a - b)=r) (h:K (.int k r) D B L):opX P n ops i ⟨dst,.binOp .sub t x y u,ty,pos,after,g⟩ K S D B L:=
  ZhB hg hd hx hy (by rw [hr]) h
theorem Zlt (hg:Zf ops S g=some true) (hd:Zn n dst=true) (hx:ev S x=some (.int k a)) (hy:ev S y=some (.int k b)) (h0:b≠0) (hr:k.wrap (a.tdiv b)=r) (h:K (.int k r) D B L):opX P n ops i ⟨dst,.binOp .quo t x y u,ty,pos,after,g⟩ K S D B L:=
  Zw hg hd (fun ρ hρ Q F q=>by
    simp only [execOp,hρ x _ hx,hρ y _ hy,Zi,ZM,binOp,ne_eq,not_true_eq_false,if_false,Op.intDiv,h0,Zm,hr];exact q) h
theorem Zls (hg:Zf ops S g=some true) (hd:Zn n dst=true) (hx:ev S x=some (.int k a)) (hy:ev S y=some (.int k b)) (h0:b≠0) (hr:a.tmod b=r) (h:K (.int k r) D B L):opX P n ops i ⟨dst,.binOp .rem t x y u,ty,pos,after,g⟩ K S D B L:=
  Zw hg hd (fun ρ hρ Q F q=>by
    simp only [execOp,hρ x _ hx,hρ y _ hy,Zi,ZM,binOp,ne_eq,not_true_eq_false,if_false,Op.intDiv,h0,Zm,hr];exact q) h
theorem ZkL (hg:Zf ops S g=some true) (hd:Zn n dst=true) (hx:ev S x=some (.int k a)) (hy:ev S y=some (.int k b)) (h:K (.bool (decide (a<b))) D B L):opX P n ops i ⟨dst,.binOp .lss t x y u,ty,pos,after,g⟩ K S D B L:=
  Zw hg hd (fun ρ hρ Q F q=>by simp only [execOp,hρ x _ hx,hρ y _ hy,Zi,ZM,binOp,ne_eq,not_true_eq_false,if_false,Op.intCmp,Zm];exact q) h
theorem ZkN (hg:Zf ops S g=some true) (hd:Zn n dst=true) (hx:ev S x=some (.int k a)) (hy:ev S y=some (.int k b)) (h:K (.bool (decide (a≤b))) D B L):opX P n ops i ⟨dst,.binOp .leq t x y u,ty,pos,after,g⟩ K S D B L:=
  Zw hg hd (fun ρ hρ Q F q=>by simp only [execOp,hρ x _ hx,hρ y _ hy,Zi,ZM,binOp,ne_eq,not_true_eq_false,if_false,Op.intCmp,Zm];exact q) h
theorem ZkQ (hg:Zf ops S g=some true) (hd:Zn n dst=true) (hx:ev S x=some (.int k a)) (hy:ev S y=some (.int k b)) (h:K (.bool (decide (b<a))) D B L):opX P n ops i ⟨dst,.binOp .gtr t x y u,ty,pos,after,g⟩ K S D B L:=
  Zw hg hd (fun ρ hρ Q F q=>by simp only [execOp,hρ x _ hx,hρ y _ hy,Zi,ZM,binOp,ne_eq,not_true_eq_false,if_false,Op.intCmp,Zm];exact q) h
theorem ZkR (hg:Zf ops S g=some true) (hd:Zn n dst=true) (hx:ev S x=some (.int k a)) (hy:ev S y=some (.int k b)) (h:K (.bool (decide (b≤a))) D B L):opX P n ops i ⟨dst,.binOp .geq t x y u,ty,pos,after,g⟩ K S D B L:=
  Zw hg hd (fun ρ hρ Q F q=>by simp only [execOp,hρ x _ hx,hρ y _ hy,Zi,ZM,binOp,ne_eq,not_true_eq_false,if_false,Op.intCmp,Zm];exact q) h
theorem ZjI (hg:Zf ops S g=some true) (hd:Zn n dst=true) (hx:ev S x=some (.int k a)) (hy:ev S y=some (.int k b)) (h:K (.bool (decide (a=b))) D B L):opX P n ops i ⟨dst,.binOp .eql t x y u,ty,pos,after,g⟩ K S D B L:=
  Zw hg hd (fun ρ hρ Q F q=>by
    have e:(a == b)=decide (a=b):=by rw [Bool.eq_iff_iff];simp
    simp only [execOp,hρ x _ hx,hρ y _ hy,Zi,ZM,binOp,ne_eq,not_true_eq_false,if_false,Op.intCmp,Zm,e];exact q) h
theorem ZjD (hg:Zf ops S g=some true) (hd:Zn n dst=true) (hx:ev S x=some (.int k a)) (hy:ev S y=some (.int k b)) (h:K (.bool (decide (a≠b))) D B L):opX P n ops i ⟨dst,.binOp .neq t x y u,ty,pos,after,g⟩ K S D B L:=
  Zw hg hd (fun ρ hρ Q F q=>by
    have e:(a != b)=decide (a≠b):=by rw [Bool.eq_iff_iff];simp
    simp only [execOp,hρ x _ hx,hρ y _ hy,Zi,ZM,binOp,not_true_eq_false,ne_eq,if_false,Op.intCmp,Zm,e];exact q) h
end binary
end
end Go.BL
namespace Go.BL
open Go.Conc (G)
set_option linter.unusedVariables false
section
variable {P:PJ} {n:Nat} {ops:Array Oper} {i:Nat} {K:Z6} {S:Env} {D:List Deferred} {B:Kn} {L:List Cells}
variable {dst:Option Tmp} {ty:TypeId} {pos:String} {after:Array Edge} {g:Option (Nat × Bool)}
theorem ZbM (L:List Cells) (s F:Cells):(s ++ (L.flatten ++ F)).Perm ((L ++ [s]).flatten ++ F):=by
  simp only [List.flatten_append,List.flatten_cons,List.flatten_nil,List.append_nil,List.append_assoc]
  exact List.perm_append_comm_assoc s L.flatten F
theorem Zj6 {t:TypeId} {z:Value} {l:List Value} (hg:Zf ops S g=some true) (hd:Zn n dst=true) (hz:Zaj P t=some z) (hl:z.cells=l.toArray)
    (h :∀b,K (ptr ⟨b,0,none⟩) D B (L ++ [ZaB b l t])):opX P n ops i ⟨dst,.alloc t,ty,pos,after,g⟩ K S D B L:=
  Zdk hg hd fun ρ hρ F=>by
    simp only [execOp,Instr.alloc,Zi,ZaT hz,Zm]
    refine ⟨rfl,fun b _ _=>?_⟩
    refine ⟨L ++ [ZaB b l t],?_,h b⟩
    rw [hl]
    exact .of (ZbM L (ZaB b l t) F)
theorem Zlv {t:TypeId} {x:Operand} {v:Value} {l:List Value} (hg:Zf ops S g=some true) (hd:Zn n dst=true) (hx:ev S x=some v) (hl:v.cells=l.toArray)
    (h :∀b,K (ptr ⟨b,0,none⟩) D B (L ++ [ZaB b l t])):opX P n ops i ⟨dst,.box t x,ty,pos,after,g⟩ K S D B L:=
  Zdk hg hd fun ρ hρ F=>by
    simp only [execOp,Instr.box,Zi,hρ x _ hx,Zm]
    refine ⟨rfl,fun b _ _=>?_⟩
    refine ⟨L ++ [ZaB b l t],?_,h b⟩
    rw [hl]
    exact .of (ZbM L (ZaB b l t) F)
theorem Zq {t:TypeId} {x:Operand} {a:Addr} {v:Value} (hg:Zf ops S g=some true) (hd:Zn n dst=true) (hl:lk P t=some none) (hx:ev S x=some (ptr a)) (hc:At B L a v)
    (h:K v D B L):opX P n ops i ⟨dst,.load t x,ty,pos,after,g⟩ K S D B L:=
  Zw hg hd (fun ρ hρ Q F q=>by
    simp only [execOp,Instr.loadAt,Instr.sureAddr,hρ x _ hx,Zi,Zm]
    exact Zdz hl hc.app q) h
theorem Zak {t:TypeId} {x:Operand} {a:Addr} (vs:List Value) (hg:Zf ops S g=some true) (hd:Zn n dst=true) (hl:lk P t=some (some vs.length)) (hx:ev S x=some (ptr a)) (hc:Zjr B L a vs)
    (h:K (.agg vs.toArray) D B L):opX P n ops i ⟨dst,.load t x,ty,pos,after,g⟩ K S D B L:=
  Zw hg hd (fun ρ hρ Q F q=>by
    simp only [execOp,Instr.loadAt,Instr.sureAddr,hρ x _ hx,Zi,Zm]
    exact Zdy hl (fun j v hj=>(hc j v hj).app) q) h
theorem Zc7 {s:TypeId} {x:Operand} {fi off:Nat} {a:Addr} (hg:Zf ops S g=some true) (hd:Zn n dst=true) (hf:Zu P s fi=some off) (hx:ev S x=some (ptr a))
    (h:K (ptr (a.add off)) D B L):opX P n ops i ⟨dst,.fieldAddr s x fi,ty,pos,after,g⟩ K S D B L:=
  Zw hg hd (fun ρ hρ Q F q=>by
    unfold Zu at hf
    split at hf
    · rename_i fs hu
      split at hf
      · rename_i f hfi
        split at hf
        · rename_i j hj
          split at hf
          · cases hf
          · rename_i hsz
            simp only [Option.some.injEq] at hf
            have hs:ZL P f.type=some j.size:=by simp [ZL,hj]
            simp only [execOp,Instr.fieldAt,Instr.sureAddr,hρ x _ hx,Zi,Zm,Zo hu,hfi,fieldPlace,Z0 hs,hsz,if_false,hf]
            exact q
        · cases hf
      · cases hf
    · cases hf) h
theorem Zb5 {t:TypeId} {x y:Operand} {a:Addr} {v:Value} (vs:List Value) {l:List Value} {T:TypeId} {r:Cells} (j:Nat) (l':List Value) (hg:Zf ops S g=some true) (hd:Zn n dst=true) (hsz:ZL P t=some vs.length)
    (hx:ev S x=some (ptr a)) (hy:ev S y=some v) (hv:v.cells=vs.toArray) (ho:vs.all Zc0=true) (hj:L[j]? = some ((a.block,.cells l.toArray T (0,0)) :: r)) (hs:a.spot=none) (hlen:Nat.ble (a.off+vs.length) l.length=true) (hl':ZV l a.off vs=l')
    (h:K undef D B (L.set j ((a.block,.cells l'.toArray T (0,0)) :: r))):opX P n ops i ⟨dst,.store t x y,ty,pos,after,g⟩ K S D B L:=
  Zdk hg hd fun ρ hρ F=>by
    obtain ⟨rr,h1,h2⟩:=Zae F ((a.block,.cells l'.toArray T (0,0)) :: r) hj
    have hcs:v.cells.size=vs.length:=by rw [hv];simp
    simp only [execOp,Instr.storeAt,Instr.sureAddr,hρ x _ hx,hρ y _ hy,Zi,Zm,storeVar,Z0 hsz,hcs,ne_eq,not_true_eq_false,if_false]
    rw [hv]
    refine Zbt (T:=T) (L₁:=r ++ rr) hs vs 0 l _ ho (by simpa using h1) (by simpa using Nat.le_of_ble_eq_true hlen) fun L' hp=>?_
    refine ⟨_,?_,h⟩
    rw [Nat.add_zero,hl'] at hp
    exact .of (hp.trans (by simpa using h2.symm))
theorem Z5 {k:IntKind} {a:Int} {y:Nat} {code:BoundsCode} {Q:Nat→Kn→Cells→Prop} {L:Cells} (h0:0≤a) (h1:a≤y):hb P (Instr.sliceBound (.int k a) y code) Q B L=Q a.toNat B L:=by
  simp only [Instr.sliceBound,asIntOf,Zi,Zm,h0,h1,and_self,if_true]
theorem Zb6 {t e:TypeId} {x y:Operand} {k:IntKind} {a:Addr} {len cap sz:Nat} {ix:Int} (hg:Zf ops S g=some true) (hd:Zn n dst=true) (hu:P.underlying t=some (.slice e)) (hsz:ZL P e=some sz)
    (hx:ev S x=some (.slice (some a) len cap)) (hy:ev S y=some (.int k ix)) (h0:0≤ix) (h1:ix<len) (h:K (ptr (a.add (ix.toNat*sz))) D B L):opX P n ops i ⟨dst,.indexAddr t x y,ty,pos,after,g⟩ K S D B L:=
  Zw hg hd (fun ρ hρ Q F q=>by
    simp only [execOp,Instr.indexAt,asIntOf,hρ x _ hx,hρ y _ hy,Zi,Zm,Zo hu,h0,h1,and_self,if_true,Z0 hsz]
    exact q) h
theorem Zjl (l:List UInt8) (j:Nat):(ByteArray.mk l.toArray)[j]? = l[j]?:=by
  show (if h:j<(ByteArray.mk l.toArray).size then some ((ByteArray.mk l.toArray)[j]) else none)=_
  have hs:(ByteArray.mk l.toArray).size=l.length:=by simp [ByteArray.size]
  by_cases h:j<l.length
  · rw [dif_pos (by rw [hs];exact h),List.getElem?_eq_getElem h];rfl
  · rw [dif_neg (by rw [hs];exact h),List.getElem?_eq_none (by omega)]
theorem ZaX (l:List UInt8):(ByteArray.mk l.toArray).size=l.length:=by simp [ByteArray.size]
theorem Zbp (l:List UInt8) (a b:Nat):(ByteArray.mk l.toArray).extract a b=⟨((l.take b).drop a).toArray⟩:=by
  apply ByteArray.ext
  apply Array.ext'
  rw [ByteArray.data_extract]
  simp [List.extract_eq_take_drop,List.drop_take]
theorem ZgY (a b:List UInt8):(ByteArray.mk a.toArray) ++ (ByteArray.mk b.toArray)=⟨(a ++ b).toArray⟩:=by
  apply ByteArray.ext
  simp
theorem Zbm {t:TypeId} {x y:Operand} {k:IntKind} {l:List UInt8} {ix:Int} {c:UInt8} (hg:Zf ops S g=some true) (hd:Zn n dst=true) (hu:P.underlying t=some .string)
    (hx:ev S x=some (str l)) (hy:ev S y=some (.int k ix)) (h0:0≤ix) (h1:l[ix.toNat]? = some c) (h:K (.int .u8 c.toNat) D B L):opX P n ops i ⟨dst,.index t x y,ty,pos,after,g⟩ K S D B L:=
  Zw hg hd (fun ρ hρ Q F q=>by
    simp only [execOp,Instr.index,asIntOf,hρ x _ hx,hρ y _ hy,Zi,Zm,Zo hu,h0,if_true,Zjl,h1]
    exact q) h
theorem Zch {t:TypeId} {x:Operand} {lo hi:Option Operand} {l:List UInt8} {a b:Nat} (hg:Zf ops S g=some true) (hd:Zn n dst=true) (hu:P.underlying t=some .string)
    (hx:ev S x=some (str l)) (hlo:match lo with | none=>a=0 | some o=>∃k,∃z:Int,ev S o=some (.int k z)∧z=a) (hhi:match hi with | none=>b=l.length | some o=>∃k,∃z:Int,ev S o=some (.int k z)∧z=b) (hab:a≤b) (hb':b≤l.length)
    (h:K (str ((l.take b).drop a)) D B L):opX P n ops i ⟨dst,.slice t x lo hi none,ty,pos,after,g⟩ K S D B L:=
  Zw hg hd (fun ρ hρ Q F q=>by
    have e1:(ZaX l)=ZaX l:=rfl
    cases lo with
    | none=>
      obtain rfl:a=0:=hlo
      cases hi with
      | none=>
        obtain rfl:b=l.length:=hhi
        simp only [execOp,Instr.sliceAt,Instr.slice,hρ x _ hx,Zi,Zm,Zo hu,Option.map_none,Option.isSome_none,Bool.false_eq_true,if_false,Instr.sliceBounds,ZaX,Zbp]
        exact q
      | some o=>
        obtain ⟨k,z,hz,rfl⟩:=hhi
        simp only [execOp,Instr.sliceAt,Instr.slice,hρ x _ hx,hρ o _ hz,Zi,Zm,Zo hu,Option.map_none,Option.map_some,Option.isSome_none,Bool.false_eq_true,if_false,Instr.sliceBounds,ZaX,Zbp]
        rw [Z5 (by omega) (by omega)]
        simp only [Zi,Zm,Int.toNat_natCast]
        exact q
    | some p=>
      obtain ⟨k',y,hy,rfl⟩:=hlo
      cases hi with
      | none=>
        obtain rfl:b=l.length:=hhi
        simp only [execOp,Instr.sliceAt,Instr.slice,hρ x _ hx,hρ p _ hy,Zi,Zm,Zo hu,Option.map_none,Option.map_some,Option.isSome_none,Bool.false_eq_true,if_false,Instr.sliceBounds,ZaX,Zbp]
        rw [Z5 (by omega) (by omega)]
        simp only [Zi,Zm,Int.toNat_natCast]
        exact q
      | some o=>
        obtain ⟨k,z,hz,rfl⟩:=hhi
        simp only [execOp,Instr.sliceAt,Instr.slice,hρ x _ hx,hρ o _ hz,hρ p _ hy,Zi,Zm,Zo hu,Option.map_none,Option.map_some,Option.isSome_none,Bool.false_eq_true,if_false,Instr.sliceBounds,ZaX,Zbp]
        rw [Z5 (by omega) (by omega)]
        simp only [Zi,Int.toNat_natCast]
        rw [Z5 (by omega) (by omega)]
        simp only [Zi,Zm,Int.toNat_natCast]
        exact q) h
theorem ZiL {t e:TypeId} {x:Operand} {lo hi:Option Operand} {p:Option Addr} {len cap sz:Nat} {a b:Nat} (hg:Zf ops S g=some true) (hd:Zn n dst=true) (hu:P.underlying t=some (.slice e)) (hsz:ZL P e=some sz)
    (hx:ev S x=some (.slice p len cap)) (hlo:match lo with | none=>a=0 | some o=>∃k,∃z:Int,ev S o=some (.int k z)∧z=a) (hhi:match hi with | none=>b=len | some o=>∃k,∃z:Int,ev S o=some (.int k z)∧z=b) (hab:a≤b) (hb':b≤cap)
    (h:K (.slice (if cap=a then p else p.map (·.add (a*sz))) (b - a) (cap - a)) D B L):opX P n ops i ⟨dst,.slice t x lo hi none,ty,pos,after,g⟩ K S D B L:=
  Zw hg hd (fun ρ hρ Q F q=>by
    cases lo with
    | none=>
      obtain rfl:a=0:=hlo
      cases hi with
      | none=>
        obtain rfl:b=len:=hhi
        simp only [execOp,Instr.sliceAt,Instr.slice,hρ x _ hx,Zi,Zm,Zo hu,Option.map_none,Instr.sliceBounds,Z0 hsz]
        exact q
      | some o=>
        obtain ⟨k,z,hz,rfl⟩:=hhi
        simp only [execOp,Instr.sliceAt,Instr.slice,hρ x _ hx,hρ o _ hz,Zi,Zm,Zo hu,Option.map_none,Option.map_some,Instr.sliceBounds,Z0 hsz]
        rw [Z5 (by omega) (by omega)]
        simp only [Zi,Zm,Int.toNat_natCast,Z0 hsz]
        exact q
    | some r=>
      obtain ⟨k',y,hy,rfl⟩:=hlo
      cases hi with
      | none=>
        obtain rfl:b=len:=hhi
        simp only [execOp,Instr.sliceAt,Instr.slice,hρ x _ hx,hρ r _ hy,Zi,Zm,Zo hu,Option.map_none,Option.map_some,Instr.sliceBounds,Z0 hsz]
        rw [Z5 (by omega) (by omega)]
        simp only [Zi,Zm,Int.toNat_natCast,Z0 hsz]
        exact q
      | some o=>
        obtain ⟨k,z,hz,rfl⟩:=hhi
        simp only [execOp,Instr.sliceAt,Instr.slice,hρ x _ hx,hρ o _ hz,hρ r _ hy,Zi,Zm,Zo hu,Option.map_none,Option.map_some,Instr.sliceBounds,Z0 hsz]
        rw [Z5 (by omega) (by omega)]
        simp only [Zi,Int.toNat_natCast]
        rw [Z5 (by omega) (by omega)]
        simp only [Zi,Zm,Int.toNat_natCast,Z0 hsz]
        exact q) h
section calls
variable {args:Array Operand} {ats:Array TypeId}
theorem ZjF {x:Operand} {t:TypeId} {l:List UInt8} (hg:Zf ops S g=some true) (hd:Zn n dst=true) (hu:P.underlying t=some .string) (hx:ev S x=some (str l)) (h:K (.int .i64 l.length) D B L) :
    opX P n ops i ⟨dst,.call ⟨.builtin .len,#[x],#[t]⟩,ty,pos,after,g⟩ K S D B L:=
  Zw hg hd (fun ρ hρ Q F q=>by
    simp only [execOp,resolve,Zi,Zm,invoke,builtin,Builtin.len_,List.map_toArray,List.map_cons,List.map_nil,hρ x _ hx,List.getElem?_toArray,List.getElem?_cons_zero,Zo hu,goInt,ZaX]
    exact q) h
theorem ZkO {x:Operand} {t e:TypeId} {p:Option Addr} {len cap:Nat} (hg:Zf ops S g=some true) (hd:Zn n dst=true) (hu:P.underlying t=some (.slice e)) (hx:ev S x=some (.slice p len cap)) (h:K (.int .i64 len) D B L) :
    opX P n ops i ⟨dst,.call ⟨.builtin .len,#[x],#[t]⟩,ty,pos,after,g⟩ K S D B L:=
  Zw hg hd (fun ρ hρ Q F q=>by
    simp only [execOp,resolve,Zi,Zm,invoke,builtin,Builtin.len_,List.map_toArray,List.map_cons,List.map_nil,hρ x _ hx,List.getElem?_toArray,List.getElem?_cons_zero,Zo hu,goInt]
    exact q) h
end calls
section strings
variable {t u:TypeId} {x y:Operand} {a b:List UInt8}
theorem ZkU (hg:Zf ops S g=some true) (hd:Zn n dst=true) (hx:ev S x=some (str a)) (hy:ev S y=some (str b)) (hlen:a.length+b.length≤9223372036854775807) (h:K (str (a ++ b)) D B L):opX P n ops i ⟨dst,.binOp .add t x y u,ty,pos,after,g⟩ K S D B L:=
  Zw hg hd (fun ρ hρ Q F q=>by
    have hno : ¬ ((((ByteArray.mk a.toArray).size+(ByteArray.mk b.toArray).size:Nat):Int) > IntKind.i64.max):=by
      rw [ZaX,ZaX];simp only [IntKind.max,IntKind.signed,IntKind.bits];omega
    simp only [execOp,hρ x _ hx,hρ y _ hy,Zi,ZM,binOp,Op.stringOp,hno,if_false,Zm,ZgY]
    exact q) h
theorem ZjH (hg:Zf ops S g=some true) (hd:Zn n dst=true) (hx:ev S x=some (str a)) (hy:ev S y=some (str b)) (h:K (.bool (decide (a=b))) D B L):opX P n ops i ⟨dst,.binOp .eql t x y u,ty,pos,after,g⟩ K S D B L:=
  Zw hg hd (fun ρ hρ Q F q=>by
    have e:(a == b)=decide (a=b):=by rw [Bool.eq_iff_iff];simp
    simp only [execOp,hρ x _ hx,hρ y _ hy,Zi,ZM,binOp,Op.stringOp,ByteArray.toList_mk,Zm,e]
    exact q) h
theorem ZjC (hg:Zf ops S g=some true) (hd:Zn n dst=true) (hx:ev S x=some (str a)) (hy:ev S y=some (str b)) (h:K (.bool (decide (a≠b))) D B L):opX P n ops i ⟨dst,.binOp .neq t x y u,ty,pos,after,g⟩ K S D B L:=
  Zw hg hd (fun ρ hρ Q F q=>by
    have e:(!(a == b))=decide (a≠b):=by rw [Bool.eq_iff_iff];simp
    simp only [execOp,hρ x _ hx,hρ y _ hy,Zi,ZM,binOp,Op.stringOp,ByteArray.toList_mk,Zm,e]
    exact q) h
theorem ZkM (hg:Zf ops S g=some true) (hd:Zn n dst=true) (hx:ev S x=some (str a)) (hy:ev S y=some (str b)) (h:K (.bool (Op.bytesLess a b || decide (a=b))) D B L):opX P n ops i ⟨dst,.binOp .leq t x y u,ty,pos,after,g⟩ K S D B L:=
  Zw hg hd (fun ρ hρ Q F q=>by
    have e:(a == b)=decide (a=b):=by rw [Bool.eq_iff_iff];simp
    simp only [execOp,hρ x _ hx,hρ y _ hy,Zi,ZM,binOp,Op.stringOp,ByteArray.toList_mk,Zm,e]
    exact q) h
theorem ZkK (hg:Zf ops S g=some true) (hd:Zn n dst=true) (hx:ev S x=some (str a)) (hy:ev S y=some (str b)) (h:K (.bool (Op.bytesLess a b)) D B L):opX P n ops i ⟨dst,.binOp .lss t x y u,ty,pos,after,g⟩ K S D B L:=
  Zw hg hd (fun ρ hρ Q F q=>by
    simp only [execOp,hρ x _ hx,hρ y _ hy,Zi,ZM,binOp,Op.stringOp,ByteArray.toList_mk,Zm]
    exact q) h
theorem ZjG (hg:Zf ops S g=some true) (hd:Zn n dst=true) (hx:ev S x=some (str a)) (hy:ev S y=some (str b)) (h:K (.bool (!Op.bytesLess a b)) D B L):opX P n ops i ⟨dst,.binOp .geq t x y u,ty,pos,after,g⟩ K S D B L:=
  Zw hg hd (fun ρ hρ Q F q=>by
    simp only [execOp,hρ x _ hx,hρ y _ hy,Zi,ZM,binOp,Op.stringOp,ByteArray.toList_mk,Zm]
    exact q) h
end strings
theorem Zz {K:ZR} {o:Oper} {l:List Oper} {d:Nat} {t:Bool} (hb:get S d=some (.bool t)) (h1:t=true→ZiF P n ops i (o :: l) K ((d,.bool true) :: S) D B L) (h2:t=false→ZiF P n ops i (o :: l) K ((d,.bool false) :: S) D B L):ZiF P n ops i (o :: l) K S D B L:=by
  have key :∀(S':Env),(∀i v,get S' i=some v→get S i=some v)→ZiF P n ops i (o :: l) K S' D B L→ZiF P n ops i (o :: l) K S D B L:=
    fun S' hs h C todo k T ho hn hT hA=>h C todo k T ho hn (fun i v hv=>hT i v (hs i v hv)) hA
  have get_same :∀(u:Bool),t=u→∀i v,get ((d,Value.bool u) :: S) i=some v→get S i=some v:=by
    intro u hu i v hv
    simp only [get] at hv
    cases hbe:Nat.beq d i with
    | true=>
      rw [hbe] at hv
      simp only [cond_true,Option.some.injEq] at hv
      have:=Nat.eq_of_beq_eq_true hbe
      subst this;subst hu;rw [hb,← hv]
    | false=>rw [hbe] at hv;exact hv
  cases t with
  | true=>exact key _ (get_same true rfl) (h1 rfl)
  | false=>exact key _ (get_same false rfl) (h2 rfl)
end
end Go.BL
namespace Go.BL
open Go.Conc (G)
set_option linter.unusedVariables false
def Bk (kind:CallKind) (c:Frame):Prop:=kind = .normal∨(kind = .deferred∧(c.mode = .returning∨c.mode = .panicking [goexitEntry]))
def ZcW (kind:CallKind) (c:Frame) (v:Value):Frame:=match kind with | .deferred=>c | _=>c.finish v
def ZT (P:PJ) (f:FuncId) (args:List Value) (B:Kn) (Ls:List Cells) (Post:Value→Kn→List Cells→Prop):Prop:=
∀(X:Lg P) (kind:CallKind) (c:Frame) (cs:List Frame) (F:Cells),Bk kind c→
    (∀v B' Ls',B.le B'→Post v B' Ls'→X.R (G (ZcW kind c v) cs) B' (Ls'.flatten ++ F))→X.R (G (Frame.enter P f args.toArray kind) (c :: cs)) B (Ls.flatten ++ F)
theorem ZT.mono {P:PJ} {f:FuncId} {args:List Value} {B:Kn} {Ls:List Cells} {Post Post':Value→Kn→List Cells→Prop} (h:ZT P f args B Ls Post) (hp :∀v B' Ls',B.le B'→Post v B' Ls'→Post' v B' Ls'):ZT P f args B Ls Post':=
  fun X kind c cs F hk hA=>h X kind c cs F hk fun v B' Ls' hle hq=>hA v B' Ls' hle (hp v B' Ls' hle hq)
def ZdL:List Value→Nat→Env
  | [],_=>[]
  | v :: vs,i=>(i,v) :: ZdL vs (i+1)
theorem ZcN :∀(vs:List Value) (i j:Nat) (v:Value),get (ZdL vs i) j=some v→i≤j∧vs[j - i]? = some v
  | [],i,j,v,h=>by cases h
  | u :: vs,i,j,v,h=>by
    simp only [ZdL,get] at h
    cases hb:Nat.beq i j with
    | true=>
      rw [hb] at h
      have:=Nat.eq_of_beq_eq_true hb
      subst this
      simp only [cond_true,Option.some.injEq] at h
      exact ⟨Nat.le_refl _,by simp [h]⟩
    | false=>
      rw [hb] at h
      obtain ⟨h1,h2⟩:=ZcN vs (i+1) j v h
      refine ⟨by omega,?_⟩
      rw [show j - i=(j - (i+1))+1 from by omega]
      simpa using h2
def ZhV (P:Program) (S:Env) (B:Kn) (L:List Cells):ResultVar→Value→Prop
  | .tmp t,v=>get S t=some v
  | .cell a t,v=>∃ad,get S a=some (ptr ad)∧((lk P t=some none∧At B L ad v)∨∃vs:List Value,lk P t=some (some vs.length)∧Zjr B L ad vs∧v = .agg vs.toArray)
def Zco (P:Program) (S:Env) (B:Kn) (L:List Cells):List ResultVar→List Value→Prop
  | [],[]=>True
  | r :: rs,v :: vs=>ZhV P S B L r v∧Zco P S B L rs vs
  | _,_=>False
def Zby:List Value→Value
  | [v]=>v
  | vs=>.tuple vs.toArray
theorem ZhU {P:Program} {T:Array Value} {S:Env} {B:Kn} {L:List Cells} {F:Cells} (hT:Ag T S) {r:ResultVar} {v:Value} (h:ZhV P S B L r v) {Q:Value→Kn→Cells→Prop} (q:Q v B (L.flatten ++ F)) :
    hb P (match r with | .tmp t=>Pure.pure (T.getD t undef) | .cell a t=>do loadVar t (← asAddr (T.getD a undef))) Q B (L.flatten ++ F):=by
  cases r with
  | tmp t=>
    have:=hT t v h
    simp only [Zm,Array.getD_eq_getD_getElem?,this,Option.getD_some]
    exact q
  | cell a t=>
    obtain ⟨ad,ha,h⟩:=h
    have:=hT a _ ha
    simp only [Zi,Array.getD_eq_getD_getElem?,this,Option.getD_some,asAddr,Zm]
    rcases h with ⟨hl,hc⟩ | ⟨vs,hl,hc,rfl⟩
    · exact Zdz hl hc.app q
    · exact Zdy hl (fun j v hj=>(hc j v hj).app) q
theorem Zij {P:Program} {α β:Type} {f:α→Sem β} {B:Kn} {L:Cells} {Q:List β→Kn→Cells→Prop} :∀(xs:List α) (ys:List β),xs.length=ys.length→
    (∀(i:Nat) (x:α) (y:β),xs[i]? = some x→ys[i]? = some y→∀Q:β→Kn→Cells→Prop,Q y B L→hb P (f x) Q B L)→Q ys B L→hb P (xs.mapM f) Q B L
  | [],[],_,_,q=>by rw [List.mapM_nil];exact q
  | x :: xs,y :: ys,hl,h,q=>by
    rw [List.mapM_cons,Zi]
    refine h 0 x y (by simp) (by simp) _ ?_
    rw [Zi]
    refine Zij xs ys (by simpa using hl) (fun i x y hx hy=>h (i+1) x y (by simpa using hx) (by simpa using hy)) ?_
    exact q
  | [],_ :: _,hl,_,_=>by cases hl
  | _ :: _,[],hl,_,_=>by cases hl
theorem Zd7 {P:Program} {S:Env} {B:Kn} {L:List Cells} :∀{rs:List ResultVar} {vs:List Value},Zco P S B L rs vs→rs.length=vs.length
  | [],[],_=>rfl
  | _ :: _,_ :: _,h=>by simp [Zd7 h.2]
  | [],_ :: _,h=>h.elim
  | _ :: _,[],h=>h.elim
theorem Zd8 {P:Program} {S:Env} {B:Kn} {L:List Cells} :∀{rs:List ResultVar} {vs:List Value},Zco P S B L rs vs→∀(i:Nat) (r:ResultVar) (v:Value),rs[i]? = some r→vs[i]? = some v→ZhV P S B L r v
  | [],[],_,i,r,v,hr,_=>by simp at hr
  | r :: rs,v :: vs,h,0,r',v',hr,hv=>by
    simp only [List.getElem?_cons_zero,Option.some.injEq] at hr hv
    subst hr;subst hv;exact h.1
  | r :: rs,v :: vs,h,i+1,r',v',hr,hv=>Zd8 h.2 i r' v' (by simpa using hr) (by simpa using hv)
  | [],_ :: _,h,_,_,_,_,_=>h.elim
  | _ :: _,[],h,_,_,_,_,_=>h.elim
theorem Zg5 {P:Program} {fn:Func} {T:Array Value} {S:Env} {B:Kn} {L:List Cells} {F:Cells} (hT:Ag T S) {vs:List Value} (h:Zco P S B L fn.results.toList vs) {Q:Value→Kn→Cells→Prop} (q:Q (Zby vs) B (L.flatten ++ F)) :
    hb P (results fn T) Q B (L.flatten ++ F):=by
  unfold results
  rw [Array.mapM_eq_mapM_toList]
  simp only [Zi,ZjR]
  refine Zij fn.results.toList vs (Zd7 h) (fun i r v hr hv Q q=>?_) ?_
  · have:=ZhU (F:=F) hT (Zd8 h i r v hr hv) q
    cases r <;> exact this
  · simp only [Zm]
    match vs,q with
    | [],q=>exact q
    | [v],q=>exact q
    | v :: u :: r,q=>exact q
def Ziz (P:PJ) (rs:List ResultVar) (Post:Value→Kn→List Cells→Prop):Exit→ZR:=fun e S D B L=>
  (e = .ret∨e = .normal)∧D=[]∧∃vs Lr,Zco P S B L rs vs∧(∃gl,L.flatten.Perm (Lr.flatten ++ gl))∧Post (Zby vs) B Lr
theorem Zgi {P:PJ} {main:Bool} {kind:CallKind} {fr c:Frame} {cs:List Frame} {v:Value} {w:World} (hk:Bk kind c) (hf:fr.kind=kind):doReturn P main fr (c :: cs) none v w = .go (G (ZcW kind c v) cs) w #[]:=by
  rcases hk with rfl | ⟨rfl,hm | hm⟩
  · simp [doReturn,hf,ZcW,G]
  · simp [doReturn,hf,ZcW,G,hm]
  · simp [doReturn,hf,ZcW,G,hm,goexitEntry]
theorem Zee {P:PJ} {X:Lg P} {f:FuncId} {fn:Func} (hf:P.funcs[f]? = some fn) {kind:CallKind} {c fr:Frame} {cs:List Frame} (hk:Bk kind c) (h1:fr.fn=f) (h2:fr.mode = .returning) (h3:fr.defers=[]) (h4:fr.kind=kind)
    {S:Env} {B:Kn} {L Lr:List Cells} {F:Cells} (hT:Ag fr.tmps S) {vs:List Value} (hr:Zco P S B L fn.results.toList vs) {gl:Cells} (hp:L.flatten.Perm (Lr.flatten ++ gl))
    (h:X.R (G (ZcW kind c (Zby vs)) cs) B (Lr.flatten ++ F)):X.R (G fr (c :: cs)) B (L.flatten ++ F):=by
  refine X.step rfl fun w s=>?_
  have hres:hb P (results fn fr.tmps) (fun v B' L'=>v=Zby vs∧B'=B∧L'=L.flatten ++ F) B (L.flatten ++ F):=Zg5 hT hr ⟨rfl,rfl,rfl⟩
  obtain ⟨a,w',es,B',L',e1,e2,e3,rfl,rfl,rfl⟩:=ZeK _ _ _ _ hres w #[] s
  obtain ⟨r1,r2⟩:=Zbr e1
  refine ⟨G (ZcW kind c (Zby vs)) cs,w',seen P fr.fn (#[] ++ es),B',L.flatten ++ F,?_,fun e he=>e2 e (by simpa using Zc3 he),e3,?_⟩
  · rw [← r2]
    have hd:doReturn P X.main fr (c :: cs) none (Zby vs) w' = .go (G (ZcW kind c (Zby vs)) cs) w' #[]:=Zgi hk h4
    simp [G,stepG,h2,unwind,h3,h1,hf,r1,GStep.after,hd]
  · exact X.drop (r:=Lr.flatten ++ F) (gl:=gl) ((hp.append_right F).trans (by rw [List.append_assoc,List.append_assoc];exact List.Perm.append_left _ List.perm_append_comm)) h
theorem Zb {P:PJ} {f:FuncId} {fn:Func} {code:Code} {rs:List ResultVar} (n:Nat) (hf:P.funcs[f]? = some fn) (hb:fn.body=some code) (hn:fn.ntmps=n) (hrs:fn.results.toList=rs) {args:List Value} (ha:args.length≤n) {B:Kn} {Ls:List Cells} {Post:Value→Kn→List Cells→Prop}
    (h:wpS P n code (Ziz P rs Post) (ZdL args 0) [] B Ls):ZT P f args B Ls Post:=fun X kind c cs F hk hA=>by
  have hke:kind≠.early:=by rcases hk with rfl | ⟨rfl,_⟩ <;> simp
  let b0:Frame:={ fn:=f,tmps:=#[],todo:=[],defers:=[],mode:=.run,kind:=kind }
  let T0:Array Value:=args.toArray ++ Array.replicate (n - args.length) undef
  have hen:Frame.enter P f args.toArray kind=fat b0 T0 [] [.code code]:=by
    simp [Frame.enter,fat,hf,hb,hn,b0,T0]
  rw [hen]
  have hT:Ag T0 (ZdL args 0):=fun i v hv=>by
    obtain ⟨_,h2⟩:=ZcN args 0 i v hv
    have hlt:=ZG (a:=args.toArray) (i:=i) (x:=v) (by simpa using h2)
    simp only [T0]
    rw [Array.getElem?_append_left hlt]
    simpa using h2
  refine h ⟨X,b0,c :: cs,F,hke⟩ [] T0 (by simp [T0];omega) hT fun e S' D' B' L' T' hle hq hn' hT'=>?_
  obtain ⟨he,rfl,vs,Lr,hr,⟨gl,hp⟩,hq⟩:=hq
  rw [← hrs] at hr
  rcases he with rfl | rfl
  · refine ⟨rfl,fun todo=>?_⟩
    exact Zee hf hk rfl rfl rfl rfl hT' hr hp (hA _ B' Lr hle hq)
  · exact X.ctl rfl (fun w=>ZjM rfl) (Zee hf hk rfl rfl rfl rfl hT' hr hp (hA _ B' Lr hle hq))
section
variable {P:PJ} {n:Nat} {ops:Array Oper} {i:Nat} {K:Z6} {S:Env} {D:List Deferred} {B:Kn} {L:List Cells}
variable {dst:Option Tmp} {ty:TypeId} {pos:String} {after:Array Edge} {g:Option (Nat × Bool)}
def enters (P:Program) (f:FuncId):Bool:=
  match P.funcs[f]? with
  | some fn=>fn.body.isSome && !(fn.name == "runtime.NumGoroutine")
  | none=>false
theorem Zgg {f:FuncId} {args:Array Value} (h:enters P f=true) {Q:Next→Kn→Cells→Prop} {L:Cells} (q:Q (.enter f args) B L):hb P (callFunc f args) Q B L:=by
  unfold enters at h
  split at h
  · rename_i fn hf
    simp only [Bool.and_eq_true,Bool.not_eq_true'] at h
    obtain ⟨h1,h2⟩:=h
    have h1':fn.body.isNone=false:=by cases hb:fn.body <;> simp_all
    simp only [callFunc,Zi,ZcI,hf,h2,h1',Bool.false_eq_true,if_false,Zm]
    exact q
  · cases h
theorem Zdl {o:Oper} {f:FuncId} {vs:List Value} (hg:Zf ops S o.guard=some true)
    (hv :∀ρ:Operand→Value,(∀x u,ev S x=some u→ρ x=u)→∀(Q:Next→Kn→Cells→Prop) F,Q (.enter f vs.toArray) B (L.flatten ++ F)→hb P (execOp ρ o) Q B (L.flatten ++ F))
    (hd:Zn n o.dst=true) {Ls Lk:List Cells} (hp:L.flatten.Perm (Ls.flatten ++ Lk.flatten)) {Post:Value→Kn→List Cells→Prop} (hc:ZT P f vs B Ls Post)
    (h :∀v B' Ls',B.le B'→Post v B' Ls'→∃L',(Ls'.flatten ++ Lk.flatten).Perm L'.flatten∧K v D B' L') (hnd:ZeG o.op=false:=by rfl):opX P n ops i o K S D B L:=⟨hd,fun C todo k T ho hn hT hA=>by
  refine C.X.step rfl fun w s=>?_
  obtain ⟨a,w',es,B',L',h1,h2,h3,rfl,rfl,rfl⟩:=ZeK _ _ _ _ (hv (evT T) (fun x v hx=>Ziq hT hx) (fun nx B' L'=>nx = .enter f vs.toArray∧B'=B∧L'=L.flatten ++ C.F) C.F ⟨rfl,rfl,rfl⟩) w #[] s
  simp only [Array.empty_append] at h1
  rw [ZhL hnd ho (Zbg hT hg)]
  have hk:(fat C.b T D (.inRegion ops (i :: todo) :: k)).kind≠.early:=C.early
  refine ⟨_,w',_,B',L.flatten ++ C.F,Zgk hk (by intro a b c d r;simp [fat]) h1,fun e he=>h2 e (Zc3 he),h3,?_⟩
  have hp':(L.flatten ++ C.F).Perm (Ls.flatten ++ (Lk.flatten ++ C.F)):=by rw [← List.append_assoc];exact hp.append_right _
  refine C.X.perm hp' (hc C.X .normal _ C.cs (Lk.flatten ++ C.F) (.inl rfl) fun v B₂ Ls' hle hq=>?_)
  obtain ⟨L₂,hp₂,hK⟩:=h v B₂ Ls' hle hq
  show C.X.R (G ((fat C.b T D (.inRegion ops (i :: todo) :: k)).finish v) C.cs) B₂ _
  rw [ZcL ho]
  refine C.X.perm ?_ (hA v D B₂ L₂ hle hK)
  rw [← List.append_assoc]
  exact hp₂.append_right _⟩
theorem ZaR {ρ:Operand→Value} (hρ :∀x u,ev S x=some u→ρ x=u) :∀{xs:List Operand} {vs:List Value},evs S xs=some vs→xs.map ρ=vs
  | [],vs,hx=>by simpa [evs] using hx
  | x :: r,vs,hx=>by
    simp only [evs] at hx
    cases h1:ev S x with
    | none=>rw [h1] at hx;cases hx
    | some v=>
      cases h2:evs S r with
      | none=>rw [h1,h2] at hx;cases hx
      | some us=>
        rw [h1,h2] at hx
        simp only [Option.some.injEq] at hx
        subst hx
        simp [hρ x v h1,ZaR hρ h2]
theorem ZeP {x:Operand} {f:FuncId} {first cap:Array Value} {xs:List Operand} {vs:List Value} {ats:Array TypeId} (he:enters P f=true) (hx:ev S x=some (.func (.func f) first cap)) (ha:evs S xs=some vs) :
∀ρ:Operand→Value,(∀x u,ev S x=some u→ρ x=u)→∀(Q:Next→Kn→Cells→Prop) F,Q (.enter f (first.toList ++ vs ++ cap.toList).toArray) B (L.flatten ++ F)→hb P (execOp ρ ⟨dst,.call ⟨.value x,xs.toArray,ats⟩,ty,pos,after,g⟩) Q B (L.flatten ++ F):=by
  intro ρ hρ Q F q
  simp only [execOp,resolve,hρ x _ hx,Deferred.ofValue,Zi,Zm,invoke]
  refine Zgg he ?_
  rw [List.map_toArray,ZaR hρ ha]
  have e:(first ++ vs.toArray) ++ cap=(first.toList ++ vs ++ cap.toList).toArray:=by apply Array.ext';simp
  rw [e]
  exact q
theorem Zci {f:FuncId} {xs:List Operand} {vs:List Value} {ats:Array TypeId} {Post:Value→Kn→List Cells→Prop} (hg:Zf ops S g=some true) (hd:Zn n dst=true) (he:enters P f=true) (ha:evs S xs=some vs) (hc:ZT P f vs B [] Post)
    (h :∀v B' Ls',B.le B'→Post v B' Ls'→K v D B' (L ++ Ls')):opX P n ops i ⟨dst,.call ⟨.value (.func f),xs.toArray,ats⟩,ty,pos,after,g⟩ K S D B L:=
  Zdl (o:=⟨dst,.call ⟨.value (.func f),xs.toArray,ats⟩,ty,pos,after,g⟩) (vs:=vs) hg (fun ρ hρ Q F q=>by
      have:=ZeP (P:=P) (B:=B) (L:=L) (dst:=dst) (ty:=ty) (pos:=pos) (after:=after) (g:=g) (x:=.func f) (first:=#[]) (cap:=#[]) (ats:=ats) he rfl ha ρ hρ Q F
      exact this (by simpa using q)) hd (Ls:=[]) (Lk:=L) (by simp) hc
    fun v B' Ls' hle hq=>⟨L ++ Ls',by simp only [List.flatten_append];exact List.perm_append_comm,h v B' Ls' hle hq⟩
theorem Zcr {L:List Cells} {j:Nat} {s:Cells} (hj:L[j]? = some s):L.flatten.Perm ([s].flatten ++ (L.set j []).flatten):=by
  obtain ⟨r,h1,h2⟩:=Zae [] [] hj
  simp only [List.append_nil,List.nil_append] at h1 h2
  simp only [List.flatten_cons,List.flatten_nil,List.append_nil]
  exact h1.trans (List.Perm.append_left s h2.symm)
theorem ZiT {L:List Cells} {j:Nat} {s s':Cells} (hj:L[j]? = some s):([s'].flatten ++ (L.set j []).flatten).Perm (L.set j s').flatten:=by
  obtain ⟨r,h1,h2⟩:=Zae [] s' hj
  obtain ⟨r',h1',h2'⟩:=Zae [] [] hj
  simp only [List.append_nil,List.nil_append] at h1 h2 h1' h2'
  simp only [List.flatten_cons,List.flatten_nil,List.append_nil]
  have:r.Perm r':=(List.perm_append_left_iff s).1 (h1.symm.trans h1')
  exact (List.Perm.append_left s' (h2'.trans this.symm)).trans h2.symm
theorem Zj4 {f:FuncId} {xs:List Operand} {vs:List Value} {ats:Array TypeId} {Post:Value→Kn→List Cells→Prop} (j:Nat) {s:Cells} (hj:L[j]? = some s) (hg:Zf ops S g=some true) (hd:Zn n dst=true) (he:enters P f=true) (ha:evs S xs=some vs) (hc:ZT P f vs B [s] Post)
    (h :∀v B' Ls',B.le B'→Post v B' Ls'→∃s' r,Ls'=s' :: r∧K v D B' (L.set j s' ++ r)):opX P n ops i ⟨dst,.call ⟨.value (.func f),xs.toArray,ats⟩,ty,pos,after,g⟩ K S D B L:=
  Zdl (o:=⟨dst,.call ⟨.value (.func f),xs.toArray,ats⟩,ty,pos,after,g⟩) (vs:=vs) hg (fun ρ hρ Q F q=>by
      have:=ZeP (P:=P) (B:=B) (L:=L) (dst:=dst) (ty:=ty) (pos:=pos) (after:=after) (g:=g) (x:=.func f) (first:=#[]) (cap:=#[]) (ats:=ats) he rfl ha ρ hρ Q F
      exact this (by simpa using q)) hd (Ls:=[s]) (Lk:=L.set j []) (Zcr hj) hc
    fun v B' Ls' hle hq=>by
      obtain ⟨s',r,rfl,hK⟩:=h v B' Ls' hle hq
      refine ⟨L.set j s' ++ r,?_,hK⟩
      have e:(s' :: r).flatten ++ (L.set j []).flatten=s' ++ (r.flatten ++ (L.set j []).flatten):=by simp
      rw [e,List.flatten_append]
      refine (List.Perm.append_left s' List.perm_append_comm).trans ?_
      rw [← List.append_assoc]
      exact List.Perm.append_right _ (by simpa using ZiT (s':=s') hj)
end
end Go.BL
namespace Go.BL
def Zaw (P:PJ) (f:FuncId) (vs:List Value) (B:Kn) (v:Value):Prop:=ZT P f vs B [] fun v' B' Ls=>v'=v∧B'=B∧Ls=[]
section
variable {P:PJ} {n:Nat} {ops:Array Oper} {i:Nat} {K:Z6} {S:Env} {D:List Deferred} {B:Kn} {L:List Cells}
variable {dst:Option Tmp} {ty:TypeId} {pos:String} {after:Array Edge} {g:Option (Nat × Bool)}
theorem ZZ {f:FuncId} {xs:List Operand} {vs:List Value} {ats:Array TypeId} {v:Value} (hg:Zf ops S g=some true) (hd:Zn n dst=true) (he:enters P f=true) (ha:evs S xs=some vs) (hc:Zaw P f vs B v)
    (h:K v D B L):opX P n ops i ⟨dst,.call ⟨.value (.func f),xs.toArray,ats⟩,ty,pos,after,g⟩ K S D B L:=
  Zci hg hd he ha hc fun v' B' Ls' hle ⟨h1,h2,h3⟩=>by subst h1;subst h2;subst h3;rw [List.append_nil];exact h
theorem ZC {rs:List ResultVar} {Post:Value→Kn→List Cells→Prop} (e:Exit) (he:e = .ret∨e = .normal) (vs:List Value) (hr:Zco P S B L rs vs) (hp:Post (Zby vs) B []):Ziz P rs Post e S [] B L:=
  ⟨he,rfl,vs,[],hr,⟨L.flatten,by simp⟩,hp⟩
end
theorem Zc {a b:Bool} (h:a=b):Value.bool a=Value.bool b:=by rw [h]
theorem ZaJ {k:IntKind} {a b:Int} (h:a=b):Value.int k a=Value.int k b:=by rw [h]
theorem ZjL {a b:List UInt8} (h:a=b):str a=str b:=by rw [h]
theorem ZbC {n:Int} (h1 : -9223372036854775808≤n) (h2:n≤9223372036854775807):IntKind.wrap .i64 n=n:=IntWalk.i64_in n ⟨h1,h2⟩
def ZkE (P:PJ) (f:FuncId) (vs:List Value) (B:Kn) (s:Cells) (v:Value) (s':Cells):Prop:=ZT P f vs B [s] fun v' B' Ls=>v'=v∧B'=B∧Ls=[s']
section
variable {P:PJ} {n:Nat} {ops:Array Oper} {i:Nat} {K:Z6} {S:Env} {D:List Deferred} {B:Kn} {L:List Cells}
variable {dst:Option Tmp} {ty:TypeId} {pos:String} {after:Array Edge} {g:Option (Nat × Bool)}
theorem ZdY {f:FuncId} {xs:List Operand} {vs:List Value} {ats:Array TypeId} {v:Value} (j:Nat) {s s':Cells} (hj:L[j]? = some s) (hg:Zf ops S g=some true) (hd:Zn n dst=true) (he:enters P f=true) (ha:evs S xs=some vs) (hc:ZkE P f vs B s v s')
    (h:K v D B (L.set j s')):opX P n ops i ⟨dst,.call ⟨.value (.func f),xs.toArray,ats⟩,ty,pos,after,g⟩ K S D B L:=
  Zj4 j hj hg hd he ha hc fun v' B' Ls' hle ⟨h1,h2,h3⟩=>by subst h1;subst h2;subst h3;exact ⟨s',[],rfl,by rw [List.append_nil];exact h⟩
theorem Zet {L:List Cells} {j:Nat} {s:Cells} (hj:L[j]? = some s):L.set j s=L:=by
  apply List.ext_getElem?
  intro i
  rw [List.getElem?_set]
  split
  · rename_i h;subst h
    split
    · exact hj.symm
    · rename_i hlt;rw [List.getElem?_eq_none (by omega)]
  · rfl
theorem Zgr {f:FuncId} {xs:List Operand} {vs:List Value} {ats:Array TypeId} {v:Value} (j:Nat) {s:Cells} (hj:L[j]? = some s) (hg:Zf ops S g=some true) (hd:Zn n dst=true) (he:enters P f=true) (ha:evs S xs=some vs) (hc:ZkE P f vs B s v s)
    (h:K v D B L):opX P n ops i ⟨dst,.call ⟨.value (.func f),xs.toArray,ats⟩,ty,pos,after,g⟩ K S D B L:=
  ZdY j hj hg hd he ha hc (by rw [Zet hj];exact h)
theorem Zjh {rs:List ResultVar} {Post:Value→Kn→List Cells→Prop} (e:Exit) (he:e = .ret∨e = .normal) (vs:List Value) (j:Nat) {s:Cells} (hj:L[j]? = some s) (hr:Zco P S B L rs vs) (hp:Post (Zby vs) B [s]):Ziz P rs Post e S [] B L:=
  ⟨he,rfl,vs,[s],hr,⟨(L.set j []).flatten,Zcr hj⟩,hp⟩
end
end Go.BL
namespace Go.BL
open Go.Conc (G)
set_option linter.unusedVariables false
def ZaU (o:Oper) (ex:List Nat):Prop:=∀e,e∈o.after.toList→Region.binds .any e=true→e.on∈ex
inductive Sched (ops:Array Oper):List Nat→List Nat→Prop
  | nil {ex:List Nat} : (∀i,i<ops.size→i∈ex)→Sched ops ex []
  | cons {ex π:List Nat} {m:Nat} {o:Oper} : ops[m]? = some o→m ∉ ex→ZaU o ex→Sched ops (m :: ex) π→Sched ops ex (m :: π)
def Zbk (ops:Array Oper):Bool:=(List.range ops.size).all fun i=>match ops[i]? with | some o=>o.after.toList.all fun e=>!Region.binds .any e || Nat.blt e.on i | none=>true
theorem ZbZ {ops:Array Oper} (h:Zbk ops=true) {i:Nat} {o:Oper} (ho:ops[i]? = some o) :∀e,e∈o.after.toList→Region.binds .any e=true→e.on<i:=by
  intro e he hb
  have h1:=List.all_eq_true.1 h i (List.mem_range.2 (ZG ho))
  rw [ho] at h1
  have h2:=List.all_eq_true.1 h1 e he
  simpa [hb] using h2
def Rep (n:Nat) (listed:Array Bool) (ex:List Nat):Prop:=∀i,(listed.getD i true=false↔(i<n∧i ∉ ex))∧(listed.getD i false=true↔(i<n∧i∈ex))
theorem Rep.set {n:Nat} {listed:Array Bool} {ex:List Nat} (h:Rep n listed ex) {m:Nat} (hm:m<n):Rep n (listed.setIfInBounds m true) (m :: ex):=by
  intro i
  have hsz:listed.size=n:=by
    rcases Nat.lt_trichotomy listed.size n with hl | hl | hl
    · have h1:=(h listed.size).1
      have h2:=(h listed.size).2
      rw [Array.getD_eq_getD_getElem?,Array.getElem?_eq_none (Nat.le_refl _)] at h1 h2
      simp only [Option.getD_none,Bool.true_eq_false,false_iff,Bool.false_eq_true] at h1 h2
      by_cases hx:listed.size∈ex
      · exact absurd ⟨hl,hx⟩ h2
      · exact absurd ⟨hl,hx⟩ h1
    · exact hl
    · have h1:=(h n).1
      have h2:=(h n).2
      rw [Array.getD_eq_getD_getElem?,Array.getElem?_eq_getElem hl] at h1 h2
      simp only [Option.getD_some] at h1 h2
      cases hb:listed[n] with
      | true=>exact absurd (h2.1 hb).1 (Nat.lt_irrefl _)
      | false=>exact absurd (h1.1 hb).1 (Nat.lt_irrefl _)
  by_cases hi:i=m
  · subst hi
    simp [Array.getD_eq_getD_getElem?,hsz,hm]
  · have e1:(listed.setIfInBounds m true).getD i true=listed.getD i true:=by
      rw [Array.getD_eq_getD_getElem?,Array.getD_eq_getD_getElem?,Array.getElem?_setIfInBounds,if_neg (Ne.symm hi)]
    have e2:(listed.setIfInBounds m true).getD i false=listed.getD i false:=by
      rw [Array.getD_eq_getD_getElem?,Array.getD_eq_getD_getElem?,Array.getElem?_setIfInBounds,if_neg (Ne.symm hi)]
    rw [e1,e2,(h i).1,(h i).2]
    simp [hi]
theorem Zfu {ops:Array Oper} (hd:Zbk ops=true) {ex:List Nat} (h :∃i,i<ops.size∧i ∉ ex) :∃i o,ops[i]? = some o∧i ∉ ex∧ZaU o ex:=by
  obtain ⟨i,hi,hx⟩:=h
  induction i using Nat.strongRecOn with
  | _ i ih=>
    by_cases he:ZaU ops[i] ex
    · exact ⟨i,ops[i],by simp [hi],hx,he⟩
    · have :∃e,e∈ops[i].after.toList∧Region.binds .any e=true∧e.on ∉ ex:=by
        apply Classical.byContradiction
        intro hno
        exact he fun e h1 h2=>Classical.byContradiction fun h3=>hno ⟨e,h1,h2,h3⟩
      obtain ⟨e,h1,h2,h3⟩:=this
      have hlt:=ZbZ hd (i:=i) (o:=ops[i]) (by simp [hi]) e h1 h2
      exact ih e.on hlt (by omega) h3
theorem ZiS {ops:Array Oper} (hd:Zbk ops=true) :∀(fuel t:Nat) (listed:Array Bool) (ex:List Nat),Rep ops.size listed ex→((List.range ops.size).filter (fun i=>decide (i ∉ ex))).length≤fuel→
    Sched ops ex (Region.linearise.go .any ops fuel t listed []):=by
  intro fuel
  induction fuel with
  | zero=>
    intro t listed ex hr hc
    simp only [Region.linearise.go,List.reverse_nil]
    refine .nil fun i hi=>?_
    apply Classical.byContradiction
    intro hx
    have:i∈(List.range ops.size).filter (fun i=>decide (i ∉ ex)):=List.mem_filter.2 ⟨List.mem_range.2 hi,by simpa using hx⟩
    have:=List.length_pos_of_mem this
    omega
  | succ fuel ih=>
    intro t listed ex hr hc
    simp only [Region.linearise.go]
    have hmem :∀i,i∈Region.ready .any ops listed↔∃o,ops[i]? = some o∧i ∉ ex∧ZaU o ex:=by
      intro i
      rw [mem_ready]
      constructor
      · rintro ⟨h1,o,ho,h2⟩
        refine ⟨o,ho,((hr i).1.1 h1).2,fun e he hb=>?_⟩
        exact ((hr e.on).2.1 (by simpa using h2 e (Array.mem_toList_iff.1 he) hb)).2
      · rintro ⟨o,ho,hx,h2⟩
        refine ⟨(hr i).1.2 ⟨ZG ho,hx⟩,o,ho,fun e he hb=>?_⟩
        exact (hr e.on).2.2 ⟨Nat.lt_trans (ZbZ hd ho e (Array.mem_toList_iff.2 he) hb) (ZG ho),h2 e (Array.mem_toList_iff.2 he) hb⟩
    show Sched ops ex (match (Region.ready .any ops listed)[t % (Region.ready .any ops listed).length]? with
      | some i=>Region.linearise.go .any ops fuel (t / (Region.ready .any ops listed).length) (listed.setIfInBounds i true) [i]
      | none=>[])
    cases hg:(Region.ready .any ops listed)[t % (Region.ready .any ops listed).length]? with
    | none=>
      refine .nil fun i hi=>?_
      apply Classical.byContradiction
      intro hx
      obtain ⟨j,o,ho,hjx,he⟩:=Zfu hd ⟨i,hi,hx⟩
      have hj:=(hmem j).2 ⟨o,ho,hjx,he⟩
      have hpos:=List.length_pos_of_mem hj
      have:=List.getElem?_eq_none_iff.1 hg
      have:=Nat.mod_lt t hpos
      omega
    | some i=>
      obtain ⟨o,ho,hx,he⟩:=(hmem i).1 (List.mem_of_getElem? hg)
      show Sched ops ex (Region.linearise.go .any ops fuel (t / (Region.ready .any ops listed).length) (listed.setIfInBounds i true) [i])
      rw [linearise_go_acc,List.reverse_singleton,List.singleton_append]
      refine .cons ho hx he (ih _ _ _ (hr.set (ZG ho)) ?_)
      have hlt:((List.range ops.size).filter (fun j=>decide (j ∉ i :: ex))).length<((List.range ops.size).filter (fun j=>decide (j ∉ ex))).length:=by
        have hsub:(List.range ops.size).filter (fun j=>decide (j ∉ i :: ex))=((List.range ops.size).filter (fun j=>decide (j ∉ ex))).filter (fun j=>decide (j≠i)):=by
          rw [List.filter_filter]
          apply List.filter_congr
          intro j _
          simp only [List.mem_cons,not_or,ne_eq,Bool.decide_and]
        rw [hsub]
        have hi:i∈(List.range ops.size).filter (fun j=>decide (j ∉ ex)):=List.mem_filter.2 ⟨List.mem_range.2 (ZG ho),by simpa using hx⟩
        exact List.length_filter_lt_length_iff_exists.2 ⟨i,hi,by simp⟩
      omega
theorem ZiR {P:PJ} {ops:Array Oper} (hm:P.follows .mixedOrders=true) (hd:Zbk ops=true) (t:Nat):Sched ops [] (Region.schedule (P.follows .mixedOrders) ops t):=by
  have:Region.schedule (P.follows .mixedOrders) ops t=Region.linearise.go .any ops ops.size t (Array.replicate ops.size false) []:=by
    simp [Region.schedule,hm,Region.linearise]
  rw [this]
  refine ZiS hd _ _ _ _ (fun i=>?_) ?_
  · simp only [Array.getD_eq_getD_getElem?,Array.getElem?_replicate]
    by_cases h:i<ops.size <;> simp [h]
  · exact Nat.le_trans (List.length_filter_le _ _) (by simp)
def conf (ops:Array Oper) (x y:Oper):Bool:=(match x.dst with | some d=>(y.looksAt ops).contains d || y.dst == some d | none=>false) || (match y.dst with | some d=>(x.looksAt ops).contains d | none=>false)
def Zbf (x:Oper) (j:Nat):Bool:=x.after.toList.any fun e=>Region.binds .any e && e.on == j
def orderly (ops:Array Oper):Bool:=(List.range ops.size).all fun i=>(List.range ops.size).all fun j=>match ops[i]?,ops[j]? with | some x,some y=>i == j || !conf ops x y || Zbf x j || Zbf y i | _,_=>true
theorem ZbG {ops:Array Oper} (h:orderly ops=true) {i j:Nat} {x y:Oper} (hi:ops[i]? = some x) (hj:ops[j]? = some y) (hne:i≠j) (hc:conf ops x y=true):Zbf x j=true∨Zbf y i=true:=by
  have h1:=List.all_eq_true.1 h i (List.mem_range.2 (ZG hi))
  have h2:=List.all_eq_true.1 h1 j (List.mem_range.2 (ZG hj))
  rw [hi,hj] at h2
  simpa [hne,hc] using h2
theorem Zbj {o:Oper} {j:Nat} {ex:List Nat} (h:Zbf o j=true) (he:ZaU o ex):j∈ex:=by
  obtain ⟨e,h1,h2⟩:=List.any_eq_true.1 h
  simp only [Bool.and_eq_true,beq_iff_eq] at h2
  exact h2.2 ▸ he e h1 h2.1
def sel:List Nat→Env→Env
  | [],_=>[]
  | k :: ks,S=>match get S k with
    | some v=>(k,v) :: sel ks S
    | none=>sel ks S
theorem ZcD :∀{ks:List Nat} {S:Env} {i:Nat} {v:Value},get (sel ks S) i=some v→i∈ks∧get S i=some v
  | [],S,i,v,h=>by cases h
  | k :: ks,S,i,v,h=>by
    simp only [sel] at h
    cases hk:get S k with
    | none=>
      rw [hk] at h
      obtain ⟨h1,h2⟩:=ZcD h
      exact ⟨List.mem_cons_of_mem _ h1,h2⟩
    | some u=>
      rw [hk] at h
      simp only [get] at h
      cases hb:Nat.beq k i with
      | true=>
        rw [hb] at h
        have:=Nat.eq_of_beq_eq_true hb
        subst this
        simp only [cond_true,Option.some.injEq] at h
        subst h
        exact ⟨List.mem_cons_self ..,hk⟩
      | false=>
        rw [hb] at h
        obtain ⟨h1,h2⟩:=ZcD h
        exact ⟨List.mem_cons_of_mem _ h1,h2⟩
structure Pd where
  i:Nat
  o:Oper
  v:Value
  ρ:Env
def puts:List Pd→Array Value→Array Value
  | [],T=>T
  | p :: r,T=>puts r (putT T p.o.dst p.v)
def Zb3:List Pd→Array Value→Prop
  | [],_=>True
  | p :: r,T=>Ag T p.ρ∧Zb3 r (putT T p.o.dst p.v)
theorem Zdh :∀(pend:List Pd) (T:Array Value),(puts pend T).size=T.size
  | [],T=>rfl
  | p :: r,T=>by rw [puts,Zdh r,Zbi]
theorem Zcp {T:Array Value} {x y:Option Tmp} {u v:Value} (h :∀d,x=some d→y≠some d):putT (putT T x u) y v=putT (putT T y v) x u:=by
  cases x with
  | none=>rfl
  | some d=>
    cases y with
    | none=>rfl
    | some c=>
      have:d≠c:=fun e=>h d rfl (by rw [e])
      simp only [putT]
      rw [Array.setIfInBounds_comm _ _ this]
theorem ZcO {T:Array Value} {S:Env} {ks:List Nat} (hs :∀i v,get S i=some v→i∈ks) {x:Option Tmp} {u:Value} (hx :∀d,x=some d→d ∉ ks):Ag (putT T x u) S↔Ag T S:=by
  cases x with
  | none=>exact Iff.rfl
  | some d=>
    refine forall_congr' fun i=>forall_congr' fun v=>imp_congr_right fun h=>?_
    have:d≠i:=fun e=>hx d rfl (e ▸ hs i v h)
    simp only [putT,Array.getElem?_setIfInBounds,if_neg this]
theorem Zeq {ops:Array Oper} {x y:Oper} (h:conf ops x y=false):(∀d,x.dst=some d→d ∉ y.looksAt ops)∧(∀d,x.dst=some d→y.dst≠some d)∧(∀d,y.dst=some d→d ∉ x.looksAt ops):=by
  unfold conf at h
  rw [Bool.or_eq_false_iff] at h
  obtain ⟨h1,h2⟩:=h
  refine ⟨fun d hd hm=>?_,fun d hd hm=>?_,fun d hd hm=>?_⟩
  · rw [hd] at h1;simp [hm] at h1
  · rw [hd] at h1;simp [hm] at h1
  · rw [hd] at h2;simp [hm] at h2
def Zf1 (ops:Array Oper) (p:Pd):Prop:=∀i v,get p.ρ i=some v→i∈p.o.looksAt ops
theorem Zev {ops:Array Oper} {p:Pd} (hp:Zf1 ops p) :∀(p1 p2:List Pd) (T:Array Value),(∀q,q∈p1→conf ops q.o p.o=false∧Zf1 ops q)→Zb3 (p1 ++ p :: p2) T→
    Ag T p.ρ∧puts (p1 ++ p2) (putT T p.o.dst p.v)=puts (p1 ++ p :: p2) T∧Zb3 (p1 ++ p2) (putT T p.o.dst p.v)
  | [],p2,T,_,h=>⟨h.1,rfl,h.2⟩
  | q :: r,p2,T,hc,h=>by
    obtain ⟨hq,hqd⟩:=hc q (List.mem_cons_self ..)
    obtain ⟨c1,c2,c3⟩:=Zeq hq
    obtain ⟨h1,h2,h3⟩:=Zev hp r p2 _ (fun q' hq'=>hc q' (List.mem_cons_of_mem _ hq')) h.2
    refine ⟨(ZcO hp c1).1 h1,?_,?_,?_⟩
    · simp only [List.cons_append,puts]
      rw [← h2,Zcp c2]
    · exact (ZcO hqd c3).2 h.1
    · rw [← Zcp c2];exact h3
theorem Zdi {ops:Array Oper} {o:Oper} {v:Value} :∀(pend:List Pd) (T:Array Value),(∀q,q∈pend→conf ops q.o o=false∧Zf1 ops q)→Zb3 pend T→
    puts pend (putT T o.dst v)=putT (puts pend T) o.dst v∧Zb3 pend (putT T o.dst v)∧∀i,i∈o.looksAt ops→(puts pend T)[i]? = T[i]?
  | [],T,_,_=>⟨rfl,trivial,fun _ _=>rfl⟩
  | q :: r,T,hc,h=>by
    obtain ⟨hq,hqd⟩:=hc q (List.mem_cons_self ..)
    obtain ⟨c1,c2,c3⟩:=Zeq hq
    obtain ⟨h1,h2,h3⟩:=Zdi r (putT T q.o.dst q.v) (fun q' hq'=>hc q' (List.mem_cons_of_mem _ hq')) h.2
    refine ⟨?_,⟨(ZcO hqd c3).2 h.1,?_⟩,fun i hi=>?_⟩
    · simp only [puts];rw [← Zcp c2];exact h1
    · rw [← Zcp c2];exact h2
    · simp only [puts]
      rw [h3 i hi]
      cases hd:q.o.dst with
      | none=>rfl
      | some d=>
        have:d≠i:=fun e=>c1 d hd (e ▸ hi)
        simp only [putT,Array.getElem?_setIfInBounds,if_neg this]
theorem Ze8 :∀(pend:List Pd) (p:Pd) (T:Array Value),puts (pend ++ [p]) T=putT (puts pend T) p.o.dst p.v∧(Zb3 (pend ++ [p]) T↔Zb3 pend T∧Ag (puts pend T) p.ρ)
  | [],p,T=>⟨rfl,by simp [Zb3,puts]⟩
  | q :: r,p,T=>by
    obtain ⟨h1,h2⟩:=Ze8 r p (putT T q.o.dst q.v)
    refine ⟨h1,?_⟩
    simp only [List.cons_append,Zb3,puts,h2,and_assoc]
def quiet (P:PJ) (n:Nat) (ops:Array Oper) (I:Kn→List Cells→Prop) (i:Nat) (o:Oper) (v:Value) (ρ:Env):Prop:=
∀D B L,I B L→opX P n ops i o (fun v' D' B' L'=>v'=v∧D'=D∧B'=B∧L'=L) ρ D B L
def ZgJ (o:Oper):Bool:=match o.op with | .extract _ _=>true | .move _=>true | .assign _=>true | _=>false
structure PdOk (P:PJ) (n:Nat) (ops:Array Oper) (I:Kn→List Cells→Prop) (ℓ ex:List Nat) (p:Pd):Prop where
  at_:ops[p.i]? = some p.o
  notEx:p.i ∉ ex
  listed:p.i∈ℓ
  edges:ZaU p.o ℓ
  dom:Zf1 ops p
  quiet:quiet P n ops I p.i p.o p.v p.ρ
  pure:ZgJ p.o=true→Go.BL.quiet P n ops (fun _ _=>True) p.i p.o p.v p.ρ
def Ordered:List Pd→Prop
  | []=>True
  | q :: r=>(∀p,p∈r→Zbf q.o p.i=false∧q.i≠p.i)∧Ordered r
theorem ZcF :∀{p1:List Pd} {p:Pd} {p2:List Pd},Ordered (p1 ++ p :: p2)→(∀q,q∈p1→Zbf q.o p.i=false∧q.i≠p.i)∧(∀q,q∈p2→p.i≠q.i)∧Ordered (p1 ++ p2)
  | [],p,p2,h=>⟨(fun q hq=>by cases hq),fun q hq=>(h.1 q hq).2,h.2⟩
  | r :: p1,p,p2,h=>by
    obtain ⟨h1,h2,h3⟩:=ZcF h.2
    refine ⟨fun q hq=>?_,h2,fun q hq=>h.1 q ?_,h3⟩
    · rcases List.mem_cons.1 hq with rfl | hq
      · exact h.1 p (List.mem_append.2 (.inr (List.mem_cons_self ..)))
      · exact h1 q hq
    · rcases List.mem_append.1 hq with hq | hq
      · exact List.mem_append.2 (.inl hq)
      · exact List.mem_append.2 (.inr (List.mem_cons_of_mem _ hq))
theorem Zdj :∀{pend:List Pd} {p:Pd},Ordered pend→(∀q,q∈pend→Zbf q.o p.i=false∧q.i≠p.i)→Ordered (pend ++ [p])
  | [],p,_,_=>⟨(fun q hq=>by cases hq),trivial⟩
  | r :: pend,p,h,hp=>by
    refine ⟨fun q hq=>?_,Zdj h.2 fun q hq=>hp q (List.mem_cons_of_mem _ hq)⟩
    rcases List.mem_append.1 hq with hq | hq
    · exact h.1 q hq
    · rw [List.mem_singleton.1 hq];exact hp r (List.mem_cons_self ..)
def Closed (ops:Array Oper) (ex:List Nat):Prop:=∀i,i∈ex→∀o,ops[i]? = some o→ZaU o ex
theorem Closed.cons {ops:Array Oper} {ex:List Nat} {m:Nat} {o:Oper} (h:Closed ops ex) (hm:ops[m]? = some o) (he:ZaU o ex):Closed ops (m :: ex):=fun i hi o' ho' e h1 h2=>by
  rcases List.mem_cons.1 hi with rfl | hi
  · rw [hm] at ho';cases ho';exact List.mem_cons_of_mem _ (he e h1 h2)
  · exact List.mem_cons_of_mem _ (h i hi o' ho' e h1 h2)
def ZaD {P:PJ} (C:Cx P) (k:List Item) (n:Nat) (ops:Array Oper) (I:Kn→List Cells→Prop) (ℓ:List Nat) (K:ZR):ZR:=fun S D B L=>
∀(T:Array Value) (ex:List Nat) (pend:List Pd) (π:List Nat),Sched ops ex π→Closed ops ex→(∀i,i∈ex→i∈ℓ)→(∀i,i∈ℓ→i∈ex∨∃p,p∈pend∧p.i=i)→
    (∀p,p∈pend→PdOk P n ops I ℓ ex p)→Ordered pend→T.size=n→Zb3 pend T→Ag (puts pend T) S→I B L→
    (∀S' D' B' L' T',B.le B'→K S' D' B' L'→T'.size=n→Ag T' S'→C.X.R (G (fat C.b T' D' (.inRegion ops [] :: k)) C.cs) B' (L'.flatten ++ C.F))→
    C.X.R (G (fat C.b T D (.inRegion ops π :: k)) C.cs) B (L.flatten ++ C.F)
section
variable {P:PJ} {C:Cx P} {k:List Item} {n:Nat} {ops:Array Oper} {I:Kn→List Cells→Prop} {ℓ:List Nat} {K:ZR} {S:Env} {D:List Deferred} {B:Kn} {L:List Cells}
theorem ZeQ (ho:orderly ops=true)
    (hdone:(∀i,i<ops.size→i∈ℓ)→K S D B L)
    (hloud :∀m o,ops[m]? = some o→m ∉ ℓ→ZaU o ℓ→opX P n ops m o (fun v D' B' L'=>I B' L'∧ZaD C k n ops I (m :: ℓ) K (Zaz S o.dst v) D' B' L') (sel (o.looksAt ops) S) D B L):ZaD C k n ops I ℓ K S D B L:=by
  intro T ex pend π hs
  induction hs generalizing T pend with
  | @nil ex hall=>
    intro hcl hsub hcov hpd hord hn hpa hag hI hA
    have hp0:pend=[]:=by
      cases pend with
      | nil=>rfl
      | cons p r=>exact absurd (hall p.i (ZG (hpd p (List.mem_cons_self ..)).at_)) (hpd p (List.mem_cons_self ..)).notEx
    subst hp0
    exact hA S D B L T (Kn.le.refl B) (hdone fun i hi=>hsub i (hall i hi)) hn hag
  | @cons ex π m o hm hx he hs ih=>
    intro hcl hsub hcov hpd hord hn hpa hag hI hA
    have hcl':=hcl.cons hm he
    by_cases hml:m∈ℓ
    · rcases hcov m hml with h | ⟨p,hp,rfl⟩
      · exact absurd h hx
      · obtain ⟨p1,p2,rfl⟩:=List.append_of_mem hp
        have hpk:=hpd p hp
        have hpo:p.o=o:=by have:=hpk.at_;rw [hm] at this;exact (Option.some.inj this).symm
        obtain ⟨o1,o2,o3⟩:=ZcF hord
        have hconf :∀q,q∈p1→conf ops q.o p.o=false∧Zf1 ops q:=fun q hq=>by
          have hqk:=hpd q (List.mem_append.2 (.inl hq))
          refine ⟨?_,hqk.dom⟩
          cases hc:conf ops q.o p.o with
          | false=>rfl
          | true=>
            rcases ZbG ho hqk.at_ hpk.at_ (o1 q hq).2 hc with h | h
            · rw [(o1 q hq).1] at h;cases h
            · exact absurd (Zbj h (hpo ▸ he)) hqk.notEx
        obtain ⟨a1,a2,a3⟩:=Zev hpk.dom p1 p2 T hconf hpa
        refine (hpk.quiet D B L hI).2 C π k T hpk.at_ hn a1 ?_
        rintro v D' B' L' hle ⟨rfl,rfl,rfl,rfl⟩
        refine ih _ (p1 ++ p2) hcl' (fun i hi=>?_) (fun i hi=>?_) (fun q hq=>?_) o3 (by rw [Zbi,hn]) a3 (by rw [a2];exact hag) hI hA
        · rcases List.mem_cons.1 hi with rfl | hi
          · exact hml
          · exact hsub i hi
        · rcases hcov i hi with h | ⟨q,hq,rfl⟩
          · exact .inl (List.mem_cons_of_mem _ h)
          · rcases List.mem_append.1 hq with hq | hq
            · exact .inr ⟨q,List.mem_append.2 (.inl hq),rfl⟩
            · rcases List.mem_cons.1 hq with rfl | hq
              · exact .inl (List.mem_cons_self ..)
              · exact .inr ⟨q,List.mem_append.2 (.inr hq),rfl⟩
        · have hq':q∈p1 ++ p :: p2:=by
            rcases List.mem_append.1 hq with hq | hq
            · exact List.mem_append.2 (.inl hq)
            · exact List.mem_append.2 (.inr (List.mem_cons_of_mem _ hq))
          have hqk:=hpd q hq'
          refine ⟨hqk.at_,fun hmem=>?_,hqk.listed,hqk.edges,hqk.dom,hqk.quiet,hqk.pure⟩
          rcases List.mem_cons.1 hmem with h | h
          · rcases List.mem_append.1 hq with hq | hq
            · exact (o1 q hq).2 h
            · exact o2 q hq h.symm
          · exact hqk.notEx h
    · have hel:ZaU o ℓ:=fun e h1 h2=>hsub _ (he e h1 h2)
      have hconf :∀q,q∈pend→conf ops q.o o=false∧Zf1 ops q:=fun q hq=>by
        have hqk:=hpd q hq
        refine ⟨?_,hqk.dom⟩
        cases hc:conf ops q.o o with
        | false=>rfl
        | true=>
          rcases ZbG ho hqk.at_ hm (fun e=>hml (e ▸ hqk.listed)) hc with h | h
          · exact absurd (Zbj h hqk.edges) hml
          · exact absurd (Zbj h he) hqk.notEx
      have hsel:Ag T (sel (o.looksAt ops) S):=fun i v hv=>by
        obtain ⟨h1,h2⟩:=ZcD hv
        rw [← (Zdi (o:=o) (v:=undef) pend T hconf hpa).2.2 i h1]
        exact hag i v h2
      have hX:=hloud m o hm hml hel
      refine hX.2 C π k T hm hn hsel ?_
      rintro v D' B' L' hle ⟨hI',hAny⟩
      obtain ⟨b1,b2,_⟩:=Zdi (o:=o) (v:=v) pend T hconf hpa
      refine hAny _ (m :: ex) pend π hs hcl' (fun i hi=>?_) (fun i hi=>?_) (fun q hq=>?_) hord (by rw [Zbi,hn]) b2 (by rw [b1];exact hag.putT (by rw [Zdh,hn]) hX.1 v) hI' fun S₂ D₂ B₂ L₂ T₂ hle₂=>hA S₂ D₂ B₂ L₂ T₂ (hle.trans hle₂)
      · rcases List.mem_cons.1 hi with rfl | hi
        · exact List.mem_cons_self ..
        · exact List.mem_cons_of_mem _ (hsub i hi)
      · rcases List.mem_cons.1 hi with rfl | hi
        · exact .inl (List.mem_cons_self ..)
        · exact (hcov i hi).imp (List.mem_cons_of_mem _) id
      · have hqk:=hpd q hq
        refine ⟨hqk.at_,fun hmem=>?_,List.mem_cons_of_mem _ hqk.listed,fun e h1 h2=>List.mem_cons_of_mem _ (hqk.edges e h1 h2),hqk.dom,hqk.quiet,hqk.pure⟩
        rcases List.mem_cons.1 hmem with h | h
        · exact hml (h ▸ hqk.listed)
        · exact hqk.notEx h
def Zcz (ops:Array Oper) (ℓ:List Nat):Bool:=(List.range ops.size).all fun i=>ℓ.contains i
theorem Zs (ho:orderly ops=true) (ha:Zcz ops ℓ=true) (h:K S D B L):ZaD C k n ops I ℓ K S D B L:=
  ZeQ ho (fun _=>h) fun m o hm hml _=>by
    have:=List.all_eq_true.1 ha m (List.mem_range.2 (ZG hm))
    exact absurd (by simpa using this) hml
def Z8 (ops:Array Oper) (ℓ:List Nat):List Nat:=(List.range ops.size).filter fun i=>!ℓ.contains i && (match ops[i]? with | some o=>o.after.toList.all fun e=>!Region.binds .any e || ℓ.contains e.on | none=>false)
theorem Zec {m:Nat} {o:Oper} (hm:ops[m]? = some o) (hx:m ∉ ℓ) (he:ZaU o ℓ):m∈Z8 ops ℓ:=by
  refine List.mem_filter.2 ⟨List.mem_range.2 (ZG hm),?_⟩
  simp only [hm,Bool.and_eq_true,Bool.not_eq_true',List.all_eq_true,Bool.or_eq_true]
  refine ⟨by simpa using hx,fun e h1=>?_⟩
  cases hb:Region.binds .any e with
  | false=>exact .inl rfl
  | true=>exact .inr (by simpa using he e h1 hb)
def Ziw:List Nat→(Nat→Prop)→Prop
  | [],_=>True
  | [m],F=>F m
  | m :: r,F=>F m∧Ziw r F
theorem Zep {F:Nat→Prop} :∀{rs:List Nat},Ziw rs F→∀m,m∈rs→F m
  | [m],h,x,hx=>by rw [List.mem_singleton.1 hx];exact h
  | m :: m' :: r,h,x,hx=>by
    rcases List.mem_cons.1 hx with rfl | hx
    · exact h.1
    · exact Zep h.2 x hx
theorem ZkB (rs:List Nat) (ho:orderly ops=true) (hr:Z8 ops ℓ=rs) (hne:Zcz ops ℓ=false)
    (h:Ziw rs fun m=>match ops[m]? with
      | some o=>opX P n ops m o (fun v D' B' L'=>I B' L'∧ZaD C k n ops I (m :: ℓ) K (Zaz S o.dst v) D' B' L') (sel (o.looksAt ops) S) D B L
      | none=>True):ZaD C k n ops I ℓ K S D B L:=
  ZeQ ho (fun hall=>by
      have:Zcz ops ℓ=true:=List.all_eq_true.2 fun i hi=>by simpa using hall i (List.mem_range.1 hi)
      rw [this] at hne;cases hne)
    fun m o hm hml he=>by
      have:=Zep h m (hr ▸ Zec hm hml he)
      rw [hm] at this
      exact this
theorem ZfC (i:Nat) {o:Oper} {v:Value} (hi:ops[i]? = some o) (hr:(Z8 ops ℓ).contains i=true) (hd:Zn n o.dst=true) (hq:quiet P n ops I i o v (sel (o.looksAt ops) S)) (hpu:ZgJ o=true→quiet P n ops (fun _ _=>True) i o v (sel (o.looksAt ops) S))
    (h:ZaD C k n ops I (i :: ℓ) K (Zaz S o.dst v) D B L):ZaD C k n ops I ℓ K S D B L:=by
  intro T ex pend π hs hcl hsub hcov hpd hord hn hpa hag hI hA
  have hrm:i∈Z8 ops ℓ:=by simpa using hr
  have hr2:=(List.mem_filter.1 hrm).2
  simp only [hi,Bool.and_eq_true,Bool.not_eq_true',List.all_eq_true,Bool.or_eq_true] at hr2
  obtain ⟨r1,r2⟩:=hr2
  have hil:i ∉ ℓ:=by simpa using r1
  have hel:ZaU o ℓ:=fun e h1 h2=>by
    rcases r2 e h1 with h | h
    · rw [h2] at h;cases h
    · simpa using h
  let p:Pd:=⟨i,o,v,sel (o.looksAt ops) S⟩
  have hρ:Ag (puts pend T) p.ρ:=fun j u hu=>hag j u (ZcD hu).2
  obtain ⟨s1,s2⟩:=Ze8 pend p T
  refine h T ex (pend ++ [p]) π hs hcl (fun j hj=>List.mem_cons_of_mem _ (hsub j hj)) (fun j hj=>?_) (fun q hq'=>?_) (Zdj hord fun q hq'=>?_) hn (s2.2 ⟨hpa,hρ⟩) (by rw [s1];exact hag.putT (by rw [Zdh,hn]) hd v) hI hA
  · rcases List.mem_cons.1 hj with rfl | hj
    · exact .inr ⟨p,by simp,rfl⟩
    · rcases hcov j hj with h | ⟨q,hq,he⟩
      · exact .inl h
      · exact .inr ⟨q,List.mem_append.2 (.inl hq),he⟩
  · rcases List.mem_append.1 hq' with hq' | hq'
    · have hqk:=hpd q hq'
      exact ⟨hqk.at_,hqk.notEx,List.mem_cons_of_mem _ hqk.listed,fun e h1 h2=>List.mem_cons_of_mem _ (hqk.edges e h1 h2),hqk.dom,hqk.quiet,hqk.pure⟩
    · rw [List.mem_singleton.1 hq']
      exact ⟨hi,fun hx=>hil (hsub i hx),List.mem_cons_self ..,fun e h1 h2=>List.mem_cons_of_mem _ (hel e h1 h2),fun j u hu=>(ZcD hu).1,hq,hpu⟩
  · have hqk:=hpd q hq'
    refine ⟨?_,fun e=>hil (by have e':q.i=i:=e;rw [← e'];exact hqk.listed)⟩
    show Zbf q.o i=false
    cases hb:Zbf q.o i with
    | false=>rfl
    | true=>exact absurd (Zbj hb hqk.edges) hil
theorem Zjo (i:Nat) {o:Oper} {v:Value} (hi:ops[i]? = some o) (hr:(Z8 ops ℓ).contains i=true) (hd:Zn n o.dst=true) (hq:quiet P n ops I i o v (sel (o.looksAt ops) S)) (h:ZaD C k n ops I (i :: ℓ) K (Zaz S o.dst v) D B L) (hp:ZgJ o=false:=by rfl):ZaD C k n ops I ℓ K S D B L:=
  ZfC i hi hr hd hq (fun e=>by rw [hp] at e;cases e) h
theorem ZQ (i:Nat) {o:Oper} {v:Value} (hi:ops[i]? = some o) (hr:(Z8 ops ℓ).contains i=true) (hd:Zn n o.dst=true) (hq :∀D B L,opX P n ops i o (fun v' D' B' L'=>v'=v∧D'=D∧B'=B∧L'=L) (sel (o.looksAt ops) S) D B L)
    (h:ZaD C k n ops I (i :: ℓ) K (Zaz S o.dst v) D B L):ZaD C k n ops I ℓ K S D B L:=
  ZfC i hi hr hd (fun D B L _=>hq D B L) (fun _ D B L _=>hq D B L) h
theorem Zbv (i:Nat) {o:Oper} (ho:orderly ops=true) (hi:ops[i]? = some o) (hr:Z8 ops ℓ=[i])
    (h:opX P n ops i o (fun v D' B' L'=>I B' L'∧ZaD C k n ops I (i :: ℓ) K (Zaz S o.dst v) D' B' L') (sel (o.looksAt ops) S) D B L):ZaD C k n ops I ℓ K S D B L:=
  ZeQ ho (fun hall=>by
      have hm:i∈Z8 ops ℓ:=by rw [hr];exact List.mem_singleton.2 rfl
      have h2:=(List.mem_filter.1 hm).2
      have h3:=hall i (ZG hi)
      simp [h3] at h2)
    fun m o' hm hml he=>by
      have h1:=Zec hm hml he
      rw [hr,List.mem_singleton] at h1
      subst h1
      rw [hi] at hm;cases hm
      exact h
def waits (ops:Array Oper):Nat→List Nat→List Nat
  | 0,w=>w
  | k+1,w=>waits ops k (w ++ (w.flatMap fun i=>match ops[i]? with | some o=>(o.after.toList.filter fun e=>Region.binds .any e).map (·.on) | none=>[]).eraseDups.filter fun j=>!w.contains j)
theorem Zgq {ops:Array Oper} {ex:List Nat} (hc:Closed ops ex) :∀(k:Nat) (w:List Nat),(∀i,i∈w→i∈ex)→∀i,i∈waits ops k w→i∈ex
  | 0,w,h,i,hi=>h i hi
  | k+1,w,h,i,hi=>by
    refine Zgq hc k _ (fun j hj=>?_) i hi
    rcases List.mem_append.1 hj with hj | hj
    · exact h j hj
    · have h1:=(List.mem_filter.1 hj).1
      rw [List.mem_eraseDups] at h1
      obtain ⟨x,hx,hj2⟩:=List.mem_flatMap.1 h1
      split at hj2
      · rename_i o ho
        obtain ⟨e,he,rfl⟩:=List.mem_map.1 hj2
        obtain ⟨he1,he2⟩:=List.mem_filter.1 he
        exact hc x (h x hx) o ho e he1 he2
      · cases hj2
def Zeo (o:Oper):List Nat:=(o.after.toList.filter fun e=>Region.binds .any e).map (·.on)
def Zk8 (ops:Array Oper) (m:Nat) (o:Oper):Bool:=(List.range ops.size).all fun i=>Nat.beq i m || (waits ops 12 (Zeo o)).contains i
theorem Zgl (m:Nat) {o:Oper} (ho:orderly ops=true) (hm:ops[m]? = some o) (hl:Zk8 ops m o=true) (hml:ℓ.contains m=false) (hall:Zcz ops (m :: ℓ)=true)
    (h:opX P n ops m o (fun v D' B' L'=>K (Zaz S o.dst v) D' B' L') (sel (o.looksAt ops) S) D B L):ZaD C k n ops I ℓ K S D B L:=by
  have hml':m ∉ ℓ:=by simpa using hml
  have hall' :∀i,i<ops.size→i=m∨i∈ℓ:=fun i hi=>by
    have:=List.all_eq_true.1 hall i (List.mem_range.2 hi)
    simpa using this
  intro T ex pend π hs
  induction hs generalizing T pend with
  | @nil ex hex=>
    intro hcl hsub hcov hpd hord hn hpa hag hI hA
    exact absurd (hsub m (hex m (ZG hm))) hml'
  | @cons ex π m' o' hm' hx he hs ih=>
    intro hcl hsub hcov hpd hord hn hpa hag hI hA
    have hcl':=hcl.cons hm' he
    by_cases hmm:m'=m
    · subst hmm
      rw [hm] at hm';cases hm'
      have hexall :∀i,i<ops.size→i≠m'→i∈ex:=fun i hi hne=>by
        have h1:=List.all_eq_true.1 hl i (List.mem_range.2 hi)
        have h2:i∈waits ops 12 (Zeo o):=by
          rcases Bool.or_eq_true_iff.1 h1 with h1 | h1
          · exact absurd (Nat.eq_of_beq_eq_true h1) hne
          · simpa using h1
        refine Zgq hcl 12 _ (fun j hj=>?_) i h2
        obtain ⟨e,he1,rfl⟩:=List.mem_map.1 hj
        obtain ⟨h3,h4⟩:=List.mem_filter.1 he1
        exact he e h3 h4
      have hp0:pend=[]:=by
        cases pend with
        | nil=>rfl
        | cons p r=>
          have hpk:=hpd p (List.mem_cons_self ..)
          by_cases hpm:p.i=m'
          · exact absurd (hpm ▸ hpk.listed) hml'
          · exact absurd (hexall p.i (ZG hpk.at_) hpm) hpk.notEx
      subst hp0
      have hπ:π=[]:=by
        cases hs with
        | nil _=>rfl
        | @cons _ π' m2 o2 h2 hx2 he2 hs2=>
          exfalso
          by_cases e:m2=m'
          · exact hx2 (e ▸ List.mem_cons_self ..)
          · exact hx2 (List.mem_cons_of_mem _ (hexall m2 (ZG h2) e))
      subst hπ
      have hsel:Ag T (sel (o.looksAt ops) S):=fun i v hv=>hag i v (ZcD hv).2
      refine h.2 C [] k T hm hn hsel fun v D' B' L' hle hK=>?_
      exact hA _ D' B' L' _ hle hK (by rw [Zbi,hn]) (Ag.putT (T:=T) hag hn h.1 v)
    · have hml2:m'∈ℓ:=(hall' m' (ZG hm')).resolve_left hmm
      rcases hcov m' hml2 with h' | ⟨p,hp,rfl⟩
      · exact absurd h' hx
      · obtain ⟨p1,p2,rfl⟩:=List.append_of_mem hp
        have hpk:=hpd p hp
        have hpo:p.o=o':=by have:=hpk.at_;rw [hm'] at this;exact (Option.some.inj this).symm
        obtain ⟨o1,o2,o3⟩:=ZcF hord
        have hconf :∀q,q∈p1→conf ops q.o p.o=false∧Zf1 ops q:=fun q hq=>by
          have hqk:=hpd q (List.mem_append.2 (.inl hq))
          refine ⟨?_,hqk.dom⟩
          cases hc:conf ops q.o p.o with
          | false=>rfl
          | true=>
            rcases ZbG ho hqk.at_ hpk.at_ (o1 q hq).2 hc with h | h
            · rw [(o1 q hq).1] at h;cases h
            · exact absurd (Zbj h (hpo ▸ he)) hqk.notEx
        obtain ⟨a1,a2,a3⟩:=Zev hpk.dom p1 p2 T hconf hpa
        refine (hpk.quiet D B L hI).2 C π k T hpk.at_ hn a1 ?_
        rintro v D' B' L' hle ⟨rfl,rfl,rfl,rfl⟩
        refine ih _ (p1 ++ p2) hcl' (fun i hi=>?_) (fun i hi=>?_) (fun q hq=>?_) o3 (by rw [Zbi,hn]) a3 (by rw [a2];exact hag) hI hA
        · rcases List.mem_cons.1 hi with rfl | hi
          · exact hml2
          · exact hsub i hi
        · rcases hcov i hi with h | ⟨q,hq,rfl⟩
          · exact .inl (List.mem_cons_of_mem _ h)
          · rcases List.mem_append.1 hq with hq | hq
            · exact .inr ⟨q,List.mem_append.2 (.inl hq),rfl⟩
            · rcases List.mem_cons.1 hq with rfl | hq
              · exact .inl (List.mem_cons_self ..)
              · exact .inr ⟨q,List.mem_append.2 (.inr hq),rfl⟩
        · have hq':q∈p1 ++ p :: p2:=by
            rcases List.mem_append.1 hq with hq | hq
            · exact List.mem_append.2 (.inl hq)
            · exact List.mem_append.2 (.inr (List.mem_cons_of_mem _ hq))
          have hqk:=hpd q hq'
          refine ⟨hqk.at_,fun hmem=>?_,hqk.listed,hqk.edges,hqk.dom,hqk.quiet,hqk.pure⟩
          rcases List.mem_cons.1 hmem with h | h
          · rcases List.mem_append.1 hq with hq | hq
            · exact (o1 q hq).2 h
            · exact o2 q hq h.symm
          · exact hqk.notEx h
theorem Z7 {id:Nat} {l:List Oper} {Q:Exit→ZR} (I:Kn→List Cells→Prop) (hm:P.follows .mixedOrders=true) (hd:Zbk l.toArray=true) (hI:I B L) (h :∀(C:Cx P) (k:List Item),ZaD C k n l.toArray I [] (Q .normal) S D B L):wpS P n (.region id l.toArray true) Q S D B L:=fun C k T hn hT hA=>by
  refine C.X.step rfl fun w s=>⟨_,_,_,B,L.flatten ++ C.F,ZdR,by simp,⟨Kn.le.refl B,⟨s.ro,s.own,s.nodup,s.apart⟩,Nat.le_refl _,fun _ _ _=>rfl,fun b o hb=>.inl (by rw [hb];rfl),fun p hp=>.inl ⟨p,hp,rfl⟩,fun _=>rfl,rfl,rfl,rfl⟩,?_⟩
  exact h C k T [] [] _ (ZiR hm hd _) (fun i hi=>by cases hi) (fun i hi=>by cases hi) (fun i hi=>by cases hi) (fun p hp=>by cases hp) trivial hn trivial hT hI fun S' D' B' L' T' hle hq hn' hT'=>
    C.X.ctl rfl (fun w=>Zcn) (hA .normal S' D' B' L' T' hle hq hn' hT')
end
end Go.BL
namespace Go.BL
section
variable {P:PJ} {C:Cx P} {k:List Item} {n:Nat} {Q:Exit→ZR} {S:Env} {D:List Deferred} {B:Kn} {L:List Cells}
theorem ZgX {id:Nat} {l:List Oper} {y:Code} (d:Nat) (e:Bool) (ks:List Nat) (h:ZiF P n l.toArray 0 l (fun S₂ D₂ B₂ L₂=>D₂=D∧B₂=B∧L₂=L∧get S₂ d=some (.bool e)∧Sub (sel ks S) S₂) S D B L)
    (h':wpS P n y Q ((d,.bool e) :: sel ks S) D B L):wpS P n (.seq (.region id l.toArray false) y) Q S D B L:=
  ZkT (fun S₂ D₂ B₂ L₂=>D₂=D∧B₂=B∧L₂=L∧get S₂ d=some (.bool e)∧Sub (sel ks S) S₂) (Zk h) fun S₂ D₂ B₂ L₂ _ ⟨h1,h2,h3,h4,h5⟩=>by
    subst h1;subst h2;subst h3
    exact Zy ((d,.bool e) :: sel ks S) ⟨h4,h5⟩ h'
theorem Zc6 {id:Nat} {l:List Oper} {y:Code} (d:Nat) (e:Bool) (ks:List Nat) (I:Kn→List Cells→Prop) (hm:P.follows .mixedOrders=true) (hd:Zbk l.toArray=true) (hI:I B L)
    (h :∀(C:Cx P) (k:List Item),ZaD C k n l.toArray I [] (fun S₂ D₂ B₂ L₂=>D₂=D∧B₂=B∧L₂=L∧get S₂ d=some (.bool e)∧Sub (sel ks S) S₂) S D B L)
    (h':wpS P n y Q ((d,.bool e) :: sel ks S) D B L):wpS P n (.seq (.region id l.toArray true) y) Q S D B L:=
  ZkT (fun S₂ D₂ B₂ L₂=>D₂=D∧B₂=B∧L₂=L∧get S₂ d=some (.bool e)∧Sub (sel ks S) S₂) (Z7 I hm hd hI h) fun S₂ D₂ B₂ L₂ _ ⟨h1,h2,h3,h4,h5⟩=>by
    subst h1;subst h2;subst h3
    exact Zy ((d,.bool e) :: sel ks S) ⟨h4,h5⟩ h'
theorem ZeC {S₂:Env} {d:Nat} {x e:Bool} (hx:get S₂ d=some (.bool x)) (he:x=e):get S₂ d=some (.bool e):=by rw [hx,he]
theorem Zai {ops:Array Oper} {I:Kn→List Cells→Prop} {ℓ:List Nat} {K:ZR} {d:Nat} {t:Bool} (hb:get S d=some (.bool t)) (h1:t=true→ZaD C k n ops I ℓ K ((d,.bool true) :: S) D B L) (h2:t=false→ZaD C k n ops I ℓ K ((d,.bool false) :: S) D B L):ZaD C k n ops I ℓ K S D B L:=by
  have key :∀(S':Env),(∀i v,get S' i=some v→get S i=some v)→ZaD C k n ops I ℓ K S' D B L→ZaD C k n ops I ℓ K S D B L:=
    fun S' hs h T ex pend π a1 a0 a2 a3 a4 a5 a6 a7 a8 a9 hA=>h T ex pend π a1 a0 a2 a3 a4 a5 a6 a7 (fun i v hv=>a8 i v (hs i v hv)) a9 hA
  have get_same :∀(u:Bool),t=u→∀i v,get ((d,Value.bool u) :: S) i=some v→get S i=some v:=by
    intro u hu i v hv
    simp only [get] at hv
    cases hbe:Nat.beq d i with
    | true=>
      rw [hbe] at hv
      simp only [cond_true,Option.some.injEq] at hv
      have:=Nat.eq_of_beq_eq_true hbe
      subst this;subst hu;rw [hb,← hv]
    | false=>rw [hbe] at hv;exact hv
  cases t with
  | true=>exact key _ (get_same true rfl) (h1 rfl)
  | false=>exact key _ (get_same false rfl) (h2 rfl)
@[reducible] def same (B:Kn) (L:List Cells):Kn→List Cells→Prop:=fun B' L'=>B'=B∧L'=L
theorem ZU {ops:Array Oper} {i:Nat} {o:Oper} {v:Value} {ρ:Env} (h :∀D,opX P n ops i o (fun v' D' B' L'=>v'=v∧D'=D∧B'=B∧L'=L) ρ D B L):quiet P n ops (same B L) i o v ρ:=by
  rintro D _ _ ⟨rfl,rfl⟩;exact h D
end
end Go.BL
namespace Go.BL
def Zdt:List Nat→List Cells→List Cells→Prop
  | [],_,_=>True
  | j :: js,L,L'=>L'[j]? = L[j]?∧Zdt js L L'
@[reducible] def keeps (B:Kn) (js:List Nat) (L:List Cells):Kn→List Cells→Prop:=fun B' L'=>B.le B'∧Zdt js L L'
theorem Zdt.refl :∀(js:List Nat) (L:List Cells),Zdt js L L
  | [],_=>trivial
  | _ :: js,L=>⟨rfl,Zdt.refl js L⟩
section
variable {P:PJ} {C:Cx P} {k:List Item} {n:Nat} {B:Kn} {L:List Cells}
theorem Ze7 {ops:Array Oper} {I:Kn→List Cells→Prop} {i:Nat} {o:Oper} {v:Value} {ρ:Env} (h :∀D B L,I B L→opX P n ops i o (fun v' D' B' L'=>v'=v∧D'=D∧B'=B∧L'=L) ρ D B L):quiet P n ops I i o v ρ:=h
end
end Go.BL
namespace Go.BL
open Go.Conc (G)
set_option linter.unusedVariables false
def ZdN (l:Cells) (p:Option Addr) (n c:Nat) (T:TypeId) (sz:Nat) (vs:List Value):Prop:=
  vs.length=n*sz∧((p=none∧n=0∧c=0∧l=[])∨∃(b:Nat) (arr:List Value),p=some ⟨b,0,none⟩∧arr.length=c*sz∧arr.take (n*sz)=vs∧l=ZaB b arr T∧n≤c)
theorem ZdN.nil (T:TypeId) (sz:Nat):ZdN [] none 0 0 T sz []:=⟨by simp,.inl ⟨rfl,rfl,rfl,rfl⟩⟩
theorem ZdN.lit {b:Nat} {arr:List Value} {T:TypeId} {sz n:Nat} (h:arr.length=n*sz):ZdN (ZaB b arr T) (some ⟨b,0,none⟩) n n T sz arr:=
  ⟨h,.inr ⟨b,arr,rfl,h,by rw [← h];simp,rfl,Nat.le_refl _⟩⟩
theorem Zfp (m:Nat) :∀(r c:Nat),256≤c→c≤2*m→Builtin.growBy m r c≤2*m
  | 0,c,_,h=>h
  | r+1,c,h0,h=>by
    simp only [Builtin.growBy]
    split
    · exact h
    · exact Zfp m r _ (by omega) (by omega)
theorem Zdn {need cap:Nat} (h:cap<need):Builtin.nextslicecap need cap≤2*need:=by
  unfold Builtin.nextslicecap
  split
  · omega
  · split
    · omega
    · exact Zfp need 4 cap (by omega) (by omega)
def Zbb (B:Kn) (L:Cells) (q:Option Addr) (ws:List Value):Prop:=match q with
  | none=>ws=[]
  | some a=>∀j v,ws[j]? = some v→Z9 B L (a.add j) v
theorem Zbb.app {B:Kn} {L F:Cells} {q:Option Addr} {ws:List Value} (h:Zbb B L q ws):Zbb B (L ++ F) q ws:=by
  cases q with
  | none=>exact h
  | some a=>exact fun j v hj=>(h j v hj).app
theorem Zbu {P:PJ} {B:Kn} {L:Cells} {q:Option Addr} {ws:List Value} {sz m c:Nat} (hs:Zbb B L q ws) (hl:ws.length=m*sz) {Q:Array Value→Kn→Cells→Prop} (h:Q ws.toArray B L):hb P (Builtin.firstCells sz m (.slice q m c)) Q B L:=by
  cases q with
  | none=>
    obtain rfl:ws=[]:=hs
    exact h
  | some a=>
    simp only [Builtin.firstCells,loadCells]
    rw [← hl]
    exact Zat ws 0 #[] (fun j v hj=>by simpa using hs j v hj) (by simpa using h)
theorem ZI :∀(l:List Value) (i:Nat) (vs:List Value),(ZV l i vs).length=l.length
  | [],i,[]=>by cases i <;> rfl
  | [],i,v :: vs=>by cases i <;> rfl
  | x :: l,0,[]=>rfl
  | x :: l,i+1,[]=>rfl
  | x :: l,0,v :: vs=>by simp [ZV,ZI l 0 vs]
  | x :: l,i+1,v :: vs=>by simp [ZV,ZI l i (v :: vs)]
theorem ZbP :∀(l:List Value) (i:Nat) (vs:List Value),i+vs.length≤l.length→(ZV l i vs).take (i+vs.length)=l.take i ++ vs
  | l,i,[],h=>by simp [Zao]
  | [],i,v :: vs,h=>by simp at h
  | x :: l,0,v :: vs,h=>by
    have:=ZbP l 0 vs (by simpa using h)
    simp only [Nat.zero_add] at this
    simp [ZV,this]
  | x :: l,i+1,v :: vs,h=>by
    have:=ZbP l i (v :: vs) (by simp only [List.length_cons] at h ⊢;omega)
    simp only [ZV,List.take_succ_cons,List.cons_append,List.length_cons] at this ⊢
    rw [show i+1+(vs.length+1)=(i+(vs.length+1))+1 from by omega,List.take_succ_cons,this]
section
variable {P:PJ} {n:Nat} {ops:Array Oper} {i:Nat} {K:Z6} {S:Env} {D:List Deferred} {B:Kn} {L:List Cells}
variable {dst:Option Tmp} {ty:TypeId} {pos:String} {after:Array Edge} {g:Option (Nat × Bool)}
def ZbY (P:Program) (t e:TypeId) (sz by_:Nat):Bool:=match P.underlying t,P.info? e with
  | some (.slice e'),some i=>e' == e && i.size == sz && i.bytes == by_ && Nat.blt 0 by_ && (match i.zero with | some z=>z.cells.size == sz | none=>false)
  | _,_=>false
theorem Zei {k:Nat} {Q:Unit→Kn→Cells→Prop} {B:Kn} {L:Cells} (h:Q () B L):hb P (askRoom k) Q B L:=by
  unfold askRoom
  split
  · exact ⟨rfl,h⟩
  · exact h
theorem ZdP (z:Array Value) (k:Nat):(Builtin.zeroCells z k).size=k*z.size:=by simp [Builtin.zeroCells]
theorem Zcj {t u e:TypeId} {x y:Operand} {sz by_ m c d c2:Nat} {p q:Option Addr} {vs ws:List Value} {l:Cells} (j:Nat) (hj:L[j]? = some l) (hv:ZdN l p m c e sz vs) (hg:Zf ops S g=some true) (hd:Zn n dst=true)
    (he:ZbY P t e sz by_=true) (hu:(match P.underlying u with | some (.slice _)=>true | _=>false)=true) (hx:ev S x=some (.slice p m c)) (hy:ev S y=some (.slice q d c2)) (hs:Zbb B L.flatten q ws) (hl:ws.length=d*sz) (hone:ws.all Zc0=true) (hb1:(m+d)*by_≤140737488355328)
    (h :∀l' p' c',ZdN l' p' (m+d) c' e sz (vs ++ ws)→K (.slice p' (m+d) c') D B (L.set j l')):opX P n ops i ⟨dst,.call ⟨.builtin .append,#[x,y],#[t,u]⟩,ty,pos,after,g⟩ K S D B L:=
  Zdk hg hd fun ρ hρ F=>by
    unfold ZbY at he
    split at he
    · rename_i e' inf hut hie
      simp only [Bool.and_eq_true,beq_iff_eq] at he
      obtain ⟨⟨⟨⟨rfl,hsz⟩,hby⟩,hpos⟩,hz⟩:=he
      cases hzo:inf.zero with
      | none=>rw [hzo] at hz;cases hz
      | some z=>
        rw [hzo] at hz
        have hz':z.cells.size=sz:=by simpa using hz
        have hsi:ZL P e'=some sz:=by simp [ZL,hie,hsz]
        have hzi:Zaj P e'=some z:=by simp [Zaj,hie,hzo]
        obtain ⟨du,hdu,hnoint⟩ :∃du,P.underlying u=some du∧(match du with | .slice _=>true | _=>false)=true:=by
          cases hq:P.underlying u with
          | none=>rw [hq] at hu;cases hu
          | some du=>exact ⟨du,rfl,by rw [hq] at hu;cases du <;> simp_all⟩
        obtain ⟨e2,rfl⟩ :∃e2,du = .slice e2:=by cases du <;> first | exact ⟨_,rfl⟩ | cases hnoint
        obtain ⟨rr,hp1,_⟩:=Zae F [] hj
        have hset :∀l',((L.set j l').flatten ++ F).Perm (l' ++ rr):=fun l'=>by
          obtain ⟨r2,a1,a2⟩:=Zae F l' hj
          have:rr.Perm r2:=(List.perm_append_left_iff l).1 (hp1.symm.trans a1)
          exact a2.trans (List.Perm.append_left l' this.symm)
        obtain ⟨hvl,hcase⟩:=hv
        simp only [execOp,resolve,Zi,Zm,invoke,builtin,Builtin.append_,List.map_toArray,List.map_cons,List.map_nil,hρ x _ hx,hρ y _ hy,List.getElem?_toArray,List.getElem?_cons_zero,List.getElem?_cons_succ,Zo hut,Zo hdu,Z0 hsi,Bool.false_eq_true,if_false,Builtin.lenOf,Bool.not_false,if_true]
        by_cases hfit:m+d≤c
        · rw [if_pos hfit]
          simp only [Zi]
          refine Zbu hs.app hl ?_
          rcases hcase with ⟨rfl,rfl,rfl,rfl⟩ | ⟨b,arr,rfl,ha,ht,rfl,hmc⟩
          · simp only [Zm]
            obtain rfl:d=0:=by omega
            have hw:ws=[]:=List.eq_nil_of_length_eq_zero (by simpa using hl)
            have hvn:vs=[]:=List.eq_nil_of_length_eq_zero (by simpa using hvl)
            refine ⟨L,.of (.refl _),?_⟩
            have:=h [] none 0 ⟨by simp [hw,hvn],.inl ⟨rfl,rfl,rfl,rfl⟩⟩
            rwa [Zet hj] at this
          · simp only [Zi]
            have hoff:(Addr.add ⟨b,0,none⟩ (m*sz)).off=m*sz:=by unfold Addr.add;split <;> simp_all
            have hblk:(Addr.add ⟨b,0,none⟩ (m*sz)).block=b:=by unfold Addr.add;split <;> rfl
            have hspt:(Addr.add ⟨b,0,none⟩ (m*sz)).spot=none:=by unfold Addr.add;split <;> rfl
            have hlen:m*sz+ws.length≤arr.length:=by rw [ha,hl,← Nat.add_mul];exact Nat.mul_le_mul_right sz hfit
            refine Zbt (T:=e') (L₁:=rr) hspt ws 0 arr _ hone (by rw [hblk];exact hp1) (by rw [hoff,Nat.add_zero];exact hlen) fun L' hp=>?_
            simp only [Zm]
            rw [hblk,hoff,Nat.add_zero] at hp
            refine ⟨L.set j (ZaB b (ZV arr (m*sz) ws) e'),(Sup.of (hp.trans (hset (ZaB b (ZV arr (m*sz) ws) e')).symm)),h _ _ _ ⟨?_,.inr ⟨b,_,rfl,by rw [ZI,ha],?_,rfl,hfit⟩⟩⟩
            · rw [List.length_append,hvl,hl,Nat.add_mul]
            · rw [Nat.add_mul,← hl,ZbP _ _ _ hlen,ht]
        · rw [if_neg hfit]
          have hcap:c<m+d:=by omega
          have hbig : ¬ (Builtin.nextslicecap (m+d) c*by_ > 2 ^ 48):=by
            have h1:=Zdn hcap
            have h2:Builtin.nextslicecap (m+d) c*by_≤2*(m+d)*by_:=Nat.mul_le_mul_right _ h1
            have h3:2*(m+d)*by_=2*((m+d)*by_):=by rw [Nat.mul_assoc]
            omega
          have hby0:inf.bytes≠0:=by rw [hby];have:=hpos;simp at this;omega
          have hby1:by_≠0:=by rw [← hby];exact hby0
          simp only [Zi,Za8 hie,hby,hbig,if_false,false_or,hby1,and_false]
          intro nc hf1 hf2
          obtain ⟨tt,rfl⟩:=hf2 rfl
          have hnc:m+d≤Question.cut (.appendCap (m+d) c e') tt:=by simp only [Question.cut];omega
          generalize Question.cut (.appendCap (m+d) c e') tt=nc at *
          simp only [Zi,ZeJ,Za8 hie]
          refine Zei ?_
          have hold:Zbb B (L.flatten ++ F) p vs:=by
            rcases hcase with ⟨rfl,rfl,rfl,rfl⟩ | ⟨b,arr,rfl,ha,ht,rfl,hmc⟩
            · exact List.eq_nil_of_length_eq_zero (by simpa using hvl)
            · intro k v hk
              have hv':arr[k]? = some v:=by
                rw [← ht,List.getElem?_take] at hk
                split at hk
                · exact hk
                · cases hk
              rw [Addr.add_off _ _ rfl,Nat.zero_add]
              exact ⟨rfl,arr.toArray,e',(0,0),.inr (List.mem_append.2 (.inl (List.mem_flatten.2 ⟨_,List.mem_of_getElem? hj,List.mem_cons_self ..⟩))),by simpa using hv'⟩
          rw [Zi]
          refine Zbu hold hvl ?_
          rw [Zi]
          refine Zbu hs.app hl ?_
          rw [Zi,ZaT hzi,Zi]
          refine ⟨rfl,fun b _ _=>?_⟩
          have hzs:(Builtin.zeroCells z.cells (nc - (m+d))).size=(nc - (m+d))*sz:=by rw [ZdP,hz']
          have harr:vs.toArray ++ ws.toArray ++ Builtin.zeroCells z.cells (nc - (m+d))=(vs ++ ws ++ (Builtin.zeroCells z.cells (nc - (m+d))).toList).toArray:=by
            apply Array.ext';simp
          simp only [ZeJ,Zm]
          rw [harr]
          let r0:List Value:=(Builtin.zeroCells z.cells (nc - (m+d))).toList
          have hr0:r0.length=(nc - (m+d))*sz:=by simp only [r0,Array.length_toList];exact hzs
          refine ⟨L.set j (ZaB b (vs ++ ws ++ r0) e'),⟨l,?_⟩,h _ _ _ ⟨?_,.inr ⟨b,vs ++ ws ++ r0,rfl,?_,?_,rfl,hnc⟩⟩⟩
          · refine (List.Perm.cons _ hp1).trans (List.Perm.trans ?_ (List.Perm.append_right l (hset (ZaB b (vs ++ ws ++ r0) e')).symm))
            show ((b,_) :: (l ++ rr)).Perm (((b,_) :: rr) ++ l)
            exact List.Perm.cons _ List.perm_append_comm
          · rw [List.length_append,hvl,hl,Nat.add_mul]
          · rw [List.length_append,List.length_append,hvl,hl,hr0,← Nat.add_mul,← Nat.add_mul,Nat.add_sub_cancel' hnc]
          · rw [List.take_append_of_le_length (by rw [List.length_append,hvl,hl,Nat.add_mul];exact Nat.le_refl _),List.take_of_length_le (by rw [List.length_append,hvl,hl,Nat.add_mul];exact Nat.le_refl _)]
    · cases he
end
end Go.BL
namespace Go.BL
open Go.Conc (G)
set_option linter.unusedVariables false
def ZdT (pl:Nat→Option (Nat × Nat)):List Value→List (Nat × Value)→Option (List Value)
  | l,[]=>some l
  | l,(i,v) :: r=>match pl i with
    | some (off,sz)=>bif Nat.beq v.cells.toList.length sz && Nat.ble (off+sz) l.length then ZdT pl (ZV l off v.cells.toList) r else none
    | none=>none
theorem ZgM (off:Nat) :∀(cs:List Value) (k:Nat) (a:Array Value),((cs.zipIdx k).foldl (fun a (x:Value × Nat)=>a.setIfInBounds (off+x.2) x.1) a).toList=ZV a.toList (off+k) cs
  | [],k,a=>by simp [Zao]
  | c :: cs,k,a=>by
    rw [List.zipIdx_cons,List.foldl_cons,ZgM off cs (k+1)]
    rw [ZaZ]
    simp [Nat.add_assoc]
theorem ZdI (pl:Nat→Option (Nat × Nat)) :∀(parts:List (Nat × Value)) (a:Array Value) (l':List Value),ZdT pl a.toList parts=some l'→Instr.fill pl a parts=some l'.toArray
  | [],a,l',h=>by
    simp only [ZdT,Option.some.injEq] at h
    subst h
    simp [Instr.fill]
  | (i,v) :: r,a,l',h=>by
    simp only [ZdT] at h
    split at h
    · rename_i off sz hpl
      cases hc:(Nat.beq v.cells.toList.length sz && Nat.ble (off+sz) a.toList.length) with
      | false=>rw [hc] at h;cases h
      | true=>
        rw [hc] at h
        simp only [cond_true] at h
        rw [Bool.and_eq_true] at hc
        have h1:v.cells.size=sz:=by have:=Nat.eq_of_beq_eq_true hc.1;simpa using this
        have h2:off+sz≤a.size:=by have:=Nat.le_of_ble_eq_true hc.2;simpa using this
        simp only [Instr.fill,hpl,h1,ne_eq,not_true_eq_false,decide_false,Bool.false_or]
        rw [if_neg (by simp;omega)]
        have hf:=ZgM off v.cells.toList 0 a
        have e:(v.cells.zipIdx.foldl (fun cs (x:Value × Nat)=>cs.setIfInBounds (off+x.2) x.1) a).toList=ZV a.toList off v.cells.toList:=by
          rw [← Array.foldl_toList,Array.toList_zipIdx]
          simpa using hf
        refine ZdI pl r _ l' ?_
        rw [← h]
        exact congrArg (fun z=>ZdT pl z r) e
    · cases h
def ZaY (P:Program) (t:TypeId):Option (List (Nat × Nat)):=
  match P.underlying t with
  | some (.struct fs)=>fs.toList.mapM fun f=>(P.info? f.type).map fun i=>(f.offset,i.size)
  | _=>none
section
variable {P:PJ} {n:Nat} {ops:Array Oper} {i:Nat} {K:Z6} {S:Env} {D:List Deferred} {B:Kn} {L:List Cells}
variable {dst:Option Tmp} {ty:TypeId} {pos:String} {after:Array Edge} {g:Option (Nat × Bool)}
theorem Zhh {Q:List (Nat × Nat)→Kn→Cells→Prop} {B:Kn} {L:Cells} :∀(fs:List Field) (pl:List (Nat × Nat)),fs.mapM (fun f=>(P.info? f.type).map fun i=>(f.offset,i.size))=some pl→Q pl B L→
    hb P (fs.mapM fun f=>do pure (f.offset,← sizeOf f.type)) Q B L:=by
  intro fs
  induction fs generalizing Q with
  | nil=>intro pl h q;simp only [List.mapM_nil,Option.pure_def,Option.some.injEq] at h;subst h;rw [List.mapM_nil];exact q
  | cons f fs ih=>
    intro pl h q
    simp only [List.mapM_cons,Option.bind_eq_bind,Option.bind_eq_some_iff,Option.map_eq_some_iff,Option.pure_def,Option.some.injEq] at h
    obtain ⟨p,⟨inf,hi,rfl⟩,r,hr,rfl⟩:=h
    have hs:ZL P f.type=some inf.size:=by simp [ZL,hi]
    rw [List.mapM_cons,Zi]
    simp only [Zi,Z0 hs,Zm]
    exact ih r hr q
theorem ZeU (ρ:Operand→Value) :∀(parts:List (Nat × Operand)),(parts.toArray.map fun (x:Nat × Operand)=>(x.1,ρ x.2)).toList=(parts.map (·.1)).zip ((parts.map (·.2)).map ρ):=by
  intro parts
  rw [List.map_toArray]
  induction parts with
  | nil=>rfl
  | cons p r ih=>exact congrArg (List.cons (p.1,ρ p.2)) ih
theorem ZdH (sz:Nat) :∀(vs:List Value),vs.all (fun v=>Nat.beq v.cells.toList.length sz)=true→(vs.map fun v=>v.cells.toList).flatten.length=vs.length*sz
  | [],_=>by simp
  | v :: vs,h=>by
    simp only [List.all_cons,Bool.and_eq_true] at h
    rw [List.map_cons,List.flatten_cons,List.length_append,ZdH sz vs h.2,Nat.eq_of_beq_eq_true h.1,List.length_cons,Nat.succ_mul,Nat.add_comm]
theorem Zc9 {t:TypeId} {parts:List (Nat × Operand)} {z:Value} {pl:List (Nat × Nat)} {vs:List Value} (zl l':List Value) (hg:Zf ops S g=some true) (hd:Zn n dst=true)
    (hpl:ZaY P t=some pl) (hz:Zaj P t=some z) (hzl:z.cells.toList=zl) (ha:evs S (parts.map (·.2))=some vs) (hf:ZdT (fun i=>pl[i]?) zl ((parts.map (·.1)).zip vs)=some l')
    (h:K (.agg l'.toArray) D B L):opX P n ops i ⟨dst,.build t parts.toArray,ty,pos,after,g⟩ K S D B L:=
  Zw hg hd (fun ρ hρ Q F q=>by
    unfold ZaY at hpl
    split at hpl
    · rename_i fs hu
      have hmap:(parts.toArray.map fun (x:Nat × Operand)=>(x.1,ρ x.2)).toList=(parts.map (·.1)).zip vs:=by
        rw [← ZaR hρ ha]
        exact ZeU ρ parts
      simp only [execOp,Instr.build,Zi,ZaT hz,Zo hu,Array.mapM_eq_mapM_toList,ZjR]
      refine Zhh fs.toList pl hpl ?_
      have hfill:Instr.fill (fun i=>pl.toArray[i]?) z.cells ((parts.map (·.1)).zip vs)=some l'.toArray:=by
        refine ZdI _ _ _ l' ?_
        rw [hzl]
        simpa using hf
      rw [hmap,hfill]
      exact q
    · cases hpl) h
theorem Zac {t e:TypeId} {len sz:Nat} {parts:List (Nat × Operand)} {z:Value} {vs:List Value} (l':List Value) (hg:Zf ops S g=some true) (hd:Zn n dst=true)
    (hu:P.underlying t=some (.slice e)) (hsz:ZL P e=some sz) (hz:Zaj P e=some z) (hbig:Nat.ble (len*sz) 1024=true) (hidx:parts.map (·.1)=List.range len) (ha:evs S (parts.map (·.2))=some vs) (hall:vs.all (fun v=>Nat.beq v.cells.toList.length sz)=true) (hl':(vs.map fun v=>v.cells.toList).flatten=l')
    (h :∀b,K (.slice (some ⟨b,0,none⟩) len len) D B (L ++ [ZaB b l' e])):opX P n ops i ⟨dst,.buildSlice t len parts.toArray,ty,pos,after,g⟩ K S D B L:=
  Zdk hg hd fun ρ hρ F=>by
    have hmap:(parts.toArray.map fun (x:Nat × Operand)=>(x.1,ρ x.2)).toList=(List.range len).zip vs:=by
      rw [← hidx,← ZaR hρ ha]
      exact ZeU ρ parts
    have hbig' : ¬ (len*sz > 2 ^ 24):=by have:=Nat.le_of_ble_eq_true hbig;omega
    have hvl:vs.length=len:=by
      have h1:=congrArg List.length hidx
      have h2:=congrArg List.length (ZaR hρ ha)
      simp only [List.length_map,List.length_range] at h1 h2
      omega
    have hfillL :∀(vs:List Value) (k:Nat) (l:List Value),vs.all (fun v=>Nat.beq v.cells.toList.length sz)=true→(k+vs.length)*sz≤l.length→
        ZdT (fun i=>some (i*sz,sz)) l ((List.range' k vs.length).zip vs)=some (ZV l (k*sz) (vs.map fun v=>v.cells.toList).flatten):=by
      intro vs
      induction vs with
      | nil=>intro k l _ _;simp [ZdT,Zao]
      | cons v vs ih=>
        intro k l hall hl
        simp only [List.all_cons,Bool.and_eq_true] at hall
        have e1:=Nat.eq_of_beq_eq_true hall.1
        have hle:k*sz+sz≤l.length:=by
          rw [← Nat.succ_mul]
          exact Nat.le_trans (Nat.mul_le_mul_right sz (by simp only [List.length_cons];omega)) hl
        simp only [List.length_cons,List.range'_succ,List.zip_cons_cons,ZdT,hall.1,Bool.true_and]
        rw [show Nat.ble (k*sz+sz) l.length=true from Nat.ble_eq_true_of_le hle]
        simp only [cond_true]
        rw [ih (k+1) _ hall.2 (by rw [ZI];simp only [List.length_cons] at hl;rw [show k+1+vs.length=k+(vs.length+1) from by omega];exact hl)]
        rw [List.map_cons,List.flatten_cons]
        congr 1
        have :∀(a:List Value) (l:List Value) (o:Nat) (r:List Value),ZV l o (a ++ r)=ZV (ZV l o a) (o+a.length) r:=by
          intro a
          induction a with
          | nil=>intro l o r;simp [Zao]
          | cons x a ih2=>
            intro l o r
            rw [List.cons_append,ZaZ,ih2,ZaZ,List.length_cons]
            congr 1
            omega
        rw [this,e1,Nat.succ_mul]
    have key :∀za:Array Value,za.toList.length=len*sz→Instr.fill (fun i=>some (i*sz,sz)) za ((List.range len).zip vs)=some l'.toArray:=by
      intro za hza
      refine ZdI _ _ _ l' ?_
      have:=hfillL vs 0 za.toList hall (by rw [Nat.zero_add,hvl,hza];exact Nat.le_refl _)
      rw [List.range_eq_range',← hvl,this,Nat.zero_mul]
      congr 1
      rw [hl']
      have hl2:l'.length=za.toList.length:=by
        rw [← hl',hza,ZdH sz vs hall,hvl]
      have ht:=ZbP za.toList 0 l' (by omega)
      rw [List.take_of_length_le (by rw [ZI];omega)] at ht
      simpa using ht
    simp only [execOp,Instr.buildSlice,Zi,Zo hu,Z0 hsz,hbig',if_false,Zm,hmap]
    have hend :∀(z0:Sem Value) (za:Array Value),za.toList.length=len*sz→hb P (match Instr.fill (fun i=>some (i*sz,sz)) za ((List.range len).zip vs) with
        | some cells=>do pure (Value.slice (some (← newRow e cells)) len len)
        | _=>z0) (fun v B' L'=>∃L1,Sup L' (L1.flatten ++ F)∧K v D B' L1) B (L.flatten ++ F):=fun z0 za hza=>by
      rw [key za hza]
      simp only [Zi,Zm]
      refine ⟨rfl,fun b _ _=>?_⟩
      exact ⟨L ++ [ZaB b l' e],.of (ZbM L (ZaB b l' e) F),h b⟩
    by_cases h0:len*sz=0
    · rw [if_pos h0]
      exact hend _ _ (by simp)
    · rw [if_neg h0]
      simp only [Zi,ZaT hz,Zm]
      exact hend _ _ (by simp)
end
end Go.BL
namespace Go.BL
open Go.Conc (G)
set_option linter.unusedVariables false
section
variable {P:PJ} {n:Nat} {ops:Array Oper} {i:Nat} {K:Z6} {S:Env} {D:List Deferred} {B:Kn} {L:List Cells}
variable {dst:Option Tmp} {ty:TypeId} {pos:String} {after:Array Edge} {g:Option (Nat × Bool)}
theorem Zj2 {s d:TypeId} {x:Operand} {k k':IntKind} {a r:Int} (hg:Zf ops S g=some true) (hd:Zn n dst=true) (hu:P.underlying s=some (.int k)) (hu':P.underlying d=some (.int k')) (hx:ev S x=some (.int k a)) (hr:k'.wrap a=r) (h:K (.int k' r) D B L) :
    opX P n ops i ⟨dst,.convert s d x,ty,pos,after,g⟩ K S D B L:=
  Zw hg hd (fun ρ hρ Q F q=>by
    subst hr
    simp only [execOp,convert,hρ x _ hx,Zi,Zo hu,Zo hu',Conv.intToInt,Zm];exact q) h
end
section
variable {P:PJ} {n:Nat} {ops:Array Oper} {i:Nat} {K:Z6} {S:Env} {D:List Deferred} {B:Kn} {L:List Cells}
variable {dst:Option Tmp} {ty:TypeId} {pos:String} {after:Array Edge} {g:Option (Nat × Bool)}
def Zl1 (P:Program) (t:TypeId) (a b:Value) (r:Bool):Prop:=∀(B:Kn) (L:Cells) (Q:Bool→Kn→Cells→Prop),Q r B L→hb P (Op.equal t a b) Q B L
def Zgb (a b:Value):Bool:=match a,b with
  | .nilIface,.nilIface=>false
  | .agg _,.agg _=>false
  | .int _ _,.int _ _=>false
  | .float _ _,.float _ _=>false
  | .complex _ _ _,.complex _ _ _=>false
  | .string _,.string _=>false
  | _,_=>true
theorem Ziv {t:TypeId} {a b:Bool} (hu:P.underlying t=some .bool):Zl1 P t (.bool a) (.bool b) (decide (a=b)):=fun B L Q q=>by
  have e:(a == b)=decide (a=b):=by cases a <;> cases b <;> rfl
  show hb P (Op.equalIn (9999+1) t _ _) Q B L
  rw [Op.equalIn,Zi,Zo hu]
  simp only [Zm,e];exact q
theorem ZiA {t:TypeId} {a b:Value} (h:Zgb a b=true∨∃x y,a = .agg x∧b = .agg y):binOp .neq t a b=(do pure (.bool (!(← Op.equal t a b)))):=by
  rcases h with h | ⟨x,y,rfl,rfl⟩
  · cases a <;> cases b <;> first | rfl | cases h
  · rfl
theorem Zf8 {op:BinOp} {t:TypeId} {x y:Operand} {a b:Value} {Q:Unit→Kn→Cells→Prop} {L:Cells} (h:Zgb a b=true):hb P (eqGuard op t x y a b) Q B L=Q () B L:=by
  refine ZM ?_
  cases a <;> cases b <;> first | rfl | cases h
theorem Zhy {t u:TypeId} {x y:Operand} {a b:Value} {r:Bool} (hg:Zf ops S g=some true) (hd:Zn n dst=true) (hx:ev S x=some a) (hy:ev S y=some b) (hp:Zgb a b=true) (he:Zl1 P t a b r) (h:K (.bool (!r)) D B L):opX P n ops i ⟨dst,.binOp .neq t x y u,ty,pos,after,g⟩ K S D B L:=
  Zw hg hd (fun ρ hρ Q F q=>by
    simp only [execOp,hρ x _ hx,hρ y _ hy,Zi,Zf8 hp,ZiA (.inl hp),Zm]
    exact he _ _ (fun r B' L'=>Q (.value (.bool (!r))) B' L') q) h
end
def Zl8 (P:PJ) (f:FuncId) (vs:List Value) (B:Kn) (Q:Value→Cells→Prop):Prop:=ZT P f vs B [] fun v' B' Ls=>B'=B∧∃s',Ls=[s']∧Q v' s'
section
variable {P:PJ} {n:Nat} {ops:Array Oper} {i:Nat} {K:Z6} {S:Env} {D:List Deferred} {B:Kn} {L:List Cells}
variable {dst:Option Tmp} {ty:TypeId} {pos:String} {after:Array Edge} {g:Option (Nat × Bool)}
theorem ZkJ {f:FuncId} {xs:List Operand} {vs:List Value} {ats:Array TypeId} {Q:Value→Cells→Prop} (hg:Zf ops S g=some true) (hd:Zn n dst=true) (he:enters P f=true) (ha:evs S xs=some vs) (hc:Zl8 P f vs B Q)
    (h :∀v s',Q v s'→K v D B (L ++ [s'])):opX P n ops i ⟨dst,.call ⟨.value (.func f),xs.toArray,ats⟩,ty,pos,after,g⟩ K S D B L:=
  Zci hg hd he ha hc fun v' B' Ls' hle ⟨h2,s',h3,h4⟩=>by subst h2;subst h3;exact h v' s' h4
end
def ZaN:List Cells→List Nat→Option (List Cells × List Cells)
  | L,[]=>some ([],L)
  | L,j :: js=>match L[j]? with
    | some s=>(ZaN (L.set j []) js).map fun x=>(s :: x.1,x.2)
    | none=>none
def Zcq:List Cells→List Nat→List Cells→List Cells
  | r,_,[]=>r
  | r,[],l=>r ++ l
  | r,j :: js,s :: l=>Zcq (r.set j s) js l
theorem ZaA :∀(js:List Nat) (L ss r:List Cells),ZaN L js=some (ss,r)→L.flatten.Perm (ss.flatten ++ r.flatten)
  | [],L,ss,r,h=>by
    simp only [ZaN,Option.some.injEq,Prod.mk.injEq] at h
    obtain ⟨rfl,rfl⟩:=h
    simp
  | j :: js,L,ss,r,h=>by
    simp only [ZaN] at h
    split at h
    · rename_i s hj
      simp only [Option.map_eq_some_iff,Prod.mk.injEq] at h
      obtain ⟨⟨x,y⟩,h1,rfl,rfl⟩:=h
      have h2:=ZaA js _ _ _ h1
      have h3:=Zcr hj
      simp only [List.flatten_cons,List.flatten_nil,List.append_nil] at h3
      rw [List.flatten_cons,List.append_assoc]
      exact h3.trans (List.Perm.append_left _ h2)
    · cases h
theorem Zcc :∀(js:List Nat) (L ss r:List Cells),ZaN L js=some (ss,r)→∀j,L[j]? = some []∨j∈js→r[j]? = some []
  | [],L,ss,r,h,j,hj=>by
    simp only [ZaN,Option.some.injEq,Prod.mk.injEq] at h
    obtain ⟨rfl,rfl⟩:=h
    rcases hj with hj | hj
    · exact hj
    · cases hj
  | k :: js,L,ss,r,h,j,hj=>by
    simp only [ZaN] at h
    split at h
    · rename_i s hk
      simp only [Option.map_eq_some_iff,Prod.mk.injEq] at h
      obtain ⟨⟨x,y⟩,h1,rfl,rfl⟩:=h
      refine Zcc js _ _ _ h1 j ?_
      rcases hj with hj | hj
      · left
        rw [List.getElem?_set]
        split
        · rename_i e;subst e
          have:=(List.getElem?_eq_some_iff.1 hk).1
          simp [this]
        · exact hj
      · rcases List.mem_cons.1 hj with rfl | hj
        · left
          have:=(List.getElem?_eq_some_iff.1 hk).1
          simp [this]
        · exact .inr hj
    · cases h
theorem Zcb :∀(l:List Cells) (r:List Cells) (js:List Nat),js.Nodup→(∀j,j∈js→r[j]? = some [])→(l.flatten ++ r.flatten).Perm (Zcq r js l).flatten
  | [],r,js,_,_=>by simp [Zcq]
  | s :: l,r,[],_,_=>by
    simp only [Zcq,List.flatten_append]
    exact List.perm_append_comm
  | s :: l,r,j :: js,hn,he=>by
    rw [Zcq]
    rw [List.nodup_cons] at hn
    have h1:=Zcb l (r.set j s) js hn.2 fun k hk=>by
      rw [List.getElem?_set,if_neg (fun e=>hn.1 (by rw [e];exact hk))]
      exact he k (List.mem_cons_of_mem _ hk)
    have hj:=he j (List.mem_cons_self ..)
    have hlt:=(List.getElem?_eq_some_iff.1 hj).1
    have h2:(r.set j s)[j]? = some s:=by simp [hlt]
    have h3:=Zcr h2
    rw [List.set_set] at h3
    have h4:r.set j []=r:=Zet hj
    rw [h4] at h3
    refine List.Perm.trans ?_ h1
    rw [List.flatten_cons,List.append_assoc]
    simp only [List.flatten_cons,List.flatten_nil,List.append_nil] at h3
    refine List.Perm.trans ?_ (List.Perm.append_left _ h3.symm)
    rw [← List.append_assoc,← List.append_assoc]
    exact List.Perm.append_right _ List.perm_append_comm
def Zd9:List Nat→Bool
  | []=>true
  | j :: js=>!js.contains j && Zd9 js
theorem Zcd :∀{js:List Nat},Zd9 js=true→js.Nodup
  | [],_=>List.nodup_nil
  | j :: js,h=>by
    simp only [Zd9,Bool.and_eq_true,Bool.not_eq_true'] at h
    refine List.nodup_cons.2 ⟨fun hm=>?_,Zcd h.2⟩
    have:js.contains j=true:=by simpa using hm
    rw [this] at h;cases h.1
section
variable {P:PJ} {n:Nat} {ops:Array Oper} {i:Nat} {K:Z6} {S:Env} {D:List Deferred} {B:Kn} {L:List Cells}
variable {dst:Option Tmp} {ty:TypeId} {pos:String} {after:Array Edge} {g:Option (Nat × Bool)}
theorem Za2 {f:FuncId} {xs:List Operand} {vs:List Value} {ats:Array TypeId} {Post:Value→Kn→List Cells→Prop} (js:List Nat) {ss r:List Cells} (hp:ZaN L js=some (ss,r)) (hn:Zd9 js=true) (hg:Zf ops S g=some true) (hd:Zn n dst=true) (he:enters P f=true) (ha:evs S xs=some vs) (hc:ZT P f vs B ss Post)
    (h :∀v B' Ls',B.le B'→Post v B' Ls'→K v D B' (Zcq r js Ls')):opX P n ops i ⟨dst,.call ⟨.value (.func f),xs.toArray,ats⟩,ty,pos,after,g⟩ K S D B L:=
  Zdl (o:=⟨dst,.call ⟨.value (.func f),xs.toArray,ats⟩,ty,pos,after,g⟩) (vs:=vs) hg (fun ρ hρ Q F q=>by
      have:=ZeP (P:=P) (B:=B) (L:=L) (dst:=dst) (ty:=ty) (pos:=pos) (after:=after) (g:=g) (x:=.func f) (first:=#[]) (cap:=#[]) (ats:=ats) he rfl ha ρ hρ Q F
      exact this (by simpa using q)) hd (Ls:=ss) (Lk:=r) (ZaA js L ss r hp) hc
    fun v B' Ls' hle hq=>⟨Zcq r js Ls',Zcb Ls' r js (Zcd hn) (fun j hj=>Zcc js L ss r hp j (.inr hj)),h v B' Ls' hle hq⟩
end
theorem ZjV {B:Kn} {L:List Cells} {b i:Nat} {v:Value} {l:List Value} {T:TypeId} (j:Nat) (hj:L[j]? = some (ZaB b l T)) (hv:l[i]? = some v):At B L ((⟨b,0,none⟩:Addr).add i) v:=by
  rw [Addr.add_off _ _ rfl,Nat.zero_add]
  exact atL j hj rfl hv
theorem Zld {B:Kn} {L:List Cells} {a:Addr} {i:Nat} {v:Value} (h:At B L (a.add i) v):At B L (a.add (i*1)) v:=by rw [Nat.mul_one];exact h
theorem ZiM {P:PJ} {n:Nat} {Q:Exit→ZR} {S:Env} {D:List Deferred} {B:Kn} {L:List Cells} {c:Code} (js:List Nat) {ss r:List Cells} (hp:ZaN L js=some (ss,r)) (h:wpS P n c Q S D B ss):wpS P n c Q S D B L:=fun C k T hn hT hA=>by
  have h1:=(ZaA js L ss r hp).append_right C.F
  refine C.X.drop (r:=ss.flatten ++ C.F) (gl:=r.flatten) (h1.trans ?_) (h C k T hn hT hA)
  rw [List.append_assoc,List.append_assoc]
  exact List.Perm.append_left _ List.perm_append_comm
theorem Zbb.box {B:Kn} {L:List Cells} {b:Nat} {arr:List Value} {T:TypeId} (j:Nat) (hj:L[j]? = some (ZaB b arr T)):Zbb B L.flatten (some ⟨b,0,none⟩) arr:=fun k v hk=>by
  have:=ZjV (B:=B) (i:=k) j hj hk
  exact this
theorem ZdN.at {B:Kn} {L:List Cells} {l:Cells} {p:Option Addr} {m c sz i:Nat} {T:TypeId} {vs:List Value} {v:Value} (h:ZdN l p m c T sz vs) (j:Nat) (hj:L[j]? = some l) (hv:vs[i]? = some v) :∃a,p=some a∧a.spot=none∧At B L (a.add i) v:=by
  obtain ⟨h1,⟨rfl,rfl,rfl,rfl⟩ | ⟨b,arr,rfl,h2,h3,rfl,h4⟩⟩:=h
  · have:vs=[]:=List.eq_nil_of_length_eq_zero (by simpa using h1)
    rw [this] at hv;simp at hv
  · refine ⟨_,rfl,rfl,ZjV j hj ?_⟩
    rw [← h3,List.getElem?_take] at hv
    split at hv
    · exact hv
    · cases hv
theorem ZfH {P:PJ} {S:Env} {B:Kn} {L:List Cells} {rs:List ResultVar} {Post:Value→Kn→List Cells→Prop} (e:Exit) (he:e = .ret∨e = .normal) (vs:List Value) (js:List Nat) {ss r:List Cells} (hp:ZaN L js=some (ss,r)) (hr:Zco P S B L rs vs) (hq:Post (Zby vs) B ss):Ziz P rs Post e S [] B L:=
  ⟨he,rfl,vs,ss,hr,⟨r.flatten,ZaA js L ss r hp⟩,hq⟩
def Zbh (B:Kn) (q:Option Addr) (m:Nat):Prop:=∀j,j<m→∃(a:Addr) (c:UInt8),q=some a∧a.spot=none∧Z9 B [] (a.add j) (.int .u8 c.toNat)
theorem Zbh.get {B:Kn} {q:Option Addr} {m:Nat} (h:Zbh B q m) (hm:0<m) :∃a,q=some a∧∀j,j<m→∃c:UInt8,∀L,At B L (a.add (j*1)) (.int .u8 c.toNat):=by
  obtain ⟨a,_,rfl,hs,_⟩:=h 0 hm
  refine ⟨a,rfl,fun j hj=>?_⟩
  obtain ⟨a',c,e,_,hc⟩:=h j hj
  cases e
  exact ⟨c,fun L=>by rw [Nat.mul_one];exact Z9.app (F:=L.flatten) hc⟩
theorem Zbh.at {B:Kn} {q:Option Addr} {m:Nat} (h:Zbh B q m) (hm:0<m) :∃a,q=some a∧∀ix:Int,0≤ix→ix<m→∃z:Nat,z<256∧∀L,At B L (a.add (ix.toNat*1)) (.int .u8 z):=by
  obtain ⟨a,rfl,hc⟩:=h.get hm
  refine ⟨a,rfl,fun ix h0 h1=>?_⟩
  obtain ⟨c,hc⟩:=hc ix.toNat (by omega)
  exact ⟨c.toNat,c.toNat_lt,hc⟩
theorem Zbh.take {B:Kn} {q:Option Addr} {m k c:Nat} (h:Zbh B q m) (hk:k≤m):Zbh B (if c=0 then q else q.map (·.add (0*1))) (k - 0):=by
  intro j hj
  obtain ⟨a,x,rfl,hs,hx⟩:=h j (by omega)
  refine ⟨a,x,?_,hs,hx⟩
  split <;> simp [Addr.add]
end Go.BL
namespace Go.BL
open Go.Conc (G)
set_option linter.unusedVariables false
section
variable {P:PJ}
end
section
variable {P:PJ} {n:Nat} {ops:Array Oper} {i:Nat} {K:Z6} {S:Env} {D:List Deferred} {B:Kn} {L:List Cells}
variable {dst:Option Tmp} {ty:TypeId} {pos:String} {after:Array Edge} {g:Option (Nat × Bool)}
end
end Go.BL
namespace Go.BL
open Go.Conc (G)
set_option linter.unusedVariables false
def Zko (P:Program) (Stop:Frame→List Frame→World→Kn→Cells→Prop):Lg (.lone P) where
  join:=fun h=>h.elim
  main:=true
  R:=fun g B L=>∀w,Sat B L w→g=G g.frame g.callers∧∃fr cs w' B' L',Steps P (lone g.frame g.callers w) (lone fr cs w')∧Ok B L w B' L' w'∧Stop fr cs w' B' L'
  conv:=fun {g B B' L L'} hle hs hb hl h w s=>by
    obtain ⟨h0,fr,cs,w',B₂,L₂,h1,h2,h3⟩:=h w (hs w s)
    refine ⟨h0,fr,cs,w',B₂,L₂,h1,⟨hle.trans h2.le,h2.sat,h2.size,fun b hb' hn=>h2.keep b hb' fun p hp he=>?_,fun b o hbo=>?_,fun p hp=>?_,h2.fz,h2.tape,h2.os,h2.output⟩,h3⟩
    · obtain ⟨q,hq,e⟩:=hl p hp
      exact hn q hq (e.trans he)
    · rcases h2.newB b o hbo with hx | ⟨p,hp,rfl⟩ | hx
      · obtain ⟨o',ho'⟩:=Option.isSome_iff_exists.1 hx
        rcases hb b o' ho' with hy | hy
        · exact .inl hy
        · exact .inr (.inl hy)
      · obtain ⟨q,hq,e⟩:=hl p hp
        exact .inr (.inl ⟨q,hq,e⟩)
      · exact .inr (.inr hx)
    · rcases h2.newL p hp with ⟨q,hq,e⟩ | hx
      · obtain ⟨r,hr,e'⟩:=hl q hq
        exact .inl ⟨r,hr,e'.trans e⟩
      · exact .inr hx
  step:=fun {g B L} hg h w s=>by
    obtain ⟨g',w₁,es,B₁,L₁,h1,_,h3,h4⟩:=h w s
    obtain ⟨hg',fr,cs,w₂,B₂,L₂,h5,h6,h7⟩:=h4 w₁ h3.sat
    refine ⟨hg,fr,cs,w₂,B₂,L₂,Steps.head (step_lone_go ?_) h5,h3.trans h6,h7⟩
    have e1:(G g.frame g.callers) = { frame:=g.frame,callers:=g.callers,status:=.running,dying:=none }:=rfl
    rw [← e1,← hg,h1]
    simp only [GStep.bare]
    rw [hg']
    rfl
def Zc1 (w:World):Kn:=⟨fun b=>w.heap[b]?⟩
theorem Zle (w:World):Sat (Zc1 w) [] w:=⟨fun _ _ h=>h,(fun _ h=>by cases h),by simp,(fun _ h=>by cases h)⟩
theorem Zi8 {w w':World} {B':Kn} {L':Cells} (h:Ok (Zc1 w) [] w B' L' w'):Go.RowKit.Grown w w':=by
  refine ⟨⟨h.os,h.output,fun i hi=>?_⟩,h.fz,h.size⟩
  rw [h.keep i hi (fun _ hp=>by cases hp)]
  cases w.heap[i]? with
  | none=>trivial
  | some o=>cases o <;> first | rfl | exact .inr ⟨rfl,rfl⟩ | exact ⟨rfl,rfl,rfl,fun _ _=>rfl⟩
def Kept (w w':World):Prop:=(∀b,b<w.heap.size→w'.heap[b]? = w.heap[b]?)∧Go.RowKit.Grown w w'
theorem Zks {w w':World} {B':Kn} {L':Cells} (h:Ok (Zc1 w) [] w B' L' w'):Kept w w':=
  ⟨fun b hb=>h.keep b hb (fun _ hp=>by cases hp),Zi8 h⟩
theorem Kept.same {w w':World} (h:Kept w w') {p:MemPlace} (hp:p.block<w.heap.size):w.sameAt w' p:=by
  cases p with
  | cell b off=>
    have:=h.1 b hp
    simp only [World.sameAt,World.cell?,this]
  | map b=>exact h.1 b hp
theorem Sat.left {B:Kn} {L L':Cells} {w:World} (s:Sat B (L ++ L') w):Sat B L w:=by
  refine ⟨s.ro,fun p hp=>s.own p (List.mem_append.2 (.inl hp)),?_,fun p hp=>s.apart p (List.mem_append.2 (.inl hp))⟩
  have:=s.nodup
  rw [List.map_append] at this
  exact (List.nodup_append.1 this).1
theorem Zjn {P:Program} {f:FuncId} {fn:Func} {code:Code} {t:Tmp} (n:Nat) (hf:P.funcs[f]? = some fn) (hbd:fn.body=some code) (hn:fn.ntmps=n) (hrs:fn.results.toList=[.tmp t]) {args:List Value} (ha:args.length≤n) {Post:Value→Kn→List Cells→Prop} {w:World}
    (h:wpS (.lone P) n code (Ziz (.lone P) [.tmp t] Post) (ZdL args 0) [] (Zc1 w) []):Calls P f args.toArray w (fun e w'=>∃v,e = .returned v∧Kept w w'∧∃B' Ls',Sat B' Ls'.flatten w'∧Post v B' Ls'):=by
  intro cs
  let b0:Frame:={ fn:=f,tmps:=#[],todo:=[],defers:=[],mode:=.run,kind:=.normal }
  let T0:Array Value:=args.toArray ++ Array.replicate (n - args.length) undef
  have hen:Frame.enter P f args.toArray .normal=fat b0 T0 [] [.code code]:=by
    simp [Frame.enter,fat,hf,hbd,hn,b0,T0]
  have hT:Ag T0 (ZdL args 0):=fun i v hv=>by
    obtain ⟨_,h2⟩:=ZcN args 0 i v hv
    have hlt:=ZG (a:=args.toArray) (i:=i) (x:=v) (by simpa using h2)
    simp only [T0]
    rw [Array.getElem?_append_left hlt]
    simpa using h2
  let Stop:Frame→List Frame→World→Kn→Cells→Prop:=fun fr cs' w' B' L'=>cs'=cs∧fr.fn=f∧∃v Ls',fr.leaving P w' (.returned v)∧Post v B' Ls'∧Sat B' Ls'.flatten w'
  have key:=h ⟨Zko P Stop,b0,cs,[],by simp [b0]⟩ [] T0 (by simp [T0];omega) hT fun e S' D' B' L' T' hle hq hn' hT'=>by
    obtain ⟨he,rfl,vs,Lr,hr,⟨gl,hp⟩,hq⟩:=hq
    have fin :∀fr:Frame,fr.fn=f→fr.mode = .returning→fr.defers=[]→fr.kind = .normal→fr.tmps=T'→(Zko P Stop).R (G fr cs) B' (L'.flatten ++ []):=fun fr f1 f2 f3 f4 f5 w₁ s₁=>by
      refine ⟨rfl,fr,cs,w₁,B',L'.flatten ++ [],Steps.refl _ _,Ok.refl s₁,rfl,f1,Zby vs,Lr,?_,hq,?_⟩
      · refine ⟨f2,f3,f4,fn,by rw [f1];exact hf,?_⟩
        match vs,hr with
        | [v],⟨h1,_⟩=>
          have hr2:fn.results = #[.tmp t]:=by apply Array.ext';rw [hrs]
          have h2:=hT' t v h1
          simp [results,hr2,f5,Zby,Sem.run,Array.getD_eq_getD_getElem?,h2,Pure.pure,Bind.bind,Sem.bind,Functor.map]
      · exact (s₁.perm (by rw [List.append_nil];exact hp)).left
    rcases he with rfl | rfl
    · refine ⟨rfl,fun todo=>?_⟩
      exact fin _ rfl rfl rfl rfl rfl
    · exact (Zko P Stop).ctl rfl (fun w=>ZjM rfl) (fin _ rfl rfl rfl rfl rfl)
  rw [hen]
  obtain ⟨_,fr,cs',w',B',L',h1,h2,rfl,h3,v,Ls',h4,h5,h6⟩:=key w (by simpa using Zle w)
  refine ⟨.returned v,w',fr,⟨v,rfl,Zks (by simpa using h2),B',Ls',h6,h5⟩,h1,h3,h4⟩
end Go.BL
namespace Go.BL
open Go.ChangeShapes Go.WideShapes Go.ChangeAt Go.RowKit
set_option linter.unusedVariables false
section
variable {H:Type} {enc:TypeId × Value→H} {P:Program}
theorem Zfz {W:World} {a:Addr} {v:Value} (h:W.cell? a=some v):Z9 (Zc1 W) [] a v:=by
  simp only [World.cell?] at h
  split at h
  · rename_i c T fr hb
    split at h
    · cases h
    · rename_i hs
      exact ⟨by simpa using hs,c,T,fr,.inl hb,h⟩
  · cases h
theorem Zgy (hl:laidOutB P=true) {W W':World} (hk:Kept W W') {sp':Nat→Bool} :∀{ts:List TypeId} {vs:List Value} {ds:List (DataW H)} {ps:List MemPlace},(ts.all fun t=>P.readableRec t && decide (t<P.types.size))=true→
    DataW.TrodAll enc P W 0 (fun _=>true) true ts vs ds ps→(∀p∈ps,p.block<W.heap.size)→(∀p∈ps,sp' p.block=true)→DataW.TrodAll enc P W' 0 sp' true ts vs ds ps
  | [],[],[],_,_,h,_,_=>h
  | t :: ts,_ :: _,_ :: _,_,hts,⟨p,q,h1,h2,e⟩,hlt,hs=>by
    simp only [List.all_cons,Bool.and_eq_true,decide_eq_true_eq] at hts
    exact ⟨p,q,WideElems.Trod_stays hl hts.1.1 hts.1.2 h1 (fun x hx=>hk.same (hlt x (by rw [e];exact List.mem_append_left _ hx))) (fun x hx=>hs x (by rw [e];exact List.mem_append_left _ hx)),
      Zgy hl hk hts.2 h2 (fun x hx=>hlt x (by rw [e];exact List.mem_append_right _ hx)) (fun x hx=>hs x (by rw [e];exact List.mem_append_right _ hx)),e⟩
theorem Zi1 {f:Func} {s:ChangeSpec} {apart fresh handsOn again:Bool} {W W':World} {args:Array Value} {ds gs:List (DataW H)} {before:List MemPlace} {tb:TypeId}
    (hl:laidOutB P=true) (hts:(f.params.toList.all fun t=>P.readableRec t && decide (t<P.types.size))=true) (hres:f.resultTypes.toList=[tb]) (hb:P.underlying tb=some .bool) (hvars:s.vars=[])
    (hW:DataW.Whole enc P f.params.toList s.vars apart W args.toList ds gs before) (hfn :∀ds' gs',gs'=[]→ds'.length=f.params.toList.length→s.fn H (ds' ++ gs') = { results:=[.lit (.bool true)],args:=ds' })
    (hk:Kept W W'):s.post enc P f apart fresh handsOn again W args (.bool true) W':=by
  have hlt:=hW.lt
  have hW':=hW
  obtain ⟨p,q,hA0,hV,rfl,hfz,hnd⟩:=hW
  rw [hvars] at hV
  obtain ⟨rfl,rfl⟩:=trodVars_none hV
  have hlen:=(trodAll_length hA0).2
  have hf2:=hfn ds [] rfl hlen
  have hr2:f.resultTypes = #[tb]:=by apply Array.ext';rw [hres]
  refine post_of_same (pa:=p) (pv:=[]) hW' (fun b sp hd=>?_) (fun sp hsp=>?_) (fun sp _=>?_) rfl (hk.2.frame _) hk.2.2.1 ?_
  · rw [hf2,hr2]
    exact trodAll_cons_mk (shut_bool hb _) trodAll_mk0
  · rw [hf2]
    exact Zgy hl hk hts hA0 (fun x hx=>hlt x (List.mem_append_left _ hx)) (fun x hx=>hsp x (List.mem_append_left _ hx))
  · rw [hf2,hvars]
    exact rfl
  · intro j t r h1 h2
    rw [hr2] at h1 h2
    cases j with
    | zero=>
      simp only [List.getElem?_toArray,List.getElem?_cons_zero,Option.some.injEq] at h1
      simp [Value.resultList] at h2
      subst h1;subst h2
      exact okWide_bool_mk hb _
    | succ j=>simp at h1
end
end Go.BL
namespace Go.BL
open Go.Conc (G)
set_option linter.unusedVariables false
abbrev Rel (α:Type):=Kn→List Value→α→Prop
def Mono {α:Type} (R:Rel α):Prop:=∀{B B':Kn},B.le B'→∀{row:List Value} {x:α},R B row x→R B' row x
def Flat {α:Type} (C:α→List Value):Rel α:=fun _ row x=>row=C x
theorem Flat.mono {α:Type} {C:α→List Value} : Mono (Flat C):=fun _ _ _ h=>h
def Zba {α:Type} (B:Kn) (q:Option Addr) (w:Nat) (R:Rel α) (xs:List α):Prop:=
∀i x,xs[i]? = some x→∃b o row,q=some ⟨b,o,none⟩∧R B row x∧∀j u,row[j]? = some u→Z9 B [] ⟨b,o+i*w+j,none⟩ u
theorem Zht.mono {B B':Kn} {L:Cells} {b:Nat} {o:Obj} (hle:B.le B') (h:Zht B L b o):Zht B' L b o:=h.imp (hle b o) id
theorem Z9.mono {B B':Kn} {L:Cells} {a:Addr} {v:Value} (hle:B.le B') (h:Z9 B L a v):Z9 B' L a v:=
  let ⟨h1,cs,T,fr,h2,h3⟩:=h;⟨h1,cs,T,fr,h2.mono hle,h3⟩
theorem Zba.mono {α:Type} {B B':Kn} {q:Option Addr} {w:Nat} {R:Rel α} {xs:List α} (hR:Mono R) (hle:B.le B') (h:Zba B q w R xs):Zba B' q w R xs:=fun i x hi=>by
  obtain ⟨b,o,row,h1,h2,h3⟩:=h i x hi
  exact ⟨b,o,row,h1,hR hle h2,fun j u hj=>(h3 j u hj).mono hle⟩
theorem Zba.nil {α:Type} {B:Kn} {q:Option Addr} {w:Nat} {R:Rel α} : Zba B q w R ([]:List α):=fun i x h=>by simp at h
theorem Zba.take {α:Type} {B:Kn} {q:Option Addr} {w:Nat} {R:Rel α} {xs:List α} (h:Zba B q w R xs) (k:Nat):Zba B q w R (xs.take k):=fun i x hi=>by
  rw [List.getElem?_take] at hi
  split at hi
  · exact h i x hi
  · cases hi
theorem Zba.drop {α:Type} {B:Kn} {q:Option Addr} {w:Nat} {R:Rel α} {xs:List α} (h:Zba B q w R xs) (k:Nat):Zba B (q.map (·.add (k*w))) w R (xs.drop k):=fun i x hi=>by
  rw [List.getElem?_drop] at hi
  obtain ⟨b,o,row,rfl,h2,h3⟩:=h _ x hi
  refine ⟨b,o+k*w,row,by simp [Addr.add_off],h2,fun j u hj=>?_⟩
  have:=h3 j u hj
  rw [Nat.add_mul] at this
  rwa [show o+k*w+i*w+j=o+(k*w+i*w)+j from by omega]
theorem Zba.cut {α:Type} {B:Kn} {q:Option Addr} {w a b c:Nat} {R:Rel α} {xs:List α} (h:Zba B q w R xs) (hb:b≤xs.length) (hc:xs.length≤c):Zba B (if c=a then q else q.map (·.add (a*w))) w R ((xs.take b).drop a):=by
  by_cases e:c=a
  · rw [if_pos e,List.drop_eq_nil_of_le (by rw [List.length_take];omega)]
    exact .nil
  · rw [if_neg e]
    exact (h.take b).drop a
def Zb2 (B:Kn) (b o:Nat) (row:List Value):Prop:=∀(L:List Cells) (j:Nat) (u:Value),row[j]? = some u→At B L ⟨b,o+j,none⟩ u
theorem Zhq {B:Kn} {L:List Cells} {b o:Nat} {row vs:List Value} {a:Addr} (hc:Zb2 B b o row) (off:Nat) (ha:a=⟨b,o+off,none⟩) (hv:(row.drop off).take vs.length=vs):Zjr B L a vs:=by
  intro i v hi
  subst ha
  rw [Addr.add_off _ _ rfl]
  have hlt:i<vs.length:=(List.getElem?_eq_some_iff.1 hi).1
  have:row[off+i]? = some v:=by
    have e:=congrArg (fun l=>l[i]?) hv
    simp only [List.getElem?_take,if_pos hlt,List.getElem?_drop] at e
    rw [e,hi]
  have:=hc L _ v this
  rwa [show o+(off+i)=o+off+i from by omega] at this
section
variable {P:PJ} {C:Cx P} {k:List Item} {n:Nat} {ops:Array Oper} {i:Nat} {K:Z6} {S:Env} {D:List Deferred} {B:Kn} {L:List Cells}
variable {dst:Option Tmp} {ty:TypeId} {pos:String} {after:Array Edge} {g:Option (Nat × Bool)}
variable {α:Type} {R:Rel α} {xs:List α} {z:α}
end
inductive All2 {α:Type} (R:List Value→α→Prop):List (List Value)→List α→Prop
  | nil:All2 R [] []
  | cons {row:List Value} {x:α} {rows:List (List Value)} {xs:List α} : R row x→All2 R rows xs→All2 R (row :: rows) (x :: xs)
theorem All2.len {α:Type} {R:List Value→α→Prop} {rows:List (List Value)} {xs:List α} (h:All2 R rows xs):rows.length=xs.length:=by
  induction h with
  | nil=>rfl
  | cons _ _ ih=>simp [ih]
theorem All2.mono {α:Type} {R R':List Value→α→Prop} {rows:List (List Value)} {xs:List α} (hR :∀row x,R row x→R' row x) (h:All2 R rows xs):All2 R' rows xs:=by
  induction h with
  | nil=>exact .nil
  | cons h1 _ ih=>exact .cons (hR _ _ h1) ih
theorem All2.app {α:Type} {R:List Value→α→Prop} {rows rows':List (List Value)} {xs xs':List α} (h:All2 R rows xs) (h':All2 R rows' xs'):All2 R (rows ++ rows') (xs ++ xs'):=by
  induction h with
  | nil=>exact h'
  | cons h1 _ ih=>exact .cons h1 ih
theorem All2.get {α:Type} {R:List Value→α→Prop} {rows:List (List Value)} {xs:List α} (h:All2 R rows xs) :∀{i:Nat} {x:α},xs[i]? = some x→∃row,rows[i]? = some row∧R row x:=by
  induction h with
  | nil=>intro i x hx;simp at hx
  | cons h1 _ ih=>
    intro i x hx
    cases i with
    | zero=>simp only [List.getElem?_cons_zero,Option.some.injEq] at hx;subst hx;exact ⟨_,rfl,h1⟩
    | succ i=>exact ih (by simpa using hx)
theorem All2.set {α:Type} {R:List Value→α→Prop} {rows:List (List Value)} {xs:List α} (h:All2 R rows xs) {row:List Value} {x:α} (hr:R row x) :∀i,All2 R (rows.set i row) (xs.set i x):=by
  induction h with
  | nil=>intro i;exact .nil
  | cons h1 h2 ih=>
    intro i
    cases i with
    | zero=>exact .cons hr h2
    | succ i=>exact .cons h1 (ih i)
def wide (w:Nat) (rows:List (List Value)):Prop:=∀row,row∈rows→row.length=w
theorem ZbD {w:Nat} :∀{rows:List (List Value)},wide w rows→rows.flatten.length=rows.length*w
  | [],_=>by simp
  | row :: rows,h=>by
    rw [List.flatten_cons,List.length_append,ZbD (rows:=rows) (fun r hr=>h r (List.mem_cons_of_mem _ hr)),h row (List.mem_cons_self ..),List.length_cons,Nat.succ_mul,Nat.add_comm]
theorem Zcg {w:Nat} :∀{rows:List (List Value)},wide w rows→∀{i j:Nat} {row:List Value} {u:Value},rows[i]? = some row→row[j]? = some u→rows.flatten[i*w+j]? = some u
  | [],_,i,j,row,u,h,_=>by simp at h
  | r :: rows,hw,0,j,row,u,h,hj=>by
    simp only [List.getElem?_cons_zero,Option.some.injEq] at h
    subst h
    have hlt:=(List.getElem?_eq_some_iff.1 hj).1
    rw [Nat.zero_mul,Nat.zero_add,List.flatten_cons,List.getElem?_append_left hlt];exact hj
  | r :: rows,hw,i+1,j,row,u,h,hj=>by
    have e:=hw r (List.mem_cons_self ..)
    rw [List.flatten_cons,List.getElem?_append_right (by rw [e,Nat.succ_mul];omega),e]
    have:=Zcg (rows:=rows) (fun r hr=>hw r (List.mem_cons_of_mem _ hr)) (i:=i) (j:=j) (by simpa using h) hj
    rw [← this]
    congr 1
    rw [Nat.succ_mul];omega
def Zab {α:Type} (B:Kn) (l:Cells) (p:Option Addr) (c:Nat) (T:TypeId) (w:Nat) (R:Rel α) (xs:List α):Prop:=
∃rows,All2 (R B) rows xs∧wide w rows∧ZdN l p xs.length c T w rows.flatten
theorem Zab.mono {α:Type} {B B':Kn} {l:Cells} {p:Option Addr} {c:Nat} {T:TypeId} {w:Nat} {R:Rel α} {xs:List α} (hR:Mono R) (hle:B.le B') (h:Zab B l p c T w R xs):Zab B' l p c T w R xs:=
  let ⟨rows,h1,h2,h3⟩:=h;⟨rows,h1.mono fun _ _=>hR hle,h2,h3⟩
theorem Zab.nil {α:Type} {B:Kn} {T:TypeId} {w:Nat} {R:Rel α} : Zab B [] none 0 T w R ([]:List α):=⟨[],.nil,(fun _ h=>by cases h),ZdN.nil T w⟩
theorem Zab.lit0 {α:Type} {B:Kn} {b:Nat} {T:TypeId} {w:Nat} {R:Rel α} : Zab B (ZaB b [] T) (some ⟨b,0,none⟩) 0 T w R ([]:List α):=⟨[],.nil,(fun _ h=>by cases h),ZdN.lit (by simp)⟩
theorem Zab.cap {α:Type} {B:Kn} {l:Cells} {p:Option Addr} {c:Nat} {T:TypeId} {w:Nat} {R:Rel α} {xs:List α} (h:Zab B l p c T w R xs):xs.length≤c:=by
  obtain ⟨rows,_,_,_,⟨_,h0,_,_⟩ | ⟨b,arr,_,_,_,_,hm⟩⟩:=h
  · omega
  · exact hm
theorem Zab.lit {α:Type} {B:Kn} {b:Nat} {T:TypeId} {w:Nat} {R:Rel α} {xs:List α} {rows:List (List Value)} (h:All2 (R B) rows xs) (hw:wide w rows):Zab B (ZaB b rows.flatten T) (some ⟨b,0,none⟩) xs.length T w R xs:=
  ⟨rows,h,hw,ZdN.lit (by rw [ZbD hw,h.len])⟩
theorem Zab.rows {α:Type} {B B':Kn} {l:Cells} {p:Option Addr} {c:Nat} {T:TypeId} {w:Nat} {R:Rel α} {xs:List α} (h:Zab B l p c T w R xs) (hR:Mono R) (hle:B.le B') (hm :∀q,q∈l→B'.mem q.1=some q.2):Zba B' p w R xs:=by
  obtain ⟨rows,h1,h2,h3,⟨rfl,hn,_,rfl⟩ | ⟨b,arr,rfl,ha,ht,rfl,hmc⟩⟩:=h
  · have:xs=[]:=List.eq_nil_of_length_eq_zero hn
    subst this;exact .nil
  · intro i x hi
    obtain ⟨row,hr1,hr2⟩:=h1.get hi
    refine ⟨b,0,row,rfl,hR hle hr2,fun j u hj=>?_⟩
    have hu:=Zcg h2 hr1 hj
    rw [← ht,List.getElem?_take] at hu
    split at hu
    · refine ⟨rfl,arr.toArray,T,(0,0),.inl (hm (b,_) (List.mem_singleton.2 rfl)),?_⟩
      rw [Nat.zero_add];simpa using hu
    · cases hu
theorem Zab.row {α:Type} {B:Kn} {l:Cells} {p:Option Addr} {c:Nat} {T:TypeId} {w:Nat} {R:Rel α} {xs:List α} (h:Zab B l p c T w R xs) {i:Nat} {x:α} (hi:xs[i]? = some x) :
∃b row,p=some ⟨b,0,none⟩∧R B row x∧row.length=w∧∀{B':Kn} (L:List Cells) (k:Nat),L[k]? = some l→∀j u,row[j]? = some u→At B' L ⟨b,i*w+j,none⟩ u:=by
  obtain ⟨rows,h1,h2,h3,⟨rfl,hn,_,rfl⟩ | ⟨b,arr,rfl,ha,ht,rfl,hmc⟩⟩:=h
  · have:xs=[]:=List.eq_nil_of_length_eq_zero hn
    subst this;simp at hi
  · obtain ⟨row,hr1,hr2⟩:=h1.get hi
    refine ⟨b,row,rfl,hr2,h2 row (List.mem_of_getElem? hr1),fun {B'} L k hk j u hj=>?_⟩
    have hu:=Zcg h2 hr1 hj
    rw [← ht,List.getElem?_take] at hu
    split at hu
    · exact atL k hk rfl hu
    · cases hu
section
variable {P:PJ} {C:Cx P} {k:List Item} {n:Nat} {ops:Array Oper} {i:Nat} {K:Z6} {S:Env} {D:List Deferred} {B:Kn} {L:List Cells}
variable {dst:Option Tmp} {ty:TypeId} {pos:String} {after:Array Edge} {g:Option (Nat × Bool)}
variable {α:Type} {R:Rel α} {xs ys:List α} {z:α}
theorem ZjK {BV:Kn} {t u e:TypeId} {x y:Operand} {sz by_ m c c2:Nat} {p q:Option Addr} {row:List Value} {l:Cells} (j:Nat) (hj:L[j]? = some l) (hv:Zab BV l p c e sz R xs) (hm:m=xs.length) (hg:Zf ops S g=some true) (hd:Zn n dst=true)
    (he:ZbY P t e sz by_=true) (hu:(match P.underlying u with | some (.slice _)=>true | _=>false)=true) (hx:ev S x=some (.slice p m c)) (hy:ev S y=some (.slice q 1 c2)) (hs:Zbb B L.flatten q row) (hone:row.all Zc0=true) (hrl:row.length=sz) (hr:R BV row z) (hb1:(xs.length+1)*by_≤140737488355328)
    (h :∀l' p' c',Zab BV l' p' c' e sz R (xs ++ [z])→K (.slice p' (xs ++ [z]).length c') D B (L.set j l')):opX P n ops i ⟨dst,.call ⟨.builtin .append,#[x,y],#[t,u]⟩,ty,pos,after,g⟩ K S D B L:=by
  subst hm
  obtain ⟨rows,h1,h2,h3⟩:=hv
  refine Zcj j hj h3 hg hd he hu hx hy hs (by rw [hrl,Nat.one_mul]) hone hb1 fun l' p' c' hv'=>?_
  have:=h l' p' c' ⟨rows ++ [row],h1.app (.cons hr .nil),?_,?_⟩
  · rwa [List.length_append] at this
  · intro r hr'
    rcases List.mem_append.1 hr' with hr' | hr'
    · exact h2 r hr'
    · rw [List.mem_singleton.1 hr'];exact hrl
  · rw [List.length_append,List.flatten_append];simpa using hv'
theorem ZjJ {t u e:TypeId} {x y:Operand} {sz by_ m d c c2:Nat} {p q:Option Addr} {l:Cells} (j:Nat) (hj:L[j]? = some l) (hv:Zab B l p c e sz R xs) (hm:m=xs.length) (hg:Zf ops S g=some true) (hd:Zn n dst=true)
    (he:ZbY P t e sz by_=true) (hu:(match P.underlying u with | some (.slice _)=>true | _=>false)=true) (hx:ev S x=some (.slice p m c)) (hy:ev S y=some (.slice q d c2)) (hdl:d=ys.length) (hs:Zba B q sz R ys) (hone :∀row y,R B row y→row.all Zc0=true∧row.length=sz) (hpos:Nat.blt 0 sz=true) (hb1:(xs.length+ys.length)*by_≤140737488355328)
    (h :∀l' p' c',Zab B l' p' c' e sz R (xs ++ ys)→K (.slice p' (xs ++ ys).length c') D B (L.set j l')):opX P n ops i ⟨dst,.call ⟨.builtin .append,#[x,y],#[t,u]⟩,ty,pos,after,g⟩ K S D B L:=by
  subst hm;subst hdl
  obtain ⟨rows,h1,h2,h3⟩:=hv
  obtain ⟨rows',g1,g2,g3,g4⟩ :∃rows',All2 (R B) rows' ys∧wide sz rows'∧rows'.flatten.all Zc0=true∧Zbb B L.flatten q rows'.flatten:=by
    have hrow :∀i:Fin ys.length,∃row,R B row ys[i]∧∃b o,q=some ⟨b,o,none⟩∧∀j u,row[j]? = some u→Z9 B [] ⟨b,o+i*sz+j,none⟩ u:=fun i=>by
      obtain ⟨b,o,row,a1,a2,a3⟩:=hs i ys[i] (by simp)
      exact ⟨row,a2,b,o,a1,a3⟩
    let f:Fin ys.length→List Value:=fun i=>Classical.choose (hrow i)
    have hf :∀i,R B (f i) ys[i]∧∃b o,q=some ⟨b,o,none⟩∧∀j u,(f i)[j]? = some u→Z9 B [] ⟨b,o+i*sz+j,none⟩ u:=fun i=>Classical.choose_spec (hrow i)
    have hall :∀(k:Nat) (zs:List α) (hz :∀j x,zs[j]? = some x→ys[k+j]? = some x),∃rs,All2 (R B) rs zs∧∀j row,rs[j]? = some row→∃hk:k+j<ys.length,row=f ⟨k+j,hk⟩:=by
      intro k zs
      induction zs generalizing k with
      | nil=>intro _;exact ⟨[],.nil,fun j row h=>by simp at h⟩
      | cons x zs ih=>
        intro hz
        obtain ⟨rs,a1,a2⟩:=ih (k+1) (fun j y hy=>by have:=hz (j+1) y (by simpa using hy);rwa [show k+(j+1)=k+1+j from by omega] at this)
        have h0:=hz 0 x (by simp)
        obtain ⟨hk,hxe⟩:=List.getElem?_eq_some_iff.1 h0
        have hfk:=(hf ⟨k+0,hk⟩).1
        simp only [Fin.getElem_fin] at hfk
        rw [hxe] at hfk
        refine ⟨f ⟨k+0,hk⟩ :: rs,.cons hfk a1,fun j row hj=>?_⟩
        cases j with
        | zero=>simp only [List.getElem?_cons_zero,Option.some.injEq] at hj;exact ⟨hk,hj.symm⟩
        | succ j=>
          obtain ⟨hk2,e⟩:=a2 j row (by simpa using hj)
          refine ⟨by omega,?_⟩
          rw [e]
          congr 2
          omega
    obtain ⟨rs,a1,a2⟩:=hall 0 ys (fun j x hx=>by rwa [Nat.zero_add])
    have a2' :∀j row,rs[j]? = some row→∃hk:j<ys.length,row=f ⟨j,hk⟩:=fun j row hj=>by
      obtain ⟨hk,e⟩:=a2 j row hj
      refine ⟨by omega,?_⟩
      rw [e];congr 2;omega
    have hw:wide sz rs:=fun row hr=>by
      obtain ⟨j,hj⟩:=List.mem_iff_getElem?.1 hr
      obtain ⟨hk,rfl⟩:=a2' j row hj
      exact (hone _ _ (hf ⟨j,hk⟩).1).2
    refine ⟨rs,a1,hw,?_,?_⟩
    · rw [List.all_flatten,List.all_eq_true]
      intro row hr
      obtain ⟨j,hj⟩:=List.mem_iff_getElem?.1 hr
      obtain ⟨hk,rfl⟩:=a2' j row hj
      exact (hone _ _ (hf ⟨j,hk⟩).1).1
    · have hsz:0<sz:=by simpa using hpos
      cases hys:ys with
      | nil=>
        have:rs=[]:=List.eq_nil_of_length_eq_zero (by rw [a1.len,hys];rfl)
        subst this
        cases q with
        | none=>rfl
        | some a=>intro j v hj;simp at hj
      | cons y0 ys0=>
        have hl0:0<ys.length:=by rw [hys];simp
        obtain ⟨_,b,o,rfl,_⟩:=hf ⟨0,hl0⟩
        intro k v hk
        have hkl:k<rs.length*sz:=by rw [← ZbD hw];exact (List.getElem?_eq_some_iff.1 hk).1
        have hir:k / sz<rs.length:=Nat.div_lt_of_lt_mul (by rw [Nat.mul_comm];exact hkl)
        have hrow2:rs[k / sz]? = some rs[k / sz]:=List.getElem?_eq_getElem hir
        have hjl:k % sz<(rs[k / sz]).length:=by rw [hw _ (List.getElem_mem hir)];exact Nat.mod_lt _ hsz
        have hg2:=Zcg hw hrow2 (List.getElem?_eq_getElem hjl)
        rw [Nat.mul_comm (k / sz) sz,Nat.div_add_mod] at hg2
        rw [hk] at hg2
        obtain ⟨hk3,e3⟩:=a2' _ _ hrow2
        obtain ⟨_,b',o',eb,hc⟩:=hf ⟨k / sz,hk3⟩
        cases eb
        have:=hc (k % sz) v (by rw [← e3,List.getElem?_eq_getElem hjl];exact hg2.symm)
        rw [Addr.add_off _ _ rfl]
        simp only [] at this
        rw [Nat.add_assoc,Nat.mul_comm (k / sz) sz,Nat.div_add_mod] at this
        exact Z9.app (F:=L.flatten) this
  refine Zcj j hj h3 hg hd he hu hx hy g4 (by rw [ZbD g2,g1.len]) g3 hb1 fun l' p' c' hv'=>?_
  have:=h l' p' c' ⟨rows ++ rows',h1.app g1,?_,?_⟩
  · rwa [List.length_append] at this
  · intro r hr'
    rcases List.mem_append.1 hr' with hr' | hr'
    · exact h2 r hr'
    · exact g2 r hr'
  · rw [List.length_append,List.flatten_append];exact hv'
end
end Go.BL
namespace Go.BL
open Go.Conc (G)
theorem Zba.base {α:Type} {B:Kn} {q:Option Addr} {w:Nat} {R:Rel α} {xs:List α} (h:Zba B q w R xs) {i:Nat} {z:α} (hz:xs[i]? = some z) :∃b o,q=some ⟨b,o,none⟩:=by
  obtain ⟨b,o,_,h1,_⟩:=h i z hz;exact ⟨b,o,h1⟩
theorem Zba.elem {α:Type} {B:Kn} {b o w:Nat} {R:Rel α} {xs:List α} (h:Zba B (some ⟨b,o,none⟩) w R xs) {i:Nat} {z:α} (hz:xs[i]? = some z) :∃row,R B row z∧Zb2 B b (o+i*w) row:=by
  obtain ⟨b',o',row,h1,h2,h3⟩:=h i z hz
  cases h1
  exact ⟨row,h2,fun L j u hj=>Z9.app (F:=L.flatten) (h3 j u hj)⟩
theorem Z2 {α:Type} {xs:List α} {i:Nat} (h:i<xs.length) :∃z,xs[i]? = some z:=⟨_,List.getElem?_eq_getElem h⟩
theorem ZlE {α:Type} {xs:List α} {i:Int} (h0:0≤i) (h:i<xs.length) :∃z,xs[i.toNat]? = some z:=Z2 (by omega)
theorem Zb2.mono {B B':Kn} {b o:Nat} {row:List Value} (hle:B.le B') (h:Zb2 B b o row):Zb2 B' b o row:=fun L j u hj=>(h L j u hj).mono hle
def Zd5:List Cells→List Nat→List Cells→List Cells
  | L,[],_=>L
  | L,_,[]=>L
  | L,j :: js,s :: ss=>Zd5 (L.set j s) js ss
theorem ZfN :∀(ks:List Nat) (S:Env),Sub (sel ks S) S
  | [],_=>trivial
  | k :: ks,S=>by
    simp only [sel]
    cases h:get S k with
    | none=>exact ZfN ks S
    | some v=>exact ⟨h,ZfN ks S⟩
theorem ZhJ :∀{V S0 S:Env},Sub V S→Sub S0 S→Sub (V ++ S0) S
  | [],_,_,_,h=>h
  | _ :: _,_,_,h,h'=>⟨h.1,ZhJ h.2 h'⟩
section
variable {P:PJ} {C:Cx P} {k:List Item} {n:Nat} {ops:Array Oper} {i:Nat} {K:Z6} {S:Env} {D:List Deferred} {B:Kn} {L:List Cells} {Q:Exit→ZR}
variable {dst:Option Tmp} {ty:TypeId} {pos:String} {after:Array Edge} {g:Option (Nat × Bool)}
def Zlk {α:Type} (St:α→Env) (Lo:α→List Cells) (Iv:α→Kn→Prop) (μ:α→Nat) (D:List Deferred) (x:α) (Q:Exit→ZR):Exit→ZR
  | .normal=>fun S' D' B' L'=>∃x',μ x'<μ x∧Iv x' B'∧Sub (St x') S'∧(∃gl,L'.flatten.Perm ((Lo x').flatten ++ gl))∧D'=D
  | e=>Q e
theorem ZB {c:Code} {α:Type} (ks:List Nat) (V:α→Env) (js:List Nat) (M:α→List Cells) (Iv:α→Kn→Prop) (μ:α→Nat) (x₀:α) (hS:Sub (V x₀) S) (hL:L=Zd5 L js (M x₀)) (hI:Iv x₀ B)
    (round :∀x B',B.le B'→Iv x B'→wpS P n c (Zlk (fun x=>V x ++ sel ks S) (fun x=>Zd5 L js (M x)) Iv μ D x Q) (V x ++ sel ks S) D B' (Zd5 L js (M x))):wpS P n (.loop c) Q S D B L:=fun C k T hn hT hA=>by
  have hS':Sub (V x₀ ++ sel ks S) S:=ZhJ hS (ZfN ks S)
  have key :∀m x B' T,μ x=m→B.le B'→Iv x B'→T.size=n→Ag T (V x ++ sel ks S)→C.X.R (G (fat C.b T D (.code c :: .inLoop c :: k)) C.cs) B' ((Zd5 L js (M x)).flatten ++ C.F):=by
    intro m
    induction m using Nat.strongRecOn with
    | _ m ih=>
      intro x B' T hm hle hI hn hT
      refine round x B' hle hI C (.inLoop c :: k) T hn hT fun e S' D' B'' L' T' hle' hq hn' hT'=>?_
      cases e with
      | normal=>
        obtain ⟨x',hlt,hI',hs',⟨gl,hp⟩,rfl⟩:=hq
        refine C.X.ctl rfl (fun w=>Ze3) ?_
        refine C.X.drop (r:=(Zd5 L js (M x')).flatten ++ C.F) (gl:=gl) ((hp.append_right C.F).trans ?_) (ih (μ x') (hm ▸ hlt) x' B'' T' rfl (hle.trans hle') hI' hn' (hT'.sub hs'))
        rw [List.append_assoc,List.append_assoc]
        exact List.Perm.append_left _ List.perm_append_comm
      | exit id=>exact After.push rfl (by simp) (hA (.exit id) S' D' B'' L' T' (hle.trans hle') hq hn' hT')
      | ret=>exact After.push (x:=.inLoop c) rfl (by simp) (hA .ret S' D' B'' L' T' (hle.trans hle') hq hn' hT')
      | goto l=>exact hA (.goto l) S' D' B'' L' T' (hle.trans hle') hq hn' hT'
      | panic ch=>exact hA (.panic ch) S' D' B'' L' T' (hle.trans hle') hq hn' hT'
      | outgrown=>exact hA .outgrown S' D' B'' L' T' (hle.trans hle') hq hn' hT'
  refine C.X.ctl rfl (fun w=>ZhM) ?_
  have:=key _ x₀ B T rfl (Kn.le.refl B) hI hn (hT.sub hS')
  rwa [← hL] at this
theorem ZS {α:Type} {St:α→Env} {Lo:α→List Cells} {Iv:α→Kn→Prop} {μ:α→Nat} {D':List Deferred} {x:α} (h:Q .ret S D B L):Zlk St Lo Iv μ D' x Q .ret S D B L:=h
theorem ZO {α:Type} {St:α→Env} {Lo:α→List Cells} {Iv:α→Kn→Prop} {μ:α→Nat} {D':List Deferred} {x:α} {id:Nat} (h:Q (.exit id) S D B L):Zlk St Lo Iv μ D' x Q (.exit id) S D B L:=h
theorem ZJ {α:Type} {St:α→Env} {Lo:α→List Cells} {Iv:α→Kn→Prop} {μ:α→Nat} {x:α} (x':α) (js:List Nat) {r:List Cells} (hm:μ x'<μ x) (hi:Iv x' B) (hs:Sub (St x') S) (hl:ZaN L js=some (Lo x',r)):Zlk St Lo Iv μ D x Q .normal S D B L:=
  ⟨x',hm,hi,hs,⟨r.flatten,ZaA js L _ r hl⟩,rfl⟩
theorem ZkS {t e:TypeId} {x:Operand} {lo hi:Option Operand} {p:Option Addr} {len cap sz:Nat} {a b:Nat} {v:Value} (hv:Value.slice (if cap=a then p else p.map (·.add (a*sz))) (b - a) (cap - a)=v) (hab:a≤b) (hb':b≤cap) (hg:Zf ops S g=some true) (hd:Zn n dst=true) (hu:P.underlying t=some (.slice e)) (hsz:ZL P e=some sz)
    (hx:ev S x=some (.slice p len cap)) (hlo:match lo with | none=>a=0 | some o=>∃k,∃z:Int,ev S o=some (.int k z)∧z=a) (hhi:match hi with | none=>b=len | some o=>∃k,∃z:Int,ev S o=some (.int k z)∧z=b)
    (h:K v D B L):opX P n ops i ⟨dst,.slice t x lo hi none,ty,pos,after,g⟩ K S D B L:=
  ZiL hg hd hu hsz hx hlo hhi hab hb' (by rw [hv];exact h)
theorem ZkP {t e:TypeId} {x y:Operand} {k:IntKind} {b o len cap sz:Nat} {ix:Int} (hg:Zf ops S g=some true) (hd:Zn n dst=true) (hu:P.underlying t=some (.slice e)) (hsz:ZL P e=some sz)
    (hx:ev S x=some (.slice (some ⟨b,o,none⟩) len cap)) (hy:ev S y=some (.int k ix)) (h0:0≤ix) (h1:ix<len) (h:K (ptr ⟨b,o+ix.toNat*sz,none⟩) D B L):opX P n ops i ⟨dst,.indexAddr t x y,ty,pos,after,g⟩ K S D B L:=
  Zb6 hg hd hu hsz hx hy h0 h1 (by rw [Addr.add_off _ _ rfl];exact h)
theorem Zj3 {f:FuncId} {xs:List Operand} {vs:List Value} {ats:Array TypeId} {Post:Value→Kn→Prop} (hg:Zf ops S g=some true) (hd:Zn n dst=true) (he:enters P f=true) (ha:evs S xs=some vs) (hc:ZT P f vs B [] (fun v B' Ls=>Ls=[]∧Post v B'))
    (h :∀v B',B.le B'→Post v B'→K v D B' L):opX P n ops i ⟨dst,.call ⟨.value (.func f),xs.toArray,ats⟩,ty,pos,after,g⟩ K S D B L:=
  Zci hg hd he ha hc fun v B' Ls hle ⟨h1,h2⟩=>by subst h1;rw [List.append_nil];exact h v B' hle h2
end
end Go.BL
namespace Go.BL
open Go.Conc (G)
structure SlK {α:Type} (B:Kn) (q:Option Addr) (cp w:Nat) (R:Rel α) (xs:List α):Prop where
  rows:Zba B q w R xs
  cap:xs.length≤cp
  len:xs.length≤2000000
theorem SlK.mono {α:Type} {B B':Kn} {q:Option Addr} {cp w:Nat} {R:Rel α} {xs:List α} (h:SlK B q cp w R xs) (hR:Mono R) (hle:B.le B'):SlK B' q cp w R xs:=⟨h.rows.mono hR hle,h.cap,h.len⟩
theorem SlK.base {α:Type} {B:Kn} {q:Option Addr} {cp w:Nat} {R:Rel α} {xs:List α} (h:SlK B q cp w R xs) {i:Nat} {z:α} (hz:xs[i]? = some z) :∃b o,q=some ⟨b,o,none⟩:=h.rows.base hz
theorem SlK.elem {α:Type} {B:Kn} {b o cp w:Nat} {R:Rel α} {xs:List α} (h:SlK B (some ⟨b,o,none⟩) cp w R xs) {i:Nat} {z:α} (hz:xs[i]? = some z) :∃row,R B row z∧Zb2 B b (o+i*w) row:=h.rows.elem hz
theorem SlK.nil {α:Type} {B:Kn} {q:Option Addr} {cp w:Nat} {R:Rel α} : SlK B q cp w R ([]:List α):=⟨.nil,Nat.zero_le _,Nat.zero_le _⟩
section
variable {P:PJ} {C:Cx P} {k:List Item} {n:Nat} {ops:Array Oper} {i:Nat} {K:Z6} {S:Env} {D:List Deferred} {B:Kn} {L:List Cells} {Q:Exit→ZR}
variable {dst:Option Tmp} {ty:TypeId} {pos:String} {after:Array Edge} {g:Option (Nat × Bool)}
end
end Go.BL
namespace Go.BL
theorem SlK.cutE {α:Type} {B:Kn} {q:Option Addr} {cp w:Nat} {R:Rel α} {xs:List α} (h:SlK B q cp w R xs) (a b:Nat) (hab:a≤b) (hb:b≤xs.length):b≤cp∧∃q' cp',Value.slice (if cp=a then q else q.map (·.add (a*w))) (b - a) (cp - a) = .slice q' ((xs.take b).drop a).length cp'∧SlK B q' cp' w R ((xs.take b).drop a):=by
  have e1:((xs.take b).drop a).length=b - a:=by rw [List.length_drop,List.length_take];omega
  have hc:=h.cap
  have hl:=h.len
  exact ⟨by omega,_,_,by rw [e1],h.rows.cut hb h.cap,by omega,by omega⟩
end Go.BL
namespace Go.BL
open Go.Conc (G)
section
variable {P:PJ} {C:Cx P} {k:List Item} {n:Nat} {ops:Array Oper} {i:Nat} {K:Z6} {S:Env} {D:List Deferred} {B:Kn} {L:List Cells} {Q:Exit→ZR}
variable {dst:Option Tmp} {ty:TypeId} {pos:String} {after:Array Edge} {g:Option (Nat × Bool)}
variable {α:Type} {R:Rel α} {xs:List α}
end
theorem ZdN.take {l:Cells} {p:Option Addr} {n c k:Nat} {T:TypeId} {sz:Nat} {vs:List Value} (h:ZdN l p n c T sz vs) (hk:k≤n):ZdN l p k c T sz (vs.take (k*sz)):=by
  obtain ⟨h1,h2⟩:=h
  have hks:k*sz≤n*sz:=Nat.mul_le_mul_right sz hk
  refine ⟨by rw [List.length_take,h1];exact Nat.min_eq_left hks,?_⟩
  rcases h2 with ⟨rfl,rfl,rfl,rfl⟩ | ⟨b,arr,rfl,h2,h3,rfl,h4⟩
  · exact .inl ⟨rfl,by omega,rfl,rfl⟩
  · refine .inr ⟨b,arr,rfl,h2,?_,rfl,by omega⟩
    rw [← h3,List.take_take,Nat.min_eq_left hks]
theorem All2.take {α:Type} {R:List Value→α→Prop} {rows:List (List Value)} {xs:List α} (h:All2 R rows xs) :∀k,All2 R (rows.take k) (xs.take k):=by
  induction h with
  | nil=>intro k;simp;exact .nil
  | cons h1 _ ih=>
    intro k
    cases k with
    | zero=>exact .nil
    | succ k=>exact .cons h1 (ih k)
theorem ZcV {w:Nat} :∀{rows:List (List Value)},wide w rows→∀k,(rows.take k).flatten=rows.flatten.take (k*w)
  | [],_,k=>by simp
  | r :: rows,h,0=>by simp
  | r :: rows,h,k+1=>by
    have e:=h r (List.mem_cons_self ..)
    rw [List.take_succ_cons,List.flatten_cons,List.flatten_cons,ZcV (fun r hr=>h r (List.mem_cons_of_mem _ hr)) k,show (k+1)*w=r.length+k*w from by rw [e,Nat.succ_mul,Nat.add_comm],List.take_length_add_append]
theorem Zab.take {α:Type} {B:Kn} {l:Cells} {p:Option Addr} {c:Nat} {T:TypeId} {w:Nat} {R:Rel α} {xs:List α} (h:Zab B l p c T w R xs) {k:Nat} (hk:k≤xs.length):Zab B l p c T w R (xs.take k):=by
  obtain ⟨rows,h1,h2,h3⟩:=h
  refine ⟨rows.take k,h1.take k,fun r hr=>h2 r (List.mem_of_mem_take hr),?_⟩
  rw [ZcV h2]
  have:=h3.take hk
  rwa [show (xs.take k).length=k from by rw [List.length_take];omega]
end Go.BL
namespace Go.BL
open Go.Conc (G)
section
variable {P:PJ} {C:Cx P} {k:List Item} {n:Nat} {ops:Array Oper} {i:Nat} {S:Env} {D:List Deferred} {B:Kn} {L:List Cells} {Q:Exit→ZR}
variable {α:Type} {R:Rel α} {xs:List α} {l:Cells} {p:Option Addr} {cp:Nat} {T:TypeId} {w:Nat}
theorem ZhW {o:Oper} {K:ZR} (j:Nat) (hj:L[j]? = some l) (hv:Zab B l p cp T w R xs) (hR:Mono R) (hl:xs.length≤2000000)
    (h :∀B',B.le B'→SlK B' p cp w R xs→opW P n ops i o K S D B' (L.set j [])):opW P n ops i o K S D B L:=fun C todo k T ho hn hT hA=>by
  obtain ⟨r,h1,h2⟩:=Zae C.F [] hj
  exact C.X.publish rfl h1 fun B' hle hm=>C.X.perm (by simpa using h2.symm) (h B' hle ⟨hv.rows hR hle hm,hv.cap,hl⟩ C todo k T ho hn hT fun S' D' B'' L' T' hle' hq=>hA S' D' B'' L' T' (hle.trans hle') hq)
theorem ZgV {I:Kn→List Cells→Prop} {ℓ:List Nat} {K:ZR} (j:Nat) (hj:L[j]? = some l) (hv:Zab B l p cp T w R xs) (hR:Mono R) (hl:xs.length≤2000000) (hI' :∀B',B.le B'→I B' (L.set j []))
    (h :∀B',B.le B'→SlK B' p cp w R xs→ZaD C k n ops I ℓ K S D B' (L.set j [])):ZaD C k n ops I ℓ K S D B L:=fun T ex pend π a1 a2 a3 a4 a5 a6 a7 a8 a9 hI hA=>by
  obtain ⟨r,h1,h2⟩:=Zae C.F [] hj
  exact C.X.publish rfl h1 fun B' hle hm=>C.X.perm (by simpa using h2.symm) (h B' hle ⟨hv.rows hR hle hm,hv.cap,hl⟩ T ex pend π a1 a2 a3 a4 a5 a6 a7 a8 a9 (hI' B' hle) fun S' D' B'' L' T' hle' hq=>hA S' D' B'' L' T' (hle.trans hle') hq)
end
end Go.BL
namespace Go.BL
set_option linter.unusedVariables false
abbrev Str:=List UInt8
def Zc4:Rel Str:=fun _ row x=>row=[str x]∧x.length≤2000000
theorem Zc4.mono:Mono Zc4:=fun _ _ _ h=>h
theorem Zc4.one {B:Kn} :∀row y,Zc4 B row y→row.all Zc0=true∧row.length=1:=by rintro _ y ⟨rfl,_⟩;exact ⟨rfl,rfl⟩
def Zjv:Rel Int:=fun _ row x=>row=[.int .i64 x]
theorem Zjv.mono:Mono Zjv:=fun _ _ _ h=>h
theorem Zjv.one {B:Kn} :∀row y,Zjv B row y→row.all Zc0=true∧row.length=1:=by rintro _ y rfl;exact ⟨rfl,rfl⟩
structure DUser where
  name:Str
  pass:Str
  quota:Int
deriving DecidableEq
def Zv:Rel DUser:=fun _ row x=>row=[str x.name,str x.pass,.int .i64 x.quota]∧x.name.length≤2000000∧x.pass.length≤2000000
theorem Zv.mono:Mono Zv:=fun _ _ _ h=>h
theorem Zv.one {B:Kn} :∀row y,Zv B row y→row.all Zc0=true∧row.length=3:=by rintro _ y ⟨rfl,_⟩;exact ⟨rfl,rfl⟩
structure DGrant where
  user:Str
  rights:Int
deriving DecidableEq
def Z1:Rel DGrant:=fun _ row x=>row=[str x.user,.int .i64 x.rights]∧x.user.length≤2000000
theorem Z1.mono:Mono Z1:=fun _ _ _ h=>h
theorem Z1.one {B:Kn} :∀row y,Z1 B row y→row.all Zc0=true∧row.length=2:=by rintro _ y ⟨rfl,_⟩;exact ⟨rfl,rfl⟩
structure DMail where
  uid:Int
  flags:Int
  text:Str
deriving DecidableEq
def Zar:Rel DMail:=fun _ row x=>row=[.int .i64 x.uid,.int .i64 x.flags,str x.text]∧x.text.length≤2000000
theorem Zar.mono:Mono Zar:=fun _ _ _ h=>h
theorem Zar.one {B:Kn} :∀row y,Zar B row y→row.all Zc0=true∧row.length=3:=by rintro _ y ⟨rfl,_⟩;exact ⟨rfl,rfl⟩
structure DSpan where
  low:Int
  high:Int
deriving DecidableEq
def Zhn:Rel DSpan:=fun _ row x=>row=[.int .i64 x.low,.int .i64 x.high]
theorem Zhn.mono:Mono Zhn:=fun _ _ _ h=>h
theorem Zhn.one {B:Kn} :∀row y,Zhn B row y→row.all Zc0=true∧row.length=2:=by rintro _ y rfl;exact ⟨rfl,rfl⟩
structure DItem where
  id:Int
  fr:Str
  text:Str
  left:List Str
deriving DecidableEq
def ZaC:Rel DItem:=fun B row x=>∃q cp,row=[.int .i64 x.id,str x.fr,str x.text,.slice q x.left.length cp]∧SlK B q cp 1 Zc4 x.left∧x.fr.length≤2000000∧x.text.length≤2000000
theorem ZaC.mono:Mono ZaC:=by rintro B B' hle row x ⟨q,cp,h1,h2,h3,h4⟩;exact ⟨q,cp,h1,h2.mono Zc4.mono hle,h3,h4⟩
theorem ZaC.one {B:Kn} :∀row y,ZaC B row y→row.all Zc0=true∧row.length=4:=by rintro _ y ⟨_,_,rfl,_⟩;exact ⟨rfl,rfl⟩
structure DQueue where
  next:Int
  items:List DItem
deriving DecidableEq
structure DLetter where
  fr:Str
  to_:List Str
  text:Str
deriving DecidableEq
structure DBox where
  next:Int
  mail:List DMail
deriving DecidableEq
structure DFolder where
  owner:Str
  name:Str
  grants:List DGrant
  next:Int
  mail:List DMail
deriving DecidableEq
def ZD:Rel DFolder:=fun B row x=>∃q cp q' cp',row=[str x.owner,str x.name,.slice q x.grants.length cp,.int .i64 x.next,.slice q' x.mail.length cp']∧SlK B q cp 2 Z1 x.grants∧SlK B q' cp' 3 Zar x.mail∧x.owner.length≤2000000∧x.name.length≤2000000
theorem ZD.mono:Mono ZD:=by rintro B B' hle row x ⟨q,cp,q',cp',h1,h2,h3,h4⟩;exact ⟨q,cp,q',cp',h1,h2.mono Z1.mono hle,h3.mono Zar.mono hle,h4⟩
theorem ZD.one {B:Kn} :∀row y,ZD B row y→row.all Zc0=true∧row.length=5:=by rintro _ y ⟨_,_,_,_,rfl,_⟩;exact ⟨rfl,rfl⟩
structure DHost where
  domain:Str
  users:List DUser
  folders:List DFolder
  queue:DQueue
deriving DecidableEq
end Go.BL
namespace Go.BL
end Go.BL
namespace Go.BL
end Go.BL
namespace Go.BL
open Go.Conc (G)
set_option linter.unusedVariables false
def ZlD {P:PJ} (X:Lg P) (l:Cells) (hn:(l.map (·.1)).Nodup):Lg P where
  join:=fun h hlB=>X.join (P.Join.lend hn hlB h)
  main:=X.main
  R:=fun g B L=>(∀p,p∈l→B.mem p.1=some p.2)→X.R g (B.minus l) (l ++ L)
  conv:=fun {g B B' L L'} hle hs hb hl h hlB=>by
    have hlB' :∀p,p∈l→B'.mem p.1=some p.2:=fun p hp=>hle _ _ (hlB p hp)
    refine X.conv (fun b o hb=>?_) (fun w s=>Zgx hlB' hn (hs w (ZgG hlB s))) (fun b o hbo=>?_) (fun p hp=>?_) (h hlB')
    · obtain ⟨h1,h2⟩:=Kn.minus_mem.1 hb
      exact Kn.minus_mem.2 ⟨hle b o h1,h2⟩
    · obtain ⟨h1,h2⟩:=Kn.minus_mem.1 hbo
      rcases hb b o h1 with hx | ⟨p,hp,e⟩
      · obtain ⟨o',ho'⟩:=Option.isSome_iff_exists.1 hx
        exact .inl (by rw [Kn.minus_mem.2 ⟨ho',h2⟩];rfl)
      · exact .inr ⟨p,List.mem_append.2 (.inr hp),e⟩
    · rcases List.mem_append.1 hp with hp | hp
      · exact ⟨p,List.mem_append.2 (.inl hp),rfl⟩
      · obtain ⟨q,hq,e⟩:=hl p hp
        exact ⟨q,List.mem_append.2 (.inr hq),e⟩
  step:=fun {g B L} hg h hlB=>by
    refine X.step hg fun w s=>?_
    obtain ⟨g',w',es,B',L',h1,h2,h3,h4⟩:=h w (ZgG hlB s)
    have hlB' :∀p,p∈l→B'.mem p.1=some p.2:=fun p hp=>h3.le _ _ (hlB p hp)
    refine ⟨g',w',es,B'.minus l,l ++ L',h1,fun e he=>?_,⟨fun b o hb=>?_,Zgx hlB' hn h3.sat,h3.size,fun b hb hn'=>h3.keep b hb fun p hp=>hn' p (List.mem_append.2 (.inr hp)),fun b o hbo=>?_,fun p hp=>?_,h3.fz,h3.tape,h3.os,h3.output⟩,h4 hlB'⟩
    · rcases h2 e he with hx | ⟨hs,blk,hloc,hx⟩
      · exact .inl hx
      · refine .inr ⟨hs,blk,hloc,?_⟩
        rcases hx with ⟨o,ho⟩ | ⟨hw,hb⟩ | hge
        · exact .inl ⟨o,List.mem_append.2 (.inr ho)⟩
        · cases hi:inL l blk with
          | true=>
            obtain ⟨p,hp,rfl⟩:=ZeH.1 hi
            exact .inl ⟨p.2,List.mem_append.2 (.inl hp)⟩
          | false=>
            obtain ⟨o,ho⟩:=Option.isSome_iff_exists.1 hb
            exact .inr (.inl ⟨hw,by rw [Kn.minus_mem.2 ⟨ho,hi⟩];rfl⟩)
        · exact .inr (.inr hge)
    · obtain ⟨a1,a2⟩:=Kn.minus_mem.1 hb
      exact Kn.minus_mem.2 ⟨h3.le b o a1,a2⟩
    · obtain ⟨a1,a2⟩:=Kn.minus_mem.1 hbo
      rcases h3.newB b o a1 with hx | ⟨p,hp,e⟩ | hge
      · obtain ⟨o',ho'⟩:=Option.isSome_iff_exists.1 hx
        exact .inl (by rw [Kn.minus_mem.2 ⟨ho',a2⟩];rfl)
      · exact .inr (.inl ⟨p,List.mem_append.2 (.inr hp),e⟩)
      · exact .inr (.inr hge)
    · rcases List.mem_append.1 hp with hp | hp
      · exact .inl ⟨p,List.mem_append.2 (.inl hp),rfl⟩
      · rcases h3.newL p hp with ⟨q,hq,e⟩ | hge
        · exact .inl ⟨q,List.mem_append.2 (.inr hq),e⟩
        · exact .inr hge
theorem ZT.borrow {P:PJ} {f:FuncId} {args:List Value} {B:Kn} {l:Cells} {Ls:List Cells} {Post:Value→Kn→List Cells→Prop}
    (h:(∀p,p∈l→(B.add l).mem p.1=some p.2)→ZT P f args (B.add l) Ls Post) :
    ZT P f args B (l :: Ls) (fun v B' Ls'=>∃B₂ Ls₂,Ls'=l :: Ls₂∧B'=B₂.minus l∧(B.add l).le B₂∧(∀p,p∈l→(B.add l).mem p.1=some p.2)∧(B.add l).minus l=B∧Post v B₂ Ls₂):=fun X kind c cs F hk hA=>by
  refine X.assume rfl fun ha hnd=>?_
  rw [List.flatten_cons,List.append_assoc] at ha hnd ⊢
  have hnl:(l.map (·.1)).Nodup:=by rw [List.map_append] at hnd;exact (List.nodup_append.1 hnd).1
  have hal :∀p,p∈l→B.mem p.1=none:=fun p hp=>ha p (List.mem_append.2 (.inl hp))
  have hm :∀p,p∈l→(B.add l).mem p.1=some p.2:=fun p hp=>Kn.add_mem hal hnl hp
  have e:(B.add l).minus l=B:=by
    have :∀b,((B.add l).minus l).mem b=B.mem b:=fun b=>by
      simp only [Kn.minus]
      cases hb:inL l b with
      | true=>
        obtain ⟨p,hp,rfl⟩:=ZeH.1 hb
        simp [hal p hp]
      | false=>
        simp only [Kn.add]
        cases hx:B.mem b with
        | some o=>simp
        | none=>
          have:l.find? (fun p=>p.1 == b)=none:=List.find?_eq_none.2 fun p hp=>by simpa using Zcu.1 hb p hp
          simp [this]
    cases B
    simp only [Kn.minus] at this ⊢
    congr 1
    funext b
    exact this b
  have key:=h hm (ZlD X l hnl) kind c cs F hk fun v B₂ Ls₂ hle hq hlB=>by
    have:=hA v (B₂.minus l) (l :: Ls₂) (fun b o hb=>by
        have h1:=Kn.le_add B l b o hb
        refine Kn.minus_mem.2 ⟨hle b o h1,Zcu.2 fun p hp he=>?_⟩
        rw [← he,hal p hp] at hb;cases hb) ⟨B₂,Ls₂,rfl,rfl,hle,hm,e,hq⟩
    rwa [List.flatten_cons,List.append_assoc] at this
  have:=key hm
  rwa [e] at this
end Go.BL
namespace Go.BL
open Go.Conc (G)
def ZiD {α:Type} (R:Rel α):Prop:=∀{B B':Kn} {row:List Value} {x:α},R B row x→R B' row x
theorem Zc4.any:ZiD Zc4:=fun h=>h
theorem Zjv.any:ZiD Zjv:=fun h=>h
theorem Zv.any:ZiD Zv:=fun h=>h
theorem Z1.any:ZiD Z1:=fun h=>h
theorem Zar.any:ZiD Zar:=fun h=>h
theorem Zhn.any:ZiD Zhn:=fun h=>h
theorem Zab.rowsF {α:Type} {B B':Kn} {l:Cells} {p:Option Addr} {c:Nat} {T:TypeId} {w:Nat} {R:Rel α} {xs:List α} (h:Zab B l p c T w R xs) (hR:ZiD R) (hm :∀q,q∈l→B'.mem q.1=some q.2):Zba B' p w R xs:=by
  obtain ⟨rows,h1,h2,h3⟩:=h
  have h':Zab B' l p c T w R xs:=⟨rows,h1.mono fun _ _=>hR,h2,h3⟩
  have:=h'.rows (fun _ _ _ h=>hR h) (Kn.le.refl B') hm
  exact this
theorem Zab.anyK {α:Type} {B B':Kn} {l:Cells} {p:Option Addr} {c:Nat} {T:TypeId} {w:Nat} {R:Rel α} {xs:List α} (h:Zab B l p c T w R xs) (hR:ZiD R):Zab B' l p c T w R xs:=by
  obtain ⟨rows,h1,h2,h3⟩:=h
  exact ⟨rows,h1.mono fun _ _=>hR,h2,h3⟩
section
variable {P:PJ} {C:Cx P} {k:List Item} {n:Nat} {ops:Array Oper} {i:Nat} {S:Env} {D:List Deferred} {B BV B0:Kn} {L:List Cells} {Q:Exit→ZR}
variable {α:Type} {R:Rel α} {xs:List α} {l:Cells} {p:Option Addr} {cp:Nat} {T:TypeId} {w:Nat}
end
end Go.BL
namespace Go.BL
open Go.Conc (G)
theorem Zaw.borrow {P:PJ} {f:FuncId} {args:List Value} {B:Kn} {l:Cells} {v:Value} (h:(∀p,p∈l→(B.add l).mem p.1=some p.2)→Zaw P f args (B.add l) v):ZkE P f args B l v l:=
  (ZT.borrow h).mono fun v' B' Ls' _ ⟨B₂,Ls₂,h1,h2,_,_,h3,h4,h5,h6⟩=>by subst h5;subst h6;exact ⟨h4,h2.trans h3,h1⟩
theorem Zab.lend {α:Type} {B:Kn} {l:Cells} {p:Option Addr} {c:Nat} {T:TypeId} {w:Nat} {R:Rel α} {xs:List α} (h:Zab B l p c T w R xs) (hR:Mono R) (hm :∀q,q∈l→(B.add l).mem q.1=some q.2) (hl:xs.length≤2000000):SlK (B.add l) p c w R xs:=⟨h.rows hR (Kn.le_add B l) hm,h.cap,hl⟩
end Go.BL
namespace Go.BL
open Go.Conc (G)
section
variable {P:PJ} {C:Cx P} {k:List Item} {n:Nat} {ops:Array Oper} {i:Nat} {K:Z6} {S:Env} {D:List Deferred} {B:Kn} {L:List Cells} {Q:Exit→ZR}
variable {dst:Option Tmp} {ty:TypeId} {pos:String} {after:Array Edge} {g:Option (Nat × Bool)}
theorem Zlu {t e:TypeId} {x y:Operand} {k:IntKind} {p:Option Addr} {b len cap sz:Nat} {ix:Int} (hp:p=some ⟨b,0,none⟩) (hg:Zf ops S g=some true) (hd:Zn n dst=true) (hu:P.underlying t=some (.slice e)) (hsz:ZL P e=some sz)
    (hx:ev S x=some (.slice p len cap)) (hy:ev S y=some (.int k ix)) (h0:0≤ix) (h1:ix<len) (h:K (ptr ⟨b,ix.toNat*sz,none⟩) D B L):opX P n ops i ⟨dst,.indexAddr t x y,ty,pos,after,g⟩ K S D B L:=by
  subst hp
  exact Zb6 hg hd hu hsz hx hy h0 h1 (by rw [Addr.add_off _ _ rfl,Nat.zero_add];exact h)
end
end Go.BL
namespace Go.BL
open Go.Conc (G)
theorem Zdd :∀(a b:List Value) (k:Nat) (us:List Value),ZV (a ++ b) (a.length+k) us=a ++ ZV b k us
  | [],b,k,us=>by simp
  | x :: a,b,k,us=>by
    cases us with
    | nil=>simp [Zao]
    | cons u us=>
      have:=Zdd a b k (u :: us)
      rw [List.length_cons,show a.length+1+k=(a.length+k)+1 from by omega]
      simp only [List.cons_append,ZV]
      rw [this]
theorem ZbQ :∀(a b:List Value) (k:Nat) (us:List Value),k+us.length≤a.length→ZV (a ++ b) k us=ZV a k us ++ b
  | a,b,k,[],_=>by simp [Zao]
  | [],b,k,u :: us,h=>by simp at h
  | x :: a,b,0,u :: us,h=>by
    have:=ZbQ a b 0 us (by simpa using h)
    simp [ZV,this]
  | x :: a,b,k+1,u :: us,h=>by
    have:=ZbQ a b k (u :: us) (by simp only [List.length_cons] at h ⊢;omega)
    simp only [ZV,List.cons_append,this]
theorem Zca (l:List Value) (i k:Nat) (us:List Value) (h:i+us.length≤k) (hk:k≤l.length):(ZV l i us).take k=ZV (l.take k) i us:=by
  have e:l=l.take k ++ l.drop k:=(List.take_append_drop k l).symm
  have hl:(l.take k).length=k:=by rw [List.length_take];omega
  conv=>lhs;rw [e,ZbQ _ _ _ _ (by rw [hl];exact h)]
  rw [List.take_append_of_le_length (by rw [ZI,hl];exact Nat.le_refl _),List.take_of_length_le (by rw [ZI,hl];exact Nat.le_refl _)]
theorem ZbR {w:Nat} {us:List Value} :∀{rows:List (List Value)} {i off:Nat} {row:List Value},wide w rows→rows[i]? = some row→off+us.length≤w→ZV rows.flatten (i*w+off) us=(rows.set i (ZV row off us)).flatten
  | [],i,off,row,_,h,_=>by simp at h
  | r :: rows,0,off,row,hw,h,ho=>by
    simp only [List.getElem?_cons_zero,Option.some.injEq] at h
    subst h
    have e:=hw r (List.mem_cons_self ..)
    rw [Nat.zero_mul,Nat.zero_add,List.flatten_cons,ZbQ _ _ _ _ (by rw [e];exact ho),List.set_cons_zero,List.flatten_cons]
  | r :: rows,i+1,off,row,hw,h,ho=>by
    have e:=hw r (List.mem_cons_self ..)
    have:=ZbR (rows:=rows) (i:=i) (off:=off) (fun r hr=>hw r (List.mem_cons_of_mem _ hr)) (by simpa using h) ho
    rw [show (i+1)*w+off=r.length+(i*w+off) from by rw [e,Nat.succ_mul];omega,List.flatten_cons,Zdd,this,List.set_cons_succ,List.flatten_cons]
section
variable {P:PJ} {C:Cx P} {k:List Item} {n:Nat} {ops:Array Oper} {i:Nat} {K:Z6} {S:Env} {D:List Deferred} {B BV:Kn} {L:List Cells} {Q:Exit→ZR}
variable {dst:Option Tmp} {ty:TypeId} {pos:String} {after:Array Edge} {g:Option (Nat × Bool)}
theorem Zer {t T:TypeId} {x y:Operand} {v:Value} {α:Type} {R:Rel α} {xs:List α} {z:α} (z':α) (us:List Value) {l:Cells} {p:Option Addr} {cp sz k off b:Nat} (j:Nat) (hv:Zab BV l p cp T sz R xs) (hp:p=some ⟨b,0,none⟩) (hz:xs[k]? = some z) (hg:Zf ops S g=some true) (hd:Zn n dst=true) (hsz:ZL P t=some us.length)
    (hx:ev S x=some (ptr ⟨b,k*sz+off,none⟩)) (hy:ev S y=some v) (hvc:v.cells=us.toArray) (ho:us.all Zc0=true) (hj:L[j]? = some l) (hoff:Nat.ble (off+us.length) sz=true) (hrow :∀row,R BV row z→R BV (ZV row off us) z')
    (h :∀l',Zab BV l' p cp T sz R (xs.set k z')→K undef D B (L.set j l')):opX P n ops i ⟨dst,.store t x y,ty,pos,after,g⟩ K S D B L:=by
  obtain ⟨rows,h1,h2,h3,⟨rfl,_,_,_⟩ | ⟨b',arr,rfl,ha,ht,rfl,hmc⟩⟩:=hv
  · cases hp
  · cases hp
    obtain ⟨row,hr1,hr2⟩:=h1.get hz
    have hoff':=Nat.le_of_ble_eq_true hoff
    have hk:k<xs.length:=(List.getElem?_eq_some_iff.1 hz).1
    have hb1:k*sz+off+us.length≤xs.length*sz:=by
      have:(k+1)*sz≤xs.length*sz:=Nat.mul_le_mul_right sz hk
      rw [Nat.succ_mul] at this;omega
    have hb2:xs.length*sz≤arr.length:=by rw [ha];exact Nat.mul_le_mul_right sz hmc
    refine Zb5 us j (ZV arr (k*sz+off) us) hg hd hsz hx hy hvc ho (r:=[]) hj rfl (Nat.ble_eq_true_of_le (by simpa using (by omega:k*sz+off+us.length≤arr.length))) rfl (h _ ?_)
    refine ⟨rows.set k (ZV row off us),h1.set (hrow row hr2) k,fun r hr=>?_,?_⟩
    · rcases List.mem_or_eq_of_mem_set hr with hr | rfl
      · exact h2 r hr
      · rw [ZI];exact h2 row (List.mem_of_getElem? hr1)
    · have e:=ZbR (us:=us) h2 hr1 hoff'
      refine ⟨?_,.inr ⟨b,_,rfl,by rw [ZI];exact ha,?_,rfl,by rw [List.length_set];exact hmc⟩⟩
      · rw [← e,ZI,List.length_set];exact h3
      · rw [List.length_set,Zca _ _ _ _ hb1 hb2,ht,e]
end
end Go.BL
namespace Go.BL
open Go.Conc (G)
set_option linter.unusedVariables false
section
variable {P:PJ} {B:Kn} {L L₁:Cells} {l:Nat} {lp:Loop}
end
section moves
variable {P:PJ} {X:Lg P} {b:Frame} {T:Array Value} {D:List Deferred} {k:List Item} {cs:List Frame} {B:Kn} {L L₁:Cells} {l:Nat} {lp:Loop}
end moves
end Go.BL
namespace Go.BL
open Go.Conc (G)
section
variable {P:PJ} {n:Nat} {ops:Array Oper} {i:Nat} {K:Z6} {S:Env} {D:List Deferred} {B:Kn} {L:List Cells} {Q:Exit→ZR}
variable {dst:Option Tmp} {ty:TypeId} {pos:String} {after:Array Edge} {g:Option (Nat × Bool)}
end
end Go.BL
namespace Go.BL
open Go.Conc (G)
set_option linter.unusedVariables false
def Kn.none:Kn:=⟨fun _=>Option.none⟩
abbrev ZdO (α:Type):=List Value→α→Cells→Prop
inductive All3 {α:Type} (R:ZdO α):List (List Value)→List α→Cells→Prop
  | nil:All3 R [] [] []
  | cons {row:List Value} {x:α} {ins rest:Cells} {rows:List (List Value)} {xs:List α} : R row x ins→All3 R rows xs rest→All3 R (row :: rows) (x :: xs) (ins ++ rest)
theorem All3.len {α:Type} {R:ZdO α} {rows:List (List Value)} {xs:List α} {s:Cells} (h:All3 R rows xs s):rows.length=xs.length:=by
  induction h with
  | nil=>rfl
  | cons _ _ ih=>simp [ih]
theorem All3.snoc {α:Type} {R:ZdO α} {rows:List (List Value)} {xs:List α} {s:Cells} (h:All3 R rows xs s) {row:List Value} {x:α} {ins:Cells} (hx:R row x ins):All3 R (rows ++ [row]) (xs ++ [x]) (s ++ ins):=by
  induction h with
  | nil=>have:=All3.cons hx All3.nil;simpa using this
  | cons h1 _ ih=>rw [List.append_assoc];exact .cons h1 ih
def Za9 {α:Type} (l:Cells) (p:Option Addr) (c:Nat) (T:TypeId) (w:Nat) (R:ZdO α) (xs:List α):Prop:=
∃rows blk ins,All3 R rows xs ins∧wide w rows∧l.Perm (blk ++ ins)∧ZdN blk p xs.length c T w rows.flatten
theorem Za9.lit0 {α:Type} {b:Nat} {T:TypeId} {w:Nat} {R:ZdO α} : Za9 (ZaB b [] T) (some ⟨b,0,Option.none⟩) 0 T w R ([]:List α):=⟨[],_,[],.nil,(fun _ h=>by cases h),by simp,ZdN.lit (by simp)⟩
theorem Za9.nil {α:Type} {T:TypeId} {w:Nat} {R:ZdO α} : Za9 [] Option.none 0 T w R ([]:List α):=⟨[],[],[],.nil,(fun _ h=>by cases h),by simp,ZdN.nil T w⟩
theorem Za9.cap {α:Type} {l:Cells} {p:Option Addr} {c:Nat} {T:TypeId} {w:Nat} {R:ZdO α} {xs:List α} (h:Za9 l p c T w R xs):xs.length≤c:=by
  obtain ⟨rows,blk,ins,_,_,_,_,⟨_,h0,_,_⟩ | ⟨b,arr,_,_,_,_,hm⟩⟩:=h
  · omega
  · exact hm
theorem All3.known {α:Type} {R:ZdO α} {R':Rel α} {B:Kn} (hR :∀row x ins,R row x ins→(∀q,q∈ins→B.mem q.1=some q.2)→R' B row x) :∀{rows:List (List Value)} {xs:List α} {s:Cells},All3 R rows xs s→(∀q,q∈s→B.mem q.1=some q.2)→All2 (R' B) rows xs:=by
  intro rows xs s h
  induction h with
  | nil=>intro _;exact .nil
  | cons h1 _ ih=>intro hm;exact .cons (hR _ _ _ h1 fun q hq=>hm q (List.mem_append.2 (.inl hq))) (ih fun q hq=>hm q (List.mem_append.2 (.inr hq)))
theorem Za9.known {α:Type} {l:Cells} {p:Option Addr} {c:Nat} {T:TypeId} {w:Nat} {R:ZdO α} {R':Rel α} {B:Kn} {xs:List α} (h:Za9 l p c T w R xs) (hR :∀row x ins,R row x ins→(∀q,q∈ins→B.mem q.1=some q.2)→R' B row x) (hM:Mono R') (hm :∀q,q∈l→B.mem q.1=some q.2) (hl:xs.length≤2000000):SlK B p c w R' xs:=by
  have hc:=h.cap
  obtain ⟨rows,blk,ins,h1,h2,h3,h4⟩:=h
  have h5:Zab B blk p c T w R' xs:=⟨rows,h1.known hR fun q hq=>hm q (h3.mem_iff.2 (List.mem_append.2 (.inr hq))),h2,h4⟩
  exact ⟨h5.rows hM (Kn.le.refl B) fun q hq=>hm q (h3.mem_iff.2 (List.mem_append.2 (.inl hq))),hc,hl⟩
abbrev ZjW (T:TypeId) (s:Cells) (q:Option Addr) (c:Nat) (ls:List Str):Prop:=Zab Kn.none s q c T 1 Zc4 ls
def ZbN (T:TypeId):ZdO DItem:=fun row x ins=>∃q c,row=[.int .i64 x.id,str x.fr,str x.text,.slice q x.left.length c]∧ZjW T ins q c x.left∧x.fr.length≤2000000∧x.text.length≤2000000∧x.left.length≤2000000
theorem ZbN.known {T:TypeId} {B:Kn} {row:List Value} {x:DItem} {ins:Cells} (h:ZbN T row x ins) (hm :∀q,q∈ins→B.mem q.1=some q.2):ZaC B row x:=by
  obtain ⟨q,c,h1,h2,h3,h4,h5⟩:=h
  exact ⟨q,c,h1,⟨h2.rowsF Zc4.any hm,h2.cap,h5⟩,h3,h4⟩
def ZdV (T Tn:TypeId):Value→List DItem→Cells→Prop
  | v,[],s=>v = .pointer Option.none∧s=[]
  | v,x :: xs,s=>∃b row nx ins rest,v=ptr ⟨b,0,Option.none⟩∧s.Perm (ZaB b (row ++ [nx]) Tn ++ (ins ++ rest))∧ZbN T row x ins∧ZdV T Tn nx xs rest
section
variable {P:PJ} {n:Nat} {ops:Array Oper} {i:Nat} {K:Z6} {S:Env} {D:List Deferred} {B:Kn} {L:List Cells} {Q:Exit→ZR}
variable {dst:Option Tmp} {ty:TypeId} {pos:String} {after:Array Edge} {g:Option (Nat × Bool)}
theorem ZiX {o:Oper} {L':List Cells} {K':Z6} (hp:L.flatten.Perm L'.flatten) (h:opX P n ops i o K' S D B L') (hk :∀v D' B' L₁,B.le B'→K' v D' B' L₁→∃L₂,L₁.flatten.Perm L₂.flatten∧K v D' B' L₂):opX P n ops i o K S D B L:=⟨h.1,fun C todo k T ho hn hT hA=>
  C.X.perm (hp.append_right _) (h.2 C todo k T ho hn hT fun v D' B' L₁ hle hK=>by
    obtain ⟨L₂,hp2,hK2⟩:=hk v D' B' L₁ hle hK
    exact C.X.perm (hp2.append_right _) (hA v D' B' L₂ hle hK2))⟩
theorem Zgv {L:List Cells} {j:Nat} {s:Cells} (s':Cells) (hj:L[j]? = some s) :∃r,L.flatten.Perm (s ++ r)∧((L.set j s').flatten).Perm (s' ++ r):=by
  obtain ⟨r,h1,h2⟩:=Zae [] s' hj
  exact ⟨r,by simpa using h1,by simpa using h2⟩
end
end Go.BL
namespace Go.BL
open Go.Conc (G)
section
variable {P:PJ} {n:Nat} {ops:Array Oper} {i:Nat} {K:Z6} {S:Env} {D:List Deferred} {B:Kn} {L:List Cells} {Q:Exit→ZR}
variable {dst:Option Tmp} {ty:TypeId} {pos:String} {after:Array Edge} {g:Option (Nat × Bool)}
end
end Go.BL
namespace Go.BL
open Go.Conc (G)
theorem ZdV.ptr {T Tn:TypeId} {v:Value} {xs:List DItem} {s:Cells} (h:ZdV T Tn v xs s) :∃p,v = .pointer p:=by
  cases xs with
  | nil=>exact ⟨_,h.1⟩
  | cons x xs=>obtain ⟨b,_,_,_,_,rfl,_⟩:=h;exact ⟨_,rfl⟩
theorem ZdV.more {T Tn:TypeId} {p:Option Addr} {xs:List DItem} {s:Cells} (h:ZdV T Tn (.pointer p) xs s) (hp:p.isNone=false) :∃y ys b q c np ins rest,p=some ⟨b,0,Option.none⟩∧xs=y :: ys∧s.Perm (ZaB b [.int .i64 y.id,str y.fr,str y.text,.slice q y.left.length c,.pointer np] Tn ++ [ins,rest].flatten)∧ZjW T ins q c y.left∧y.fr.length≤2000000∧y.text.length≤2000000∧y.left.length≤2000000∧ZdV T Tn (.pointer np) ys rest:=by
  cases xs with
  | nil=>cases h.1;cases hp
  | cons y ys=>
    obtain ⟨b,row,nx,ins,rest,h1,h2,⟨q,c,rfl,h4,h5,h6,h7⟩,h8⟩:=h
    obtain ⟨np,rfl⟩:=h8.ptr
    cases h1
    exact ⟨y,ys,b,q,c,np,ins,rest,rfl,rfl,by simpa using h2,h4,h5,h6,h7,h8⟩
theorem ZdV.done {T Tn:TypeId} {p:Option Addr} {xs:List DItem} {s:Cells} (h:ZdV T Tn (.pointer p) xs s) (hp:p.isNone=true):xs=[]:=by
  cases xs with
  | nil=>rfl
  | cons y ys=>obtain ⟨b,row,nx,ins,rest,h1,_⟩:=h;cases h1;cases hp
theorem ZfI {P:PJ} {n:Nat} {Q:Exit→ZR} {S:Env} {D:List Deferred} {B:Kn} {L:List Cells} {c:Code} {s a:Cells} {bs:List Cells} (j:Nat) (hj:L[j]? = some s) (hp:s.Perm (a ++ bs.flatten)) (h:wpS P n c Q S D B (L.set j a ++ bs)):wpS P n c Q S D B L:=fun C k T hn hT hA=>by
  refine C.X.perm ?_ (h C k T hn hT hA)
  refine List.Perm.append_right _ ?_
  obtain ⟨r,h1,h2⟩:=Zgv a hj
  refine h1.trans ((hp.append_right r).trans ?_)
  rw [List.flatten_append]
  refine List.Perm.trans ?_ (h2.symm.append_right _)
  rw [List.append_assoc,List.append_assoc]
  exact List.Perm.append_left _ List.perm_append_comm
end Go.BL
namespace Go.BL
open Go.Conc (G)
set_option linter.unusedVariables false
section
variable {P:PJ}
end
section
variable {P:PJ} {n:Nat} {ops:Array Oper} {i:Nat} {K:Z6} {S:Env} {D:List Deferred} {B:Kn} {L:List Cells}
variable {dst:Option Tmp} {ty:TypeId} {pos:String} {after:Array Edge} {g:Option (Nat × Bool)}
end
end Go.BL
namespace Go.BL
open Go.Conc (G)
set_option linter.unusedVariables false
theorem Zkh {a b:Cells} (h :∀(f:Cells→Nat) (g:Nat × Obj→Nat),f []=0→(∀x y,f (x ++ y)=f x+f y)→(∀x l,f (x :: l)=g x+f l)→f a=f b):a.Perm b:=by
  classical
  rw [List.perm_iff_count]
  intro x
  exact h (fun l=>l.count x) (fun y=>if y == x then 1 else 0) (by simp) (fun l m=>by simp [List.count_append]) (fun y l=>by rw [List.count_cons,Nat.add_comm])
section
variable {P:PJ} {n:Nat} {ops:Array Oper} {i:Nat} {K:Z6} {S:Env} {D:List Deferred} {B:Kn} {L:List Cells} {Q:Exit→ZR}
variable {dst:Option Tmp} {ty:TypeId} {pos:String} {after:Array Edge} {g:Option (Nat × Bool)}
theorem ZcC {s a:Cells} {bs:List Cells} (j:Nat) (hj:L[j]? = some s) (hp:s.Perm (a ++ bs.flatten)):L.flatten.Perm (L.set j a ++ bs).flatten:=by
  obtain ⟨r,h1,h2⟩:=Zgv a hj
  refine h1.trans ((hp.append_right r).trans ?_)
  rw [List.flatten_append]
  refine List.Perm.trans ?_ (h2.symm.append_right _)
  rw [List.append_assoc,List.append_assoc]
  exact List.Perm.append_left _ List.perm_append_comm
end
def ZkF (T Tn Tb:TypeId) (b9 bl o:Nat) (cs:List Value) (Tc:TypeId) (rest:Cells) (pre:List DItem):Prop:=
∀v xs s,ZdV T Tn v xs s→∃v0 s0,ZdV T Tn v0 (pre ++ xs) s0∧(ZaB bl (cs.set o v) Tc ++ (rest ++ s)).Perm (ZaB b9 [v0] Tb ++ s0)
theorem ZkF.step {T Tn Tb Tc:TypeId} {b9 bl o b8:Nat} {cs row:List Value} {rest ins:Cells} {pre:List DItem} {y:DItem} {np:Value} (h:ZkF T Tn Tb b9 bl o cs Tc rest pre) (hl:row.length=4) (hr:ZbN T row y ins) :
    ZkF T Tn Tb b9 b8 4 (row ++ [np]) Tn (rest ++ (ZaB bl (cs.set o (ptr ⟨b8,0,Option.none⟩)) Tc ++ ins)) (pre ++ [y]):=fun v xs s hs=>by
  obtain ⟨v0,s0,h1,h2⟩:=h (ptr ⟨b8,0,Option.none⟩) (y :: xs) (ZaB b8 (row ++ [v]) Tn ++ (ins ++ s)) ⟨b8,row,v,ins,s,rfl,.refl _,hr,hs⟩
  refine ⟨v0,s0,by simpa using h1,?_⟩
  have e:(row ++ [np]).set 4 v=row ++ [v]:=by rw [← hl];simp
  rw [e]
  refine List.Perm.trans ?_ h2
  exact Zkh fun f g h0 ha hc=>by simp only [ha];omega
structure QTk where
  pre:List DItem
  xs:List DItem
  p:Option Addr
  bl:Nat
  o:Nat
  cs:List Value
  Tc:TypeId
  rest:Cells
  cells:Cells
end Go.BL
namespace Go.BL
open Go.Conc (G)
theorem All2.drop {α:Type} {R:List Value→α→Prop} {rows:List (List Value)} {xs:List α} (h:All2 R rows xs) :∀k,All2 R (rows.drop k) (xs.drop k):=by
  induction h with
  | nil=>intro k;simp;exact .nil
  | cons h1 h2 ih=>
    intro k
    cases k with
    | zero=>exact .cons h1 h2
    | succ k=>exact ih k
end Go.BL
namespace Go.BL
open Go.Conc (G)
end Go.BL
namespace Go.BL
open Go.Conc (G)
section
variable {P:PJ} {n:Nat} {ops:Array Oper} {i:Nat} {K:Z6} {S:Env} {D:List Deferred} {B:Kn} {L:List Cells}
variable {dst:Option Tmp} {ty:TypeId} {pos:String} {after:Array Edge} {g:Option (Nat × Bool)}
end
end Go.BL
namespace Go.BL
open Go.Conc (G)
set_option linter.unusedVariables false
abbrev KV:=List (List UInt8 × Int)
def Zmf (e:MapEntry):Value × Value:=(e.key,e.val)
def kvV (p:List UInt8 × Int):Value × Value:=(str p.1,.int .i64 p.2)
structure MapOk (es:Array MapEntry) (clock:Nat) (kvs:KV):Prop where
  ent:es.toList.map Zmf=kvs.map kvV
  born:(es.toList.map (·.born)).Nodup
  old :∀e,e∈es.toList→e.born<clock
  keys:(kvs.map (·.1)).Nodup
section
variable {P:PJ} {n:Nat} {ops:Array Oper} {i:Nat} {K:Z6} {S:Env} {D:List Deferred} {B:Kn} {L:List Cells}
variable {dst:Option Tmp} {ty:TypeId} {pos:String} {after:Array Edge} {g:Option (Nat × Bool)}
end
end Go.BL
namespace Go.BL
open Go.Conc (G)
section
variable {P:PJ} {n:Nat} {ops:Array Oper} {i:Nat} {K:Z6} {S:Env} {D:List Deferred} {B:Kn} {L:List Cells}
variable {dst:Option Tmp} {ty:TypeId} {pos:String} {after:Array Edge} {g:Option (Nat × Bool)}
end
section
variable {P:PJ} {n:Nat} {ops:Array Oper} {i:Nat} {K:Z6} {S:Env} {D:List Deferred} {B:Kn} {L:List Cells}
variable {dst:Option Tmp} {ty:TypeId} {pos:String} {after:Array Edge} {g:Option (Nat × Bool)}
end
end Go.BL
namespace Go.BL
open Go.Conc (G)
set_option linter.unusedVariables false
def zrow (z:List Value) (c:Nat):List Value:=(List.replicate c z).flatten
theorem ZaQ {z:List Value} {c:Nat} : (zrow z c).length=c*z.length:=by
  induction c with
  | zero=>simp [zrow]
  | succ c ih=>
    simp only [zrow,List.replicate_succ,List.flatten_cons,List.length_append] at ih ⊢
    rw [ih,Nat.succ_mul,Nat.add_comm]
theorem Zgp {z:List Value} :∀{c i:Nat},i<c*z.length→(zrow z c)[i]? = z[i % z.length]?
  | 0,i,h=>by simp at h
  | c+1,i,h=>by
    have e:zrow z (c+1)=z ++ zrow z c:=by simp [zrow,List.replicate_succ]
    rw [e]
    by_cases hi:i<z.length
    · rw [List.getElem?_append_left hi,Nat.mod_eq_of_lt hi]
    · have hz:0<z.length:=by
        rcases Nat.eq_zero_or_pos z.length with h0 | h0
        · rw [h0] at h;simp at h
        · exact h0
      rw [List.getElem?_append_right (by omega),Zgp (by rw [Nat.succ_mul] at h;omega)]
      congr 1
      conv=>rhs;rw [show i=(i - z.length)+z.length from by omega,Nat.add_mod_right]
theorem Zhu {z:List Value} {c:Nat} : (Array.range (c*z.length)).map (fun i=>z.toArray[i % z.toArray.size]!)=(zrow z c).toArray:=by
  apply Array.ext'
  apply List.ext_getElem?
  intro i
  simp only [Array.toList_map,Array.toList_range,List.getElem?_map,List.size_toArray]
  by_cases hi:i<c*z.length
  · have hz:0<z.length:=by
      rcases Nat.eq_zero_or_pos z.length with h0 | h0
      · rw [h0] at hi;simp at hi
      · exact h0
    rw [List.getElem?_range hi,Zgp hi,Option.map_some]
    have hm:i % z.length<z.length:=Nat.mod_lt _ hz
    rw [getElem!_pos z.toArray _ (by simpa using hm)]
    simp [List.getElem?_eq_getElem hm]
  · have h1:(List.range (c*z.length))[i]? = none:=by simp;omega
    have h2:(zrow z c)[i]? = none:=by rw [List.getElem?_eq_none_iff,ZaQ];omega
    rw [h1,h2];rfl
section
variable {P:PJ} {n:Nat} {ops:Array Oper} {i:Nat} {K:Z6} {S:Env} {D:List Deferred} {B:Kn} {L:List Cells}
variable {dst:Option Tmp} {ty:TypeId} {pos:String} {after:Array Edge} {g:Option (Nat × Bool)}
theorem Zfo {P:Program} {B:Kn} {L:Cells} {Q:Addr→Kn→Cells→Prop} {e:TypeId} {cs:Array Value} (h :∀b,Q ⟨b,0,none⟩ B ((b,.cells cs e) :: L)):hb P (newRow e cs) Q B L:=by
  simp only [newRow,Zi,Zm]
  exact ⟨rfl,fun b _ _=>h b⟩
theorem ZfJ {t e:TypeId} {x y:Operand} {m c sz by_:Nat} {z:Value} (zs:List Value) (hg:Zf ops S g=some true) (hd:Zn n dst=true) (he:ZbY P t e sz by_=true) (hz:Zaj P e=some z) (hzs:z.cells=zs.toArray) (hzl:zs.length=sz)
    (hx :∃k,∃q:Int,ev S x=some (.int k q)∧q=m) (hy :∃k,∃q:Int,ev S y=some (.int k q)∧q=c) (hmc:m≤c) (hfit:c*by_≤140737488355328)
    (h :∀b,K (.slice (some ⟨b,0,none⟩) m c) D B (L ++ [ZaB b (zrow zs c) e])):opX P n ops i ⟨dst,.makeSlice t x y,ty,pos,after,g⟩ K S D B L:=
  Zdk hg hd fun ρ hρ F=>by
    unfold ZbY at he
    split at he
    · rename_i e' inf hut hie
      simp only [Bool.and_eq_true,beq_iff_eq] at he
      obtain ⟨⟨⟨⟨rfl,hsz⟩,hby⟩,hpos⟩,hzz⟩:=he
      have hby0:0<by_:=by simpa using hpos
      have hsi:ZL P e'=some sz:=by simp [ZL,hie,hsz]
      obtain ⟨k1,q1,h1,rfl⟩:=hx
      obtain ⟨k2,q2,h2,rfl⟩:=hy
      have hc0:c≤140737488355328:=Nat.le_trans (Nat.le_mul_of_pos_right c hby0) hfit
      have wr :∀q:Nat,q≤140737488355328→IntKind.wrap .i64 (q:Int)=q:=fun q hq=>ZbC (by omega) (by omega)
      have t1:(decide ((c:Int)<0) || decide ((by_:Int)*(c:Int) > 2 ^ 48))=false:=by
        have:(by_:Int)*(c:Int)≤140737488355328:=by
          rw [← Int.natCast_mul]
          have:by_*c≤140737488355328:=by rw [Nat.mul_comm];exact hfit
          omega
        simp only [Bool.or_eq_false_iff,decide_eq_false_iff_not]
        refine ⟨by omega,by omega⟩
      have t2:(decide ((m:Int)<0) || decide ((m:Int) > (c:Int)))=false:=by
        simp only [Bool.or_eq_false_iff,decide_eq_false_iff_not]
        omega
      simp only [execOp,Instr.makeSlice,Zi,Zo hut,asInt,asIntOf,hρ x _ h1,hρ y _ h2,Zm,Za8 hie,hby,wr c hc0,wr m (by omega),t1,t2,Bool.false_or,Bool.or_eq_true,Bool.false_eq_true,if_false]
      rw [if_neg (by
        simp only [Bool.or_eq_false_iff] at t1 t2
        rw [t1.1,t1.2,t2.1,t2.2];simp)]
      simp only [Int.toNat_natCast,Zi]
      refine Zei ?_
      simp only [Z0 hsi,Zi]
      by_cases h0:c*sz=0
      · rw [if_pos h0]
        simp only [Zi,Zm,h0]
        refine Zfo fun b=>?_
        have hzr:zrow zs c=[]:=List.eq_nil_of_length_eq_zero (by rw [ZaQ,hzl];exact h0)
        refine ⟨L ++ [ZaB b (zrow zs c) e'],?_,h b⟩
        rw [hzr]
        have e0:Array.map (fun x=>(#[]:Array Value)[x % (#[]:Array Value).size]!) (Array.range 0)=([]:List Value).toArray:=by simp
        rw [e0]
        exact .of (ZbM L (ZaB b [] e') F)
      · rw [if_neg h0]
        simp only [Zi,ZaT hz,Zm,hzs]
        rw [← hzl,Zhu]
        refine Zfo fun b=>?_
        exact ⟨L ++ [ZaB b (zrow zs c) e'],.of (ZbM L (ZaB b (zrow zs c) e') F),h b⟩
    · cases he
end
theorem Zab.zeros {α:Type} {B:Kn} {b:Nat} {T:TypeId} {R:Rel α} {zs:List Value} {d:α} {m c w:Nat} (hw:zs.length=w) (hR:R B zs d) (hmc:m≤c):Zab B (ZaB b (zrow zs c) T) (some ⟨b,0,none⟩) c T w R (List.replicate m d):=by
  refine ⟨List.replicate m zs,?_,fun r hr=>by rw [(List.mem_replicate.1 hr).2];exact hw,?_,.inr ⟨b,_,rfl,by rw [ZaQ,hw],?_,rfl,by rw [List.length_replicate];exact hmc⟩⟩
  · induction m with
    | zero=>exact .nil
    | succ m ih=>rw [List.replicate_succ,List.replicate_succ];exact .cons hR (ih (by omega))
  · rw [List.length_replicate]
    exact (ZaQ (z:=zs) (c:=m)).trans (by rw [hw])
  · rw [List.length_replicate]
    have e:zrow zs c=zrow zs m ++ zrow zs (c - m):=by
      simp only [zrow,← List.flatten_append,List.replicate_append_replicate]
      rw [show m+(c - m)=c from by omega]
    rw [e,List.take_append_of_le_length (by rw [ZaQ,hw];exact Nat.le_refl _),List.take_of_length_le (by rw [ZaQ,hw];exact Nat.le_refl _)]
    rfl
section
variable {P:PJ} {C:Cx P} {n:Nat} {k:List Item} {T:Array Value} {S:Env} {D:List Deferred} {B:Kn} {L:List Cells}
end
section
variable {P:PJ} {C:Cx P} {n:Nat} {k:List Item} {T:Array Value} {S:Env} {D:List Deferred} {B:Kn} {L:List Cells}
end
end Go.BL
namespace Go.BL
set_option linter.unusedVariables false
structure SlB {α:Type} (B:Kn) (q:Option Addr) (cp w:Nat) (R:Rel α) (xs:List α):Prop where
  rows:Zba B q w R xs
  cap:xs.length≤cp
  len:xs.length≤140737488355328
theorem SlB.mono {α:Type} {B B':Kn} {q:Option Addr} {cp w:Nat} {R:Rel α} {xs:List α} (h:SlB B q cp w R xs) (hR:Mono R) (hle:B.le B'):SlB B' q cp w R xs:=⟨h.rows.mono hR hle,h.cap,h.len⟩
theorem SlB.base {α:Type} {B:Kn} {q:Option Addr} {cp w:Nat} {R:Rel α} {xs:List α} (h:SlB B q cp w R xs) {i:Nat} {z:α} (hz:xs[i]? = some z) :∃b o,q=some ⟨b,o,none⟩:=h.rows.base hz
theorem SlB.elem {α:Type} {B:Kn} {b o cp w:Nat} {R:Rel α} {xs:List α} (h:SlB B (some ⟨b,o,none⟩) cp w R xs) {i:Nat} {z:α} (hz:xs[i]? = some z) :∃row,R B row z∧Zb2 B b (o+i*w) row:=h.rows.elem hz
theorem SlB.small {α:Type} {B:Kn} {q:Option Addr} {cp w:Nat} {R R':Rel α} {xs:List α} (h:SlB B q cp w R xs) (hl:xs.length≤2000000) (hR :∀x,x∈xs→∀row,R B row x→R' B row x):SlK B q cp w R' xs:=
  ⟨fun i x hi=>by obtain ⟨b,o,row,h1,h2,h3⟩:=h.rows i x hi;exact ⟨b,o,row,h1,hR x (List.mem_of_getElem? hi) row h2,h3⟩,h.cap,hl⟩
def ZjX:Rel Str:=fun _ row x=>row=[str x]∧x.length≤140737488355328
theorem ZjX.mono:Mono ZjX:=fun _ _ _ h=>h
def Zgo:Rel DUser:=fun _ row x=>row=[str x.name,str x.pass,.int .i64 x.quota]∧x.name.length≤140737488355328∧x.pass.length≤140737488355328
theorem Zgo.mono:Mono Zgo:=fun _ _ _ h=>h
def ZgW:Rel DGrant:=fun _ row x=>row=[str x.user,.int .i64 x.rights]∧x.user.length≤140737488355328
theorem ZgW.mono:Mono ZgW:=fun _ _ _ h=>h
def Zjt:Rel DMail:=fun _ row x=>row=[.int .i64 x.uid,.int .i64 x.flags,str x.text]∧x.text.length≤140737488355328
theorem Zjt.mono:Mono Zjt:=fun _ _ _ h=>h
def Zli:Rel DItem:=fun B row x=>∃q cp,row=[.int .i64 x.id,str x.fr,str x.text,.slice q x.left.length cp]∧SlB B q cp 1 ZjX x.left∧x.fr.length≤140737488355328∧x.text.length≤140737488355328
theorem Zli.mono:Mono Zli:=by rintro B B' hle row x ⟨q,cp,h1,h2,h3,h4⟩;exact ⟨q,cp,h1,h2.mono ZjX.mono hle,h3,h4⟩
def ZiC:Rel DFolder:=fun B row x=>∃q cp q' cp',row=[str x.owner,str x.name,.slice q x.grants.length cp,.int .i64 x.next,.slice q' x.mail.length cp']∧SlB B q cp 2 ZgW x.grants∧SlB B q' cp' 3 Zjt x.mail∧x.owner.length≤140737488355328∧x.name.length≤140737488355328
theorem ZiC.mono:Mono ZiC:=by rintro B B' hle row x ⟨q,cp,q',cp',h1,h2,h3,h4⟩;exact ⟨q,cp,q',cp',h1,h2.mono ZgW.mono hle,h3.mono Zjt.mono hle,h4⟩
def szL {α:Type} (f:α→Nat) (xs:List α):Nat:=xs.length+(xs.map f).sum
def Zbx (u:DUser):Nat:=u.name.length+u.pass.length
def szI (left:Int) (s:Nat):Int:=if left<s then -1 else left - s
theorem ZhI {left:Int} {s:Nat} (h:left<s):szI left s = -1:=if_pos h
theorem ZkW {left:Int} {s:Nat} (h:s≤left):szI left s=left - s:=if_neg (by omega)
theorem Zka {left:Int} {s:Nat} (h:0≤left):szI left s<0↔left<s:=by unfold szI;split <;> omega
theorem ZhH {left:Int} {s:Nat} (h0:0≤left) (h:0≤szI left s):szI left s=left - s∧s≤left:=by unfold szI at *;split at h <;> split <;> omega
theorem Zgu {α:Type} (f:α→Nat) {xs:List α} {k:Nat} {x:α} (hx:xs[k]? = some x):((xs.take (k+1)).map f).sum=((xs.take k).map f).sum+f x:=by
  have:xs.take (k+1)=xs.take k ++ [x]:=by rw [List.take_add_one,hx];rfl
  simp [this]
theorem ZfM {α:Type} (f:α→Nat) (xs:List α) (k:Nat):((xs.take k).map f).sum≤(xs.map f).sum:=by
  conv=>rhs;rw [← List.take_append_drop k xs]
  rw [List.map_append,List.sum_append];omega
theorem Zj9 {α:Type} {f:α→Nat} {xs:List α} {left:Int} (h:left<xs.length):szI left (szL f xs) = -1:=ZhI (by unfold szL;omega)
theorem Zj7 {α:Type} {f:α→Nat} {xs:List α} {k:Nat} {x:α} {left l:Int} (hx:xs[k]? = some x) (hl:l=left - xs.length - ((xs.take k).map f).sum) (h:l<f x):szI left (szL f xs) = -1:=by
  have h1:=Zgu f hx
  have h2:=ZfM f xs (k+1)
  exact ZhI (by unfold szL;omega)
theorem Zj8 {α:Type} {f:α→Nat} {xs:List α} {k:Nat} {left l:Int} (hl:l=left - xs.length - ((xs.take k).map f).sum) (h0:0≤l) (hk:xs.length≤k):szI left (szL f xs)=l:=by
  rw [List.take_of_length_le hk] at hl
  rw [ZkW (by unfold szL;omega)]
  unfold szL;omega
theorem Zdb {α:Type} {f:α→Nat} {xs:List α} {n:Nat} (h:szL f xs≤n):xs.length≤n∧∀x,x∈xs→f x≤n:=by
  unfold szL at h
  refine ⟨by omega,fun x hx=>?_⟩
  have:f x≤(xs.map f).sum:=by
    clear h
    induction xs with
    | nil=>cases hx
    | cons y ys ih=>
      simp only [List.map_cons,List.sum_cons]
      rcases List.mem_cons.1 hx with rfl | hx
      · omega
      · have:=ih hx;omega
  omega
theorem ZfK {B:Kn} {q:Option Addr} {cp:Nat} {xs:List DUser} (h:SlB B q cp 3 Zgo xs) (hs:szL Zbx xs≤1048576):SlK B q cp 3 Zv xs:=
  h.small (by have:=(Zdb hs).1;omega) fun x hx row hr=>by
    have:=(Zdb hs).2 x hx
    unfold Zbx at this
    exact ⟨hr.1,by omega,by omega⟩
end Go.BL
namespace Go.BL
open Go.Conc (G)
set_option linter.unusedVariables false
def Zax (Tg Tm:TypeId):ZdO DFolder:=fun row x ins=>∃q c q' c' i1 i2,row=[str x.owner,str x.name,.slice q x.grants.length c,.int .i64 x.next,.slice q' x.mail.length c']∧ins=i1 ++ i2∧Zab Kn.none i1 q c Tg 2 Z1 x.grants∧Zab Kn.none i2 q' c' Tm 3 Zar x.mail∧
  x.owner.length≤2000000∧x.name.length≤2000000∧x.grants.length≤2000000∧x.mail.length≤2000000
theorem Zax.known {Tg Tm:TypeId} {B:Kn} {row:List Value} {x:DFolder} {ins:Cells} (h:Zax Tg Tm row x ins) (hm :∀q,q∈ins→B.mem q.1=some q.2):ZD B row x:=by
  obtain ⟨q,c,q',c',i1,i2,h1,rfl,h2,h3,h4,h5,h6,h7⟩:=h
  exact ⟨q,c,q',c',h1,⟨h2.rowsF Z1.any fun p hp=>hm p (List.mem_append.2 (.inl hp)),h2.cap,h6⟩,⟨h3.rowsF Zar.any fun p hp=>hm p (List.mem_append.2 (.inr hp)),h3.cap,h7⟩,h4,h5⟩
theorem All3.set {α:Type} {R:ZdO α} {rows:List (List Value)} {xs:List α} {s:Cells} (h:All3 R rows xs s) {row:List Value} {z:α} {ins:Cells} (hz:R row z ins) :∀k,k<xs.length→∃s' gl,All3 R (rows.set k row) (xs.set k z) s'∧(s ++ ins).Perm (s' ++ gl):=by
  induction h with
  | nil=>intro k hk;simp at hk
  | @cons row0 x ins0 rest rows xs h1 h2 ih=>
    intro k hk
    cases k with
    | zero=>
      refine ⟨ins ++ rest,ins0,.cons hz h2,?_⟩
      exact Zkh fun f g h0 ha hc=>by simp only [ha];omega
    | succ k=>
      obtain ⟨s',gl,h3,h4⟩:=ih k (by simpa using hk)
      refine ⟨ins0 ++ s',gl,.cons h1 h3,?_⟩
      rw [List.append_assoc,List.append_assoc]
      exact List.Perm.append_left _ h4
theorem All3.zeros {α:Type} {R:ZdO α} {row:List Value} {d:α} (h:R row d []) :∀m,All3 R (List.replicate m row) (List.replicate m d) []
  | 0=>.nil
  | m+1=>by rw [List.replicate_succ,List.replicate_succ];exact All3.cons (ins:=[]) h (All3.zeros h m)
theorem Za9.zeros {α:Type} {b:Nat} {T:TypeId} {R:ZdO α} {zs:List Value} {d:α} {m c w:Nat} (hw:zs.length=w) (hR:R zs d []) (hmc:m≤c):Za9 (ZaB b (zrow zs c) T) (some ⟨b,0,Option.none⟩) c T w R (List.replicate m d):=by
  refine ⟨List.replicate m zs,_,[],All3.zeros hR m,fun r hr=>by rw [(List.mem_replicate.1 hr).2];exact hw,by rw [List.append_nil],?_,.inr ⟨b,_,rfl,by rw [ZaQ,hw],?_,rfl,by rw [List.length_replicate];exact hmc⟩⟩
  · rw [List.length_replicate]
    exact (ZaQ (z:=zs) (c:=m)).trans (by rw [hw])
  · rw [List.length_replicate]
    have e:zrow zs c=zrow zs m ++ zrow zs (c - m):=by
      simp only [zrow,← List.flatten_append,List.replicate_append_replicate]
      rw [show m+(c - m)=c from by omega]
    rw [e,List.take_append_of_le_length (by rw [ZaQ,hw];exact Nat.le_refl _),List.take_of_length_le (by rw [ZaQ,hw];exact Nat.le_refl _)]
    rfl
theorem Za9.ptr {α:Type} {l:Cells} {p:Option Addr} {c:Nat} {T:TypeId} {w:Nat} {R:ZdO α} {xs:List α} (h:Za9 l p c T w R xs) (hx:0<xs.length) :∃b,p=some ⟨b,0,Option.none⟩:=by
  obtain ⟨rows,blk,ins,_,_,_,_,⟨_,h0,_,_⟩ | ⟨b,arr,rfl,_⟩⟩:=h
  · omega
  · exact ⟨b,rfl⟩
theorem Zd4 :∀{l vs:List Value},l.length=vs.length→ZV l 0 vs=vs
  | l,[],h=>by rw [Zao];exact List.eq_nil_of_length_eq_zero h
  | [],v :: vs,h=>by simp at h
  | x :: l,v :: vs,h=>by
    have:=Zd4 (l:=l) (vs:=vs) (by simpa using h)
    simp [ZV,this]
section
variable {P:PJ} {n:Nat} {ops:Array Oper} {i:Nat} {K:Z6} {S:Env} {D:List Deferred} {B:Kn} {L:List Cells} {Q:Exit→ZR}
variable {dst:Option Tmp} {ty:TypeId} {pos:String} {after:Array Edge} {g:Option (Nat × Bool)}
theorem Zkk {o:Oper} {L':List Cells} {K':Z6} (hp:L.flatten.Perm L'.flatten) (h:opX P n ops i o K' S D B L') (hk :∀v D' B' L₁,B.le B'→K' v D' B' L₁→∃L₂ gl,L₁.flatten.Perm (L₂.flatten ++ gl)∧K v D' B' L₂):opX P n ops i o K S D B L:=⟨h.1,fun C todo k T ho hn hT hA=>
  C.X.perm (hp.append_right _) (h.2 C todo k T ho hn hT fun v D' B' L₁ hle hK=>by
    obtain ⟨L₂,gl,hp2,hK2⟩:=hk v D' B' L₁ hle hK
    refine C.X.drop (r:=L₂.flatten ++ C.F) (gl:=gl) ((hp2.append_right _).trans ?_) (hA v D' B' L₂ hle hK2)
    rw [List.append_assoc,List.append_assoc]
    exact List.Perm.append_left _ List.perm_append_comm)⟩
end
section
variable {P:PJ} {n:Nat} {ops:Array Oper} {i:Nat} {K:Z6} {S:Env} {D:List Deferred} {B BV:Kn} {L:List Cells}
variable {dst:Option Tmp} {ty:TypeId} {pos:String} {after:Array Edge} {g:Option (Nat × Bool)}
theorem Zlr {α:Type} {R:Rel α} {xs:List α} (z:α) {t T:TypeId} {x y:Operand} {v:Value} {row:List Value} {l:Cells} {p:Option Addr} {c sz k b:Nat} (j:Nat) (hj:L[j]? = some l) (hv:Zab BV l p c T sz R xs) (hp:p=some ⟨b,0,none⟩) (hk:k<xs.length) (hg:Zf ops S g=some true) (hd:Zn n dst=true) (hsz:ZL P t=some sz)
    (hx:ev S x=some (ptr ⟨b,k*sz,none⟩)) (hy:ev S y=some v) (hvc:v.cells=row.toArray) (ho:row.all Zc0=true) (hrl:row.length=sz) (hr:R BV row z)
    (h :∀l',Zab BV l' p c T sz R (xs.set k z)→K undef D B (L.set j l')):opX P n ops i ⟨dst,.store t x y,ty,pos,after,g⟩ K S D B L:=by
  obtain ⟨rows,h1,h2,h3,⟨rfl,_,_,_⟩ | ⟨b',arr,rfl,ha,ht,rfl,hmc⟩⟩:=hv
  · cases hp
  · cases hp
    have hlen:k<rows.length:=by rw [h1.len];exact hk
    have hr1:rows[k]? = some rows[k]:=List.getElem?_eq_getElem hlen
    have hrow0:rows[k].length=sz:=h2 _ (List.getElem_mem hlen)
    have hb1:k*sz+row.length≤xs.length*sz:=by
      have:(k+1)*sz≤xs.length*sz:=Nat.mul_le_mul_right sz hk
      rw [Nat.succ_mul] at this;omega
    have hb2:xs.length*sz≤arr.length:=by rw [ha];exact Nat.mul_le_mul_right sz hmc
    refine Zb5 row j (ZV arr (k*sz) row) hg hd (by rw [hrl];exact hsz) hx hy hvc ho (r:=[]) hj rfl (by rw [Nat.ble_eq];show k*sz+row.length≤arr.length;omega) rfl (h _ ?_)
    have e:=ZbR (us:=row) (off:=0) h2 hr1 (by omega)
    rw [Zd4 (by rw [hrow0,hrl]),Nat.add_zero] at e
    refine ⟨rows.set k row,h1.set hr k,fun r hr'=>?_,?_,.inr ⟨b,_,rfl,by rw [ZI];exact ha,?_,rfl,by rw [List.length_set];exact hmc⟩⟩
    · rcases List.mem_or_eq_of_mem_set hr' with hr' | rfl
      · exact h2 r hr'
      · exact hrl
    · rw [← e,ZI,List.length_set];exact h3
    · rw [List.length_set,Zca _ _ _ _ hb1 hb2,ht,e]
end
theorem Zab.ptr {α:Type} {B:Kn} {l:Cells} {p:Option Addr} {c:Nat} {T:TypeId} {w:Nat} {R:Rel α} {xs:List α} (h:Zab B l p c T w R xs) (hx:0<xs.length) :∃b,p=some ⟨b,0,none⟩:=by
  obtain ⟨rows,_,_,_,⟨_,h0,_,_⟩ | ⟨b,arr,rfl,_⟩⟩:=h
  · omega
  · exact ⟨b,rfl⟩
def fill {α:Type} (xs:List α) (d:α) (k:Nat):List α:=xs.take k ++ List.replicate (xs.length - k) d
theorem Zjb {α:Type} {xs:List α} {d:α} {k:Nat} (h:k≤xs.length):(fill xs d k).length=xs.length:=by
  rw [fill,List.length_append,List.length_take,List.length_replicate];omega
theorem Zio {α:Type} {xs:List α} {d:α} : fill xs d 0=List.replicate xs.length d:=by simp [fill]
theorem Zjc {α:Type} {xs:List α} {d:α} {k:Nat} (h:xs.length≤k):fill xs d k=xs:=by
  rw [fill,List.take_of_length_le h,show xs.length - k=0 from by omega];simp
theorem Zip {α:Type} {xs:List α} {d z:α} {k:Nat} (hz:xs[k]? = some z):(fill xs d k).set k z=fill xs d (k+1):=by
  have hk:=(List.getElem?_eq_some_iff.1 hz).1
  have e1:(xs.take k).length=k:=by rw [List.length_take];omega
  rw [fill,fill,List.set_append_right _ _ (by omega),e1,Nat.sub_self,List.take_add_one,hz,show xs.length - k=(xs.length - (k+1))+1 from by omega,List.replicate_succ]
  simp
theorem ZT.borrowL {P:PJ} {f:FuncId} {args:List Value} {B:Kn} {ls Ls:List Cells} {Post:Value→Kn→List Cells→Prop}
    (h:(∀p,p∈ls.flatten→(B.add ls.flatten).mem p.1=some p.2)→ZT P f args (B.add ls.flatten) Ls Post) :
    ZT P f args B (ls ++ Ls) (fun v B' Ls'=>∃B₂ Ls₂,Ls'=ls ++ Ls₂∧B'=B₂.minus ls.flatten∧(B.add ls.flatten).le B₂∧(∀p,p∈ls.flatten→(B.add ls.flatten).mem p.1=some p.2)∧(B.add ls.flatten).minus ls.flatten=B∧Post v B₂ Ls₂):=fun X kind c cs F hk hA=>by
  have key:=ZT.borrow (l:=ls.flatten) (Ls:=Ls) h X kind c cs F hk fun v B' Ls' hle ⟨B₂,Ls₂,h1,h2,h3,h4,h5,h6⟩=>by
    have:=hA v B' (ls ++ Ls₂) hle ⟨B₂,Ls₂,rfl,h2,h3,h4,h5,h6⟩
    subst h1
    rw [List.flatten_cons]
    rwa [List.flatten_append] at this
  rw [List.flatten_cons] at key
  rwa [List.flatten_append]
section
variable {P:PJ} {C:Cx P} {k:List Item} {n:Nat} {ops:Array Oper} {i:Nat} {S:Env} {D:List Deferred} {B BV:Kn} {L:List Cells} {Q:Exit→ZR}
variable {α:Type} {xs:List α} {l:Cells} {p:Option Addr} {cp:Nat} {T:TypeId} {w:Nat}
theorem Zma {R:Rel α} {B':Kn} (hv:Zab BV l p cp T w R xs) (hA:ZiD R) (hl:xs.length≤2000000) (hm :∀q,q∈l→B'.mem q.1=some q.2):SlK B' p cp w R xs:=⟨hv.rowsF hA hm,hv.cap,hl⟩
theorem ZjN {R:Rel α} {o:Oper} {K:ZR} (j:Nat) (hj:L[j]? = some l) (hv:Zab BV l p cp T w R xs) (hA:ZiD R) (hl:xs.length≤2000000) (h :∀B',B.le B'→SlK B' p cp w R xs→opW P n ops i o K S D B' (L.set j [])):opW P n ops i o K S D B L:=fun C todo k T ho hn hT hA'=>by
  obtain ⟨r,h1,h2⟩:=Zae C.F [] hj
  exact C.X.publish rfl h1 fun B' hle hm=>C.X.perm (by simpa using h2.symm) (h B' hle (Zma hv hA hl hm) C todo k T ho hn hT fun S' D' B'' L' T' hle' hq=>hA' S' D' B'' L' T' (hle.trans hle') hq)
end
end Go.BL
namespace Go.BL
open Go.ChangeShapes Go.WideShapes Go.ChangeAt Go.RowKit
set_option linter.unusedVariables false
theorem Zfj {α β:Type} {f:α→Option β} :∀{xs:List α} {ys:List β},xs.mapM f=some ys→ys.length=xs.length∧∀(i:Nat) (x:α),xs[i]? = some x→f x=ys[i]?
  | [],ys,h=>by
    simp only [List.mapM_nil,Option.pure_def,Option.some.injEq] at h
    subst h;simp
  | x :: xs,ys,h=>by
    simp only [List.mapM_cons,Option.bind_eq_bind,Option.pure_def,Option.bind_eq_some_iff,Option.some.injEq] at h
    obtain ⟨y,hy,zs,hz,rfl⟩:=h
    obtain ⟨h1,h2⟩:=Zfj hz
    refine ⟨by simp [h1],fun i z hi=>?_⟩
    cases i with
    | zero=>simp only [List.getElem?_cons_zero,Option.some.injEq] at hi;subst hi;simpa using hy
    | succ i=>simpa using h2 i z (by simpa using hi)
theorem Ziy {w:World} {a:Addr} {n:Nat} {cs:List Value} (h:w.cells? 0 a n=some cs):cs.length=n∧∀i,i<n→w.cell? (a.add i)=cs[i]?:=by
  unfold World.cells? at h
  rw [if_pos (Nat.zero_le _)] at h
  obtain ⟨h1,h2⟩:=Zfj h
  exact ⟨by simpa using h1,fun i hi=>h2 i i (by simp [hi])⟩
section
variable {H:Type} (enc:TypeId × Value→H) (P:Program) (W:World)
def Zb4 (t:TypeId) (p:List Value→Prop):Prop:=∀(fuel:Nat) (cs:List Value) (d:DataW H) (ps:List MemPlace),DataW.trod enc P W 0 (fun _=>true) true fuel t cs=some (d,ps)→(∀m,m∈d.weights P t→m≤reachBytes)→p cs
def ZcX {α:Type} (t:TypeId) (R:Rel α):Prop:=Zb4 enc P W t fun cs=>∃x,R (Zc1 W) cs x
def ZjY {α:Type} (w:Nat) (R:Rel α):Rel (List α):=fun B row xs=>∃q cp,row=[.slice q xs.length cp]∧SlB B q cp w R xs
def Parts:List (List Value→Prop)→List Value→Prop
  | [],cs=>cs=[]
  | p :: ps,cs=>∃a b,cs=a ++ b∧p a∧Parts ps b
def ZbU (P:Program):List Field→Nat→Nat→Bool
  | [],off,n=>off == n
  | f :: fs,off,n=>f.offset == off && ZbU P fs (off+P.cellsOf f.type) n
end
section
variable {H:Type} {enc:TypeId × Value→H} {P:Program} {W:World}
theorem Zb4.mono {t:TypeId} {p p':List Value→Prop} (h:Zb4 enc P W t p) (hp :∀cs,p cs→p' cs):Zb4 enc P W t p':=fun fuel cs d ps ht hw=>hp cs (h fuel cs d ps ht hw)
theorem ZhY {t:TypeId} (ht:P.underlying t=some (.int .i64)):ZcX enc P W t Zjv:=fun fuel cs d ps h _=>by
  cases fuel with
  | zero=>simp [DataW.trod] at h
  | succ n=>
    unfold DataW.trod at h
    rw [ht] at h
    split at h <;> simp_all
    rename_i he
    subst he
    exact ⟨_,rfl⟩
theorem ZhX {t:TypeId} (ht:P.underlying t=some .string):ZcX enc P W t ZjX:=fun fuel cs d ps h hw=>by
  cases fuel with
  | zero=>simp [DataW.trod] at h
  | succ n=>
    unfold DataW.trod at h
    rw [ht] at h
    split at h <;> simp_all
    rename_i s
    obtain ⟨_,rfl,_⟩:=h
    have h1:=hw s.data.toList.length (by simp [DataW.weights])
    refine ⟨s.data.toList,rfl,?_⟩
    unfold reachBytes at h1
    omega
theorem ZiV {fs:List Field} {ps:List (List Value→Prop)} {n off:Nat} (hf:ZbU P fs off n=true) {cs:List Value} (hl:cs.length=n) (hlen:fs.length=ps.length)
    (h :∀(i:Nat) (f:Field) (p:List Value→Prop),fs[i]? = some f→ps[i]? = some p→p ((cs.drop f.offset).take (P.cellsOf f.type))):Parts ps (cs.drop off):=by
  induction fs generalizing ps off with
  | nil=>
    simp only [ZbU,beq_iff_eq] at hf
    cases ps with
    | nil=>show cs.drop off=[];rw [List.drop_eq_nil_iff];omega
    | cons p ps=>simp at hlen
  | cons f fs ih=>
    simp only [ZbU,Bool.and_eq_true,beq_iff_eq] at hf
    cases ps with
    | nil=>simp at hlen
    | cons p ps=>
      refine ⟨(cs.drop off).take (P.cellsOf f.type),(cs.drop off).drop (P.cellsOf f.type),(List.take_append_drop _ _).symm,?_,?_⟩
      · have:=h 0 f p rfl rfl
        rwa [hf.1] at this
      · rw [List.drop_drop]
        exact ih hf.2 (by simpa using hlen) fun i f' p' h1 h2=>h (i+1) f' p' (by simpa using h1) (by simpa using h2)
theorem Za1 :∀{ts:List TypeId} {ds:List (DataW H)} {i:Nat} {t:TypeId} {d:DataW H},ts[i]? = some t→ds[i]? = some d→∀m,m∈d.weights P t→m∈DataW.weightsEach P ts ds
  | t :: ts,d :: ds,0,t',d',h1,h2,m,hm=>by
    simp only [List.getElem?_cons_zero,Option.some.injEq] at h1 h2
    subst h1;subst h2
    simp only [DataW.weightsEach,List.mem_append];exact .inl hm
  | t :: ts,d :: ds,i+1,t',d',h1,h2,m,hm=>by
    simp only [DataW.weightsEach,List.mem_append];exact .inr (Za1 (by simpa using h1) (by simpa using h2) m hm)
  | [],_,_,_,_,h1,_,_,_=>by simp at h1
  | _ :: _,[],_,_,_,_,h2,_,_=>by simp at h2
theorem ZbX {e:TypeId} :∀{ds:List (DataW H)} {i:Nat} {d:DataW H},ds[i]? = some d→∀m,m∈d.weights P e→m∈DataW.weightsAll P e ds
  | d :: ds,0,d',h2,m,hm=>by
    simp only [List.getElem?_cons_zero,Option.some.injEq] at h2
    subst h2
    simp only [DataW.weightsAll,List.mem_append];exact .inl hm
  | d :: ds,i+1,d',h2,m,hm=>by
    simp only [DataW.weightsAll,List.mem_append];exact .inr (ZbX (by simpa using h2) m hm)
  | [],_,_,h2,_,_=>by simp at h2
theorem Ze9 {t:TypeId} {fs:Array Field} (ht:P.underlying t=some (.struct fs)) (ps:List (List Value→Prop)) (hf:ZbU P fs.toList 0 (P.cellsOf t)=true) (hlen:fs.toList.length=ps.length)
    (h :∀(i:Nat) (f:Field) (p:List Value→Prop),fs.toList[i]? = some f→ps[i]? = some p→Zb4 enc P W f.type p):Zb4 enc P W t (Parts ps):=fun fuel cs d pl htr hw=>by
  obtain ⟨xs,n,rfl,hx,hl,hxl,hel⟩:=DataW.trod_struct ht htr
  simp only [Prod.mk.injEq] at hx
  obtain ⟨rfl,_⟩:=hx
  have:=ZiV (ps:=ps) hf hl hlen fun i f p h1 h2=>by
    have h3:=hel i f (by simpa using h1)
    have hi:i<xs.length:=by
      have:=(List.getElem?_eq_some_iff.1 h1).1
      simp only [Array.length_toList] at this
      omega
    rw [List.getElem?_eq_getElem hi] at h3
    rcases hxi:xs[i] with ⟨d,pl'⟩
    refine h i f p h1 h2 n _ d pl' (by rw [h3,hxi]) fun m hm=>hw m ?_
    simp only [DataW.weights,ht]
    exact Za1 (i:=i) (t:=f.type) (d:=d) (by simp [h1]) (by simp [List.getElem?_eq_getElem hi,hxi]) m hm
  simpa using this
theorem ZfR {α:Type} {t e:TypeId} {w:Nat} {R:Rel α} (ht:P.underlying t=some (.slice e)) (hc:P.cellsOf e=w) (hb:0<P.bytesOf e) (hw0:0<w) (h:ZcX enc P W e R):ZcX enc P W t (ZjY w R):=fun fuel cs d pl htr hw=>by
  rcases DataW.trod_slice ht htr with ⟨rfl,_⟩ | ⟨a,len,cap,elems,rest,n,rfl,rfl,hx,_,hl,hm,hlen,hel,_,_⟩
  · exact ⟨[],none,0,rfl,⟨fun i x hi=>by simp at hi,Nat.le_refl _,Nat.zero_le _⟩⟩
  · simp only [Prod.mk.injEq] at hx
    obtain ⟨rfl,_⟩:=hx
    have hlen2:len≤140737488355328:=by
      have:=hw ((elems.length+rest.length)*P.bytesOf e) (by simp [DataW.weights,ht])
      have h2:elems.length+rest.length≤(elems.length+rest.length)*P.bytesOf e:=Nat.le_mul_of_pos_right _ hb
      unfold reachBytes at this
      omega
    have each :∀i,i<len→∃x row,R (Zc1 W) row x∧row.length=w∧∀j,j<w→W.cell? ((a.add (i*w)).add j)=row[j]?:=fun i hi=>by
      have h1:=hel i hi
      have hi':i<elems.length:=by omega
      rw [List.getElem?_eq_getElem hi'] at h1
      obtain ⟨row,hr1,hr2⟩:=Option.bind_eq_some_iff.1 h1
      rw [hc] at hr1
      obtain ⟨hr3,hr4⟩:=Ziy hr1
      rcases hxi:elems[i] with ⟨d,pl'⟩
      obtain ⟨x,hx⟩:=h n row d pl' (by rw [hr2,hxi]) fun m hm=>hw m (by
        simp only [DataW.weights,ht,List.mem_cons,List.mem_append]
        exact .inr (.inl (ZbX (i:=i) (d:=d) (by simp [List.getElem?_eq_getElem hi',hxi]) m hm)))
      exact ⟨x,row,hx,hr3,hr4⟩
    have hsp:0<len→a.spot=none:=fun h0=>by
      obtain ⟨x,row,_,hr,hj⟩:=each 0 h0
      have h1:=hj 0 hw0
      rw [List.getElem?_eq_getElem (by omega)] at h1
      have:=(Zfz h1).1
      simpa [Addr.add] using this
    refine ⟨(List.range len).attach.map fun i=>(each i.1 (List.mem_range.1 i.2)).choose,some a,cap,by simp,⟨fun i x hi=>?_,by simpa using hl,by simpa using hlen2⟩⟩
    have hi':i<len:=by
      have:=(List.getElem?_eq_some_iff.1 hi).1
      simpa using this
    have hxx:x=(each i hi').choose:=by
      simp [hi'] at hi
      exact hi.symm
    obtain ⟨row,hr1,hr2,hr3⟩:=(each i hi').choose_spec
    have hs:=hsp (by omega)
    refine ⟨a.block,a.off,row,?_,by rw [hxx];exact hr1,fun j u hj=>?_⟩
    · obtain ⟨b,o,s⟩:=a;simp only at hs;subst hs;rfl
    · have hjw:j<w:=by rw [← hr2];exact (List.getElem?_eq_some_iff.1 hj).1
      have h4:=hr3 j hjw
      rw [hj] at h4
      have:=Zfz h4
      have ea:(a.add (i*w)).add j=⟨a.block,a.off+i*w+j,none⟩:=by
        rw [Addr.add_off _ _ (by rw [Addr.add_off _ _ hs]),Addr.add_off _ _ hs]
      rwa [ea] at this
def Zjs (enc:TypeId × Value→H) (P:Program) (W:World):List Field→List (List Value→Prop)→Prop
  | [],[]=>True
  | f :: fs,p :: ps=>Zb4 enc P W f.type p∧Zjs enc P W fs ps
  | _,_=>False
theorem Zfa :∀{fs:List Field} {ps:List (List Value→Prop)},Zjs enc P W fs ps→fs.length=ps.length
  | [],[],_=>rfl
  | _ :: _,_ :: _,h=>by simp only [List.length_cons,Zfa h.2]
  | [],_ :: _,h=>h.elim
  | _ :: _,[],h=>h.elim
theorem Zfb :∀{fs:List Field} {ps:List (List Value→Prop)},Zjs enc P W fs ps→∀(i:Nat) (f:Field) (p:List Value→Prop),fs[i]? = some f→ps[i]? = some p→Zb4 enc P W f.type p
  | _ :: _,_ :: _,h,0,f,p,h1,h2=>by
    simp only [List.getElem?_cons_zero,Option.some.injEq] at h1 h2
    subst h1;subst h2;exact h.1
  | _ :: _,_ :: _,h,i+1,f,p,h1,h2=>Zfb h.2 i f p (by simpa using h1) (by simpa using h2)
  | [],_,_,i,f,p,h1,h2=>by simp at h1
  | _ :: _,[],h,_,_,_,_,_=>h.elim
theorem ZhZ {t:TypeId} {fs:Array Field} (ht:P.underlying t=some (.struct fs)) (ps:List (List Value→Prop)) (hf:ZbU P fs.toList 0 (P.cellsOf t)=true) (h:Zjs enc P W fs.toList ps):Zb4 enc P W t (Parts ps):=
  Ze9 ht ps hf (Zfa h) (Zfb h)
theorem ZgC {t:TypeId} {v:Value} {d:DataW H} {ps:List MemPlace} {p:List Value→Prop} (h:DataW.Trod enc P W 0 (fun _=>true) true t v d ps) (ho:Zb4 enc P W t p) (hw :∀m,m∈d.weights P t→m≤reachBytes):p v.cells.toList:=by
  obtain ⟨n,hn⟩:=h;exact ho n _ _ _ hn hw
theorem weigh {ts:List TypeId} {ds:List (DataW H)} (h:(DataW.weightsEach P ts ds).all (·≤reachBytes)=true) {i:Nat} {t:TypeId} {d:DataW H} (h1:ts[i]? = some t) (h2:ds[i]? = some d) :∀m,m∈d.weights P t→m≤reachBytes:=fun m hm=>by
  have:=List.all_eq_true.1 h m (Za1 h1 h2 m hm)
  simpa using this
end
end Go.BL
namespace Go.BL
section
variable {P:PJ} {n:Nat} {ops:Array Oper} {i:Nat} {K:Z6} {S:Env} {D:List Deferred} {B:Kn} {L:List Cells}
variable {dst:Option Tmp} {ty:TypeId} {pos:String} {after:Array Edge} {g:Option (Nat × Bool)}
theorem Zhi {P:Program} {B:Kn} {L:Cells} {q:Addr} {cp:Nat} {b:Int} (hs:Zbb B L (some q) [.int .u8 b]) {Q:Value→Kn→Cells→Prop} (h:Q (str [UInt8.ofNat b.toNat]) B L):hb P (Conv.bytesToString (.slice (some q) 1 cp)) Q B L:=by
  simp only [Conv.bytesToString,Zi,loadCells]
  refine Zat [.int .u8 b] 0 #[] (fun j v hj=>by simpa using hs j v hj) ?_
  have e:Q (Value.string (ByteArray.empty.push (UInt8.ofNat b.toNat))) B L:=h
  simpa [Zm,Zi] using e
theorem ZhA {s d e:TypeId} {x:Operand} {q:Addr} {cp:Nat} {b:Int} (hg:Zf ops S g=some true) (hd:Zn n dst=true) (hs:P.underlying s=some (.slice e)) (hd':P.underlying d=some .string) (he:P.underlying e=some (.int .u8))
    (hx:ev S x=some (.slice (some q) 1 cp)) (hc:Zbb B L.flatten (some q) [.int .u8 b]) (h:K (str [UInt8.ofNat b.toNat]) D B L):opX P n ops i ⟨dst,.convert s d x,ty,pos,after,g⟩ K S D B L:=
  Zw hg hd (fun ρ hρ Q F q'=>by
    simp only [execOp,convert,hρ x _ hx,Zi,Zo hs,Zo hd',Zo he]
    exact Zhi hc.app q') h
end
end Go.BL
namespace Go.BL
set_option linter.unusedVariables false
theorem All3.at {α:Type} {R:ZdO α} {rows:List (List Value)} {xs:List α} {s:Cells} (h:All3 R rows xs s) :∀{i:Nat} {x:α},xs[i]? = some x→∃row li lr,rows[i]? = some row∧R row x li∧s.Perm (li ++ lr)∧∀x' li',R row x' li'→∃s',All3 R rows (xs.set i x') s'∧s'.Perm (li' ++ lr):=by
  induction h with
  | nil=>intro i x hx;simp at hx
  | @cons row0 x0 ins0 rest rows xs h1 h2 ih=>
    intro i x hx
    cases i with
    | zero=>
      simp only [List.getElem?_cons_zero,Option.some.injEq] at hx
      subst hx
      exact ⟨row0,ins0,rest,rfl,h1,.refl _,fun x' li' hr=>⟨li' ++ rest,.cons hr h2,.refl _⟩⟩
    | succ i=>
      obtain ⟨row,li,lr,e1,e2,e3,e4⟩:=ih (by simpa using hx)
      refine ⟨row,li,ins0 ++ lr,by simpa using e1,e2,?_,fun x' li' hr=>?_⟩
      · exact (List.Perm.append_left ins0 e3).trans (by rw [← List.append_assoc,← List.append_assoc];exact List.Perm.append_right lr List.perm_append_comm)
      · obtain ⟨s',f1,f2⟩:=e4 x' li' hr
        exact ⟨ins0 ++ s',.cons h1 f1,(List.Perm.append_left ins0 f2).trans (by rw [← List.append_assoc,← List.append_assoc];exact List.Perm.append_right lr List.perm_append_comm)⟩
theorem Za9.open1 {α:Type} {l:Cells} {p:Option Addr} {c:Nat} {T:TypeId} {w:Nat} {R:ZdO α} {xs:List α} (h:Za9 l p c T w R xs) {i:Nat} {x:α} (hx:xs[i]? = some x) :
∃b arr row li lr,p=some ⟨b,0,none⟩∧R row x li∧row.length=w∧l.Perm (li ++ (ZaB b arr T ++ lr))∧(∀(j:Nat) (u:Value),row[j]? = some u→arr[i*w+j]? = some u)∧
∀x' li',R row x' li'→Za9 (li' ++ (ZaB b arr T ++ lr)) p c T w R (xs.set i x'):=by
  obtain ⟨rows,blk,ins,h1,h2,h3,hvl⟩:=h
  have hlt:=(List.getElem?_eq_some_iff.1 hx).1
  obtain ⟨hl0,⟨_,h0,_,_⟩ | ⟨b,arr,rfl,ha,ht,rfl,hm⟩⟩:=hvl
  · omega
  · obtain ⟨row,li,lr,e1,e2,e3,e4⟩:=h1.at hx
    refine ⟨b,arr,row,li,lr,rfl,e2,h2 row (List.mem_of_getElem? e1),?_,fun j u hj=>?_,fun x' li' hr=>?_⟩
    · refine h3.trans ((List.Perm.append_left _ e3).trans ?_)
      rw [← List.append_assoc,← List.append_assoc];exact List.Perm.append_right lr List.perm_append_comm
    · have hu:=Zcg h2 e1 hj
      rw [← ht,List.getElem?_take] at hu
      split at hu
      · exact hu
      · cases hu
    · obtain ⟨s',f1,f2⟩:=e4 x' li' hr
      refine ⟨rows,ZaB b arr T,s',f1,h2,?_,by rw [List.length_set];exact hl0,.inr ⟨b,arr,rfl,ha,by rw [List.length_set];exact ht,rfl,by rw [List.length_set];exact hm⟩⟩
      refine List.Perm.trans ?_ (List.Perm.append_left _ f2.symm)
      rw [← List.append_assoc,← List.append_assoc];exact List.Perm.append_right lr List.perm_append_comm
section
variable {P:PJ} {n:Nat} {Q:Exit→ZR} {S:Env} {D:List Deferred} {B:Kn} {L:List Cells} {c:Code}
theorem ZjA {L':List Cells} (hp:L.flatten.Perm L'.flatten) (h:wpS P n c Q S D B L'):wpS P n c Q S D B L:=fun C k T hn hT hA=>by
  refine C.X.drop (r:=L'.flatten ++ C.F) (gl:=[]) ?_ (h C k T hn hT hA)
  rw [List.append_nil];exact hp.append_right C.F
theorem Zc8 {a b:Cells} (j m:Nat) (hj:L[j]? = some a) (hm:L[m]? = some b) (hne:j≠m) (h:wpS P n c Q S D B ((L.set j (b ++ a)).set m [])):wpS P n c Q S D B L:=by
  refine ZjA ?_ h
  obtain ⟨r,h1,h2⟩:=Zae [] (b ++ a) hj
  have hm':(L.set j (b ++ a))[m]? = some b:=by rw [List.getElem?_set_ne hne];exact hm
  obtain ⟨r2,h3,h4⟩:=Zae [] [] hm'
  rw [List.append_nil] at h1 h2 h3 h4
  rw [List.nil_append] at h4
  have h5:(b ++ (a ++ r)).Perm (b ++ r2):=by rw [← List.append_assoc];exact h2.symm.trans h3
  exact h1.trans (((List.perm_append_left_iff b).1 h5).trans h4.symm)
end
end Go.BL
namespace Go.BL
set_option linter.unusedVariables false
theorem All3.row {α:Type} {R:ZdO α} {rows:List (List Value)} {xs:List α} {s:Cells} (h:All3 R rows xs s) {z x:α} (f:List Value→List Value) (hf :∀row li,R row x li→R (f row) z li) :∀{k:Nat},xs[k]? = some x→∃row,rows[k]? = some row∧All3 R (rows.set k (f row)) (xs.set k z) s:=by
  induction h with
  | nil=>intro k hx;simp at hx
  | @cons row0 x0 ins0 rest rows xs h1 h2 ih=>
    intro k hx
    cases k with
    | zero=>
      simp only [List.getElem?_cons_zero,Option.some.injEq] at hx
      subst hx
      exact ⟨row0,rfl,.cons (hf _ _ h1) h2⟩
    | succ k=>
      obtain ⟨row,e1,e2⟩:=ih (k:=k) (by simpa using hx)
      exact ⟨row,by simpa using e1,.cons h1 e2⟩
theorem Za9.cell {α:Type} {l:Cells} {p:Option Addr} {c:Nat} {T:TypeId} {w:Nat} {R:ZdO α} {xs:List α} (h:Za9 l p c T w R xs) {i:Nat} {x:α} (hx:xs[i]? = some x) {B:Kn} {L:List Cells} (j:Nat) (hj:L[j]? = some l) :
∃b row li lr,p=some ⟨b,0,none⟩∧R row x li∧row.length=w∧l.Perm (li ++ lr)∧(∀(m:Nat) (u:Value),row[m]? = some u→Z9 B L.flatten ⟨b,i*w+m,none⟩ u)∧∀x' li',R row x' li'→Za9 (li' ++ lr) p c T w R (xs.set i x'):=by
  obtain ⟨b,arr,row,li,lr,e1,e2,e3,e4,e5,e6⟩:=h.open1 hx
  refine ⟨b,row,li,ZaB b arr T ++ lr,e1,e2,e3,e4,fun m u hm=>⟨rfl,arr.toArray,T,(0,0),.inr ?_,by simpa using e5 m u hm⟩,e6⟩
  obtain ⟨r,h1,h2⟩:=Zae [] [] hj
  rw [List.append_nil] at h1
  rw [h1.mem_iff]
  refine List.mem_append_left _ (e4.mem_iff.2 (List.mem_append_right _ (List.mem_append_left _ ?_)))
  exact List.mem_singleton.2 rfl
section
variable {P:PJ} {n:Nat} {ops:Array Oper} {i:Nat} {K:Z6} {S:Env} {D:List Deferred} {B:Kn} {L:List Cells}
variable {dst:Option Tmp} {ty:TypeId} {pos:String} {after:Array Edge} {g:Option (Nat × Bool)}
theorem ZdZ {α:Type} {R:ZdO α} {xs:List α} {x0:α} (z:α) {t T:TypeId} {x y:Operand} {v:Value} {us:List Value} {sz k c b:Nat} (off:Nat) {l:Cells} {p:Option Addr} (j:Nat) (hj:L[j]? = some l) (hv:Za9 l p c T sz R xs) (hp:p=some ⟨b,0,Option.none⟩) (hx0:xs[k]? = some x0) (hg:Zf ops S g=some true) (hd:Zn n dst=true) (hsz:ZL P t=some us.length)
    (hx:ev S x=some (ptr ⟨b,k*sz+off,Option.none⟩)) (hy:ev S y=some v) (hvc:v.cells=us.toArray) (ho:us.all Zc0=true) (hoff:off+us.length≤sz) (hr :∀row li,R row x0 li→R (ZV row off us) z li)
    (h :∀l',Za9 l' p c T sz R (xs.set k z)→K undef D B (L.set j l')):opX P n ops i ⟨dst,.store t x y,ty,pos,after,g⟩ K S D B L:=by
  subst hp
  obtain ⟨rows,blk,ins,h1,h2,h3,hl1,⟨hc,_⟩ | ⟨b',arr,e,ha,ht,rfl,hmc⟩⟩:=hv
  · cases hc
  · cases e
    have hk:=(List.getElem?_eq_some_iff.1 hx0).1
    obtain ⟨row,hrow,a1⟩:=h1.row (fun row=>ZV row off us) hr hx0
    have hw:row.length=sz:=h2 row (List.mem_of_getElem? hrow)
    have hsz1:(k+1)*sz≤xs.length*sz:=Nat.mul_le_mul_right sz hk
    have hcs:xs.length*sz≤c*sz:=Nat.mul_le_mul_right sz hmc
    rw [Nat.succ_mul] at hsz1
    have hb1:k*sz+off+us.length≤arr.length:=by omega
    refine Zkk (L':=L.set j (ZaB b arr T ++ ins)) (K':=fun u D' B' L₁=>u=undef∧D'=D∧B'=B∧L₁=(L.set j (ZaB b arr T ++ ins)).set j (ZaB b (ZV arr (k*sz+off) us) T ++ ins)) ?_ ?_ ?_
    · obtain ⟨r,e1,e2⟩:=Zae [] (ZaB b arr T ++ ins) hj
      rw [List.append_nil] at e1 e2
      exact e1.trans ((h3.append_right r).trans e2.symm)
    · have hj':(L.set j (ZaB b arr T ++ ins))[j]? = some (ZaB b arr T ++ ins):=by
        rw [List.getElem?_set_self (List.getElem?_eq_some_iff.1 hj).1]
      exact Zb5 us j (ZV arr (k*sz+off) us) hg hd hsz hx hy hvc ho (T:=T) (r:=ins) hj' rfl (by rw [Nat.ble_eq];exact hb1) rfl ⟨rfl,rfl,rfl,rfl⟩
    · rintro u D' B' L₁ hle ⟨rfl,rfl,rfl,rfl⟩
      have hnew:Za9 (ZaB b (ZV arr (k*sz+off) us) T ++ ins) (some ⟨b,0,Option.none⟩) c T sz R (xs.set k z):=by
        have hsl:(ZV row off us).length=sz:=by rw [ZI];exact hw
        have hwide:wide sz (rows.set k (ZV row off us)):=fun r' hr'=>by
          rcases List.mem_or_eq_of_mem_set hr' with hr' | rfl
          · exact h2 r' hr'
          · exact hsl
        refine ⟨rows.set k (ZV row off us),_,ins,a1,hwide,.refl _,?_,.inr ⟨b,_,rfl,by rw [ZI];exact ha,?_,rfl,by rw [List.length_set];exact hmc⟩⟩
        · rw [ZbD hwide,List.length_set,List.length_set,h1.len]
        · rw [List.length_set]
          have e:=ZbR (us:=us) (off:=off) h2 hrow hoff
          rw [Zca _ _ _ _ (by omega) (by omega),ht,e]
      refine ⟨L.set j (ZaB b (ZV arr (k*sz+off) us) T ++ ins),[],?_,h _ hnew⟩
      rw [List.set_set,List.append_nil]
end
end Go.BL
namespace Go.BL
open Go.Conc (G)
set_option linter.unusedVariables false
section
variable {P:PJ} {n:Nat} {ops:Array Oper} {i:Nat} {K:Z6} {S:Env} {D:List Deferred} {B:Kn} {L:List Cells}
variable {dst:Option Tmp} {ty:TypeId} {pos:String} {after:Array Edge} {g:Option (Nat × Bool)}
theorem Zj5 {α:Type} {R:ZdO α} {xs:List α} (z:α) {t u e:TypeId} {x y:Operand} {sz by_ m c c2:Nat} {p q:Option Addr} {row:List Value} {l:Cells} {inss r:List Cells} (j:Nat) (ks:List Nat) (hpk:ZaN L (j :: ks)=some (l :: inss,r)) (hnd:Zd9 (j :: ks)=true) (hv:Za9 l p c e sz R xs) (hm:m=xs.length) (hg:Zf ops S g=some true) (hd:Zn n dst=true)
    (he:ZbY P t e sz by_=true) (hu:(match P.underlying u with | some (.slice _)=>true | _=>false)=true) (hx:ev S x=some (.slice p m c)) (hy:ev S y=some (.slice q 1 c2)) (hs:Zbb B L.flatten q row) (hone:row.all Zc0=true) (hrl:row.length=sz) (ins0:Cells) (hi0:inss.flatten=ins0) (hr:R row z ins0) (hb1:(xs.length+1)*by_≤140737488355328)
    (h :∀l' p' c',Za9 l' p' c' e sz R (xs ++ [z])→K (.slice p' (xs ++ [z]).length c') D B (Zcq r (j :: ks) (l' :: inss.map fun _=>[]))):opX P n ops i ⟨dst,.call ⟨.builtin .append,#[x,y],#[t,u]⟩,ty,pos,after,g⟩ K S D B L:=by
  subst hm
  subst hi0
  obtain ⟨rows,blk,inn,h1,h2,h3,h4⟩:=hv
  have hpp:=ZaA (j :: ks) L (l :: inss) r hpk
  have p1:L.flatten.Perm (blk ++ (inn ++ (inss.flatten ++ r.flatten))):=by
    refine hpp.trans ?_
    simp only [List.flatten_cons,List.append_assoc]
    refine (h3.append_right _).trans ?_
    rw [List.append_assoc]
  refine ZiX (L':=[blk,inn ++ (inss.flatten ++ r.flatten)]) (K':=fun v D' B' L₁=>∃blk' p' c',L₁=[blk',inn ++ (inss.flatten ++ r.flatten)]∧v = .slice p' (xs.length+1) c'∧D'=D∧B'=B∧ZdN blk' p' (xs.length+1) c' e sz (rows.flatten ++ row)) ?_ ?_ ?_
  · simpa using p1
  · refine Zcj 0 rfl h4 hg hd he hu hx hy ?_ (by rw [hrl,Nat.one_mul]) hone hb1 fun l' p' c' hv'=>⟨l',p',c',rfl,rfl,rfl,rfl,hv'⟩
    cases q with
    | none=>exact hs
    | some a=>
      intro jj v hjj
      exact (hs jj v hjj).perm (by simpa using p1)
  · rintro v D' B' L₁ hle ⟨blk',p',c',rfl,rfl,rfl,rfl,hv'⟩
    have hnew:Za9 (blk' ++ (inn ++ inss.flatten)) p' c' e sz R (xs ++ [z]):=⟨rows ++ [row],blk',inn ++ inss.flatten,h1.snoc hr,fun r' hr'=>by
      rcases List.mem_append.1 hr' with hr' | hr'
      · exact h2 r' hr'
      · rw [List.mem_singleton.1 hr'];exact hrl,.refl _,by rw [List.length_append,List.flatten_append];simpa using hv'⟩
    refine ⟨_,?_,by have:=h _ _ _ hnew;rwa [List.length_append] at this⟩
    have hq:=Zcb ((blk' ++ (inn ++ inss.flatten)) :: inss.map fun _=>[]) r (j :: ks) (Zcd hnd) (fun jj hj=>Zcc (j :: ks) L (l :: inss) r hpk jj (.inr hj))
    have hnil:((inss.map fun _=>([]:Cells))).flatten=[]:=by
      clear hpk hpp h hnew hs h3 p1 hq
      induction inss with
      | nil=>rfl
      | cons a as ih=>simp
    rw [List.flatten_cons,hnil,List.append_nil] at hq
    refine List.Perm.trans ?_ hq
    simp only [List.flatten_cons,List.flatten_nil,List.append_nil,List.append_assoc]
    exact .refl _
theorem Zaw.borrowL {f:FuncId} {args:List Value} {ls:List Cells} {v:Value} (h:(∀p,p∈ls.flatten→(B.add ls.flatten).mem p.1=some p.2)→Zaw P f args (B.add ls.flatten) v):ZT P f args B ls (fun v' B' Ls=>v'=v∧B'=B∧Ls=ls):=by
  have:=(ZT.borrowL (P:=P) (Ls:=[]) h).mono (Post':=fun v' B' Ls=>v'=v∧B'=B∧Ls=ls) fun v' B' Ls' _ ⟨B₂,Ls₂,a1,a2,_,_,a3,a4,a5,a6⟩=>by subst a5;subst a6;exact ⟨a4,a2.trans a3,by rw [a1,List.append_nil]⟩
  rwa [List.append_nil] at this
theorem Zd0 {f:FuncId} {xs:List Operand} {vs:List Value} {ats:Array TypeId} {v:Value} {ls r:List Cells} (js:List Nat) (hp:ZaN L js=some (ls,r)) (hput:Zcq r js ls=L) (hn:Zd9 js=true) (hg:Zf ops S g=some true) (hd:Zn n dst=true) (he:enters P f=true) (ha:evs S xs=some vs)
    (hc:ZT P f vs B ls (fun v' B' Ls=>v'=v∧B'=B∧Ls=ls)) (h:K v D B L):opX P n ops i ⟨dst,.call ⟨.value (.func f),xs.toArray,ats⟩,ty,pos,after,g⟩ K S D B L:=
  Za2 js hp hn hg hd he ha hc fun v' B' Ls' hle ⟨h1,h2,h3⟩=>by subst h1;subst h2;subst h3;rw [hput];exact h
end
theorem ZjQ {B:Kn} {ls:List Cells} {l:Cells} (hm :∀p,p∈ls.flatten→B.mem p.1=some p.2) (k:Nat) (hk:ls[k]? = some l) :∀q,q∈l→B.mem q.1=some q.2:=fun q hq=>hm q (List.mem_flatten.2 ⟨l,List.mem_of_getElem? hk,hq⟩)
theorem Zab.lendK {α:Type} {B BV:Kn} {l:Cells} {ls:List Cells} {p:Option Addr} {c:Nat} {T:TypeId} {w:Nat} {R:Rel α} {xs:List α} (h:Zab BV l p c T w R xs) (hR:ZiD R) (k:Nat) (hk:ls[k]? = some l) (hm :∀q,q∈ls.flatten→(B.add ls.flatten).mem q.1=some q.2) (hl:xs.length≤2000000):SlK (B.add ls.flatten) p c w R xs:=⟨h.rowsF hR (ZjQ hm k hk),h.cap,hl⟩
theorem Za9.lendK {α:Type} {B:Kn} {l:Cells} {ls:List Cells} {p:Option Addr} {c:Nat} {T:TypeId} {w:Nat} {R:ZdO α} {R':Rel α} {xs:List α} (h:Za9 l p c T w R xs) (hR :∀{B:Kn} {row:List Value} {x:α} {ins:Cells},R row x ins→(∀q,q∈ins→B.mem q.1=some q.2)→R' B row x) (hM:Mono R') (k:Nat) (hk:ls[k]? = some l) (hm :∀q,q∈ls.flatten→(B.add ls.flatten).mem q.1=some q.2) (hl:xs.length≤2000000):SlK (B.add ls.flatten) p c w R' xs:=h.known (fun _ _ _ a b=>hR a b) hM (ZjQ hm k hk) hl
theorem Zk2 {l a lr:Cells} (h:l.Perm (a ++ lr)):l.Perm (lr ++ ([a]:List Cells).flatten):=by
  simpa using h.trans List.perm_append_comm
theorem ZiU {l a b lr:Cells} (h:l.Perm (a ++ b ++ lr)):l.Perm (lr ++ ([a,b]:List Cells).flatten):=by
  simpa using h.trans List.perm_append_comm
theorem Zj1 {P:PJ} {n:Nat} {Q:Exit→ZR} {S:Env} {D:List Deferred} {B:Kn} {L:List Cells} {c:Code} (es:List Cells) (he:es.flatten=[]) (h:wpS P n c Q S D B (L ++ es)):wpS P n c Q S D B L:=
  ZjA (by rw [List.flatten_append,he,List.append_nil]) h
end Go.BL
namespace Go.BL
open Go.Conc (G)
set_option linter.unusedVariables false
structure ErrsB (tE:TypeId) (gs:List Nat) (B:Kn) (a:Nat→Addr):Prop where
  row :∀k,k<4→Zb2 B (gs.getD k 0) 0 [.iface tE (.pointer (some (a k)))]
  cell :∀k,k<4→∃cs T,B.mem (a k).block=some (.cells cs T (0,0))
  ne :∀i j,i<4→j<4→i≠j→a i≠a j
theorem ErrsB.mono {tE:TypeId} {gs:List Nat} {B B':Kn} {a:Nat→Addr} (h:ErrsB tE gs B a) (hle:B.le B'):ErrsB tE gs B' a:=
  ⟨fun k hk=>(h.row k hk).mono hle,fun k hk=>let ⟨cs,T,e⟩:=h.cell k hk;⟨cs,T,hle _ _ e⟩,h.ne⟩
theorem ErrsB.perm {tE:TypeId} {gs:List Nat} {B:Kn} {a:Nat→Addr} (h:ErrsB tE gs B a) (p0 p1 p2 p3:Nat) (hp:(p0<4∧p1<4∧p2<4∧p3<4)∧p0≠p1∧p0≠p2∧p0≠p3∧p1≠p2∧p1≠p3∧p2≠p3) :
    ErrsB tE [gs.getD p0 0,gs.getD p1 0,gs.getD p2 0,gs.getD p3 0] B (fun k=>a (if k=0 then p0 else if k=1 then p1 else if k=2 then p2 else p3)):=by
  obtain ⟨⟨h0,h1,h2,h3⟩,e⟩:=hp
  refine ⟨fun k hk=>?_,fun k hk=>?_,fun i j hi hj hne=>?_⟩
  · match k,hk with
    | 0,_=>exact h.row p0 h0
    | 1,_=>exact h.row p1 h1
    | 2,_=>exact h.row p2 h2
    | 3,_=>exact h.row p3 h3
  · match k,hk with
    | 0,_=>exact h.cell p0 h0
    | 1,_=>exact h.cell p1 h1
    | 2,_=>exact h.cell p2 h2
    | 3,_=>exact h.cell p3 h3
  · refine h.ne _ _ ?_ ?_ ?_
    · split
      · omega
      · split
        · omega
        · split <;> omega
    · split
      · omega
      · split
        · omega
        · split <;> omega
    · intro he
      match i,j,hi,hj with
      | 0,0,_,_=>exact hne rfl
      | 0,1,_,_=>exact e.1 he
      | 0,2,_,_=>exact e.2.1 he
      | 0,3,_,_=>exact e.2.2.1 he
      | 1,0,_,_=>exact e.1 he.symm
      | 1,1,_,_=>exact hne rfl
      | 1,2,_,_=>exact e.2.2.2.1 he
      | 1,3,_,_=>exact e.2.2.2.2.1 he
      | 2,0,_,_=>exact e.2.1 he.symm
      | 2,1,_,_=>exact e.2.2.2.1 he.symm
      | 2,2,_,_=>exact hne rfl
      | 2,3,_,_=>exact e.2.2.2.2.2 he
      | 3,0,_,_=>exact e.2.2.1 he.symm
      | 3,1,_,_=>exact e.2.2.2.2.1 he.symm
      | 3,2,_,_=>exact e.2.2.2.2.2 he.symm
      | 3,3,_,_=>exact hne rfl
section
variable {P:Program}
end
section
variable {P:PJ} {n:Nat} {ops:Array Oper} {i:Nat} {K:Z6} {S:Env} {D:List Deferred} {B:Kn} {L:List Cells}
variable {dst:Option Tmp} {ty:TypeId} {pos:String} {after:Array Edge} {g:Option (Nat × Bool)}
end
end Go.BL
namespace Go.BL
open Go.ChangeShapes Go.WideShapes Go.ChangeAt Go.RowKit Go.Conc
set_option linter.unusedVariables false
section
variable {H:Type} {enc:TypeId × Value→H} {P:Program}
end
end Go.BL
namespace Go.BL
open Go.Conc (G)
set_option linter.unusedVariables false
section
variable {P:PJ} {n:Nat} {ops:Array Oper} {i:Nat} {K:Z6} {S:Env} {D:List Deferred} {B:Kn} {L:List Cells}
variable {dst:Option Tmp} {ty:TypeId} {pos:String} {after:Array Edge} {g:Option (Nat × Bool)}
theorem All3.turn {α:Type} {R:ZdO α} {rows:List (List Value)} {xs:List α} {s:Cells} (h:All3 R rows xs s) {z x:α} {ex:Cells} (f:List Value→List Value) (hf :∀row li,R row x li→∃li' gl,R (f row) z li'∧(li ++ ex).Perm (li' ++ gl)) :∀{k:Nat},xs[k]? = some x→∃row s' gl,rows[k]? = some row∧All3 R (rows.set k (f row)) (xs.set k z) s'∧(s ++ ex).Perm (s' ++ gl):=by
  induction h with
  | nil=>intro k hx;simp at hx
  | @cons row0 x0 ins0 rest rows xs h1 h2 ih=>
    intro k hx
    cases k with
    | zero=>
      simp only [List.getElem?_cons_zero,Option.some.injEq] at hx
      subst hx
      obtain ⟨li',gl,e1,e2⟩:=hf _ _ h1
      refine ⟨row0,li' ++ rest,gl,rfl,.cons e1 h2,?_⟩
      have e3:(ins0 ++ rest ++ ex).Perm ((ins0 ++ ex) ++ rest):=by
        rw [List.append_assoc,List.append_assoc];exact List.Perm.append_left _ List.perm_append_comm
      refine e3.trans ((e2.append_right rest).trans ?_)
      rw [List.append_assoc,List.append_assoc];exact List.Perm.append_left _ List.perm_append_comm
    | succ k=>
      obtain ⟨row,s',gl,e1,e2,e3⟩:=ih (k:=k) (by simpa using hx)
      refine ⟨row,ins0 ++ s',gl,by simpa using e1,.cons h1 e2,?_⟩
      rw [List.append_assoc,List.append_assoc]
      exact List.Perm.append_left ins0 e3
end
end Go.BL
namespace Go.BL
open Go.Conc (G)
set_option linter.unusedVariables false
@[reducible] def Zg6 (x:DMail) (v:Value):List Value:=[.int .i64 x.uid,.int .i64 x.flags,str x.text,v]
def ZdU (Tn:TypeId):Value→List DMail→Cells→Prop
  | v,[],s=>v = .pointer none∧s=[]
  | v,x :: xs,s=>∃b nx rest,v=ptr ⟨b,0,none⟩∧s.Perm (ZaB b (Zg6 x nx) Tn ++ rest)∧x.text.length≤2000000∧ZdU Tn nx xs rest
theorem ZdU.ptr {Tn:TypeId} {v:Value} {xs:List DMail} {s:Cells} (h:ZdU Tn v xs s) :∃p,v = .pointer p:=by
  cases xs with
  | nil=>exact ⟨none,h.1⟩
  | cons x xs=>obtain ⟨b,nx,rest,rfl,_⟩:=h;exact ⟨_,rfl⟩
theorem ZdU.more {Tn:TypeId} {p:Option Addr} {xs:List DMail} {s:Cells} (h:ZdU Tn (.pointer p) xs s) (hp:p.isNone=false) :∃y ys b np rest,p=some ⟨b,0,none⟩∧xs=y :: ys∧s.Perm (ZaB b (Zg6 y (.pointer np)) Tn ++ [rest].flatten)∧y.text.length≤2000000∧ZdU Tn (.pointer np) ys rest:=by
  cases xs with
  | nil=>obtain ⟨h1,_⟩:=h;cases h1;cases hp
  | cons x xs=>
    obtain ⟨b,nx,rest,h1,h2,h3,h4⟩:=h
    obtain ⟨np,rfl⟩:=h4.ptr
    cases h1
    exact ⟨x,xs,b,np,rest,rfl,rfl,by simpa using h2,h3,h4⟩
theorem ZdU.done {Tn:TypeId} {p:Option Addr} {xs:List DMail} {s:Cells} (h:ZdU Tn (.pointer p) xs s) (hp:p.isNone=true):xs=[]:=by
  cases xs with
  | nil=>rfl
  | cons x xs=>obtain ⟨b,nx,rest,h1,_⟩:=h;cases h1;cases hp
def Zjw (Tn:TypeId) (v0:Value) (bl:Nat) (x:DMail) (rest:Cells) (pre:List DMail):Prop:=
∀v xs s,ZdU Tn v xs s→∃s0,ZdU Tn v0 (pre ++ xs) s0∧(ZaB bl (Zg6 x v) Tn ++ (rest ++ s)).Perm s0
theorem Zjw.step {Tn:TypeId} {v0:Value} {bl b:Nat} {x y:DMail} {rest:Cells} {pre:List DMail} (h:Zjw Tn v0 bl x rest pre) (hy:y.text.length≤2000000) :
    Zjw Tn v0 b y (rest ++ ZaB bl (Zg6 x (Go.BL.ptr ⟨b,0,none⟩)) Tn) (pre ++ [y]):=fun v xs s hs=>by
  obtain ⟨s0,h1,h2⟩:=h (Go.BL.ptr ⟨b,0,none⟩) (y :: xs) (ZaB b (Zg6 y v) Tn ++ s) ⟨b,v,s,rfl,.refl _,hy,hs⟩
  refine ⟨s0,by simpa using h1,?_⟩
  refine List.Perm.trans ?_ h2
  exact Zkh fun f g h0 ha hc=>by simp only [ha];omega
def MLst (TL Tn:TypeId) (b:Nat) (xs:List DMail) (s:Cells):Prop:=
  (xs=[]∧s.Perm (ZaB b [.pointer none,.pointer none,.int .i64 0] TL))∨
∃v0 bl x rest,s.Perm (ZaB b [v0,ptr ⟨bl,0,none⟩,.int .i64 xs.length] TL ++ [ZaB bl (Zg6 x (.pointer none)) Tn,rest].flatten)∧Zjw Tn v0 bl x rest xs
theorem MLst.nil {TL Tn:TypeId} {b:Nat} : MLst TL Tn b [] (ZaB b [.pointer none,.pointer none,.int .i64 0] TL):=.inl ⟨rfl,.refl _⟩
end Go.BL
namespace Go.BL
section
variable {P:PJ} {n:Nat} {ops:Array Oper} {i:Nat} {K:Z6} {S:Env} {D:List Deferred} {B:Kn} {L:List Cells}
variable {dst:Option Tmp} {ty:TypeId} {pos:String} {after:Array Edge} {g:Option (Nat × Bool)}
end
end Go.BL
namespace Go.BL
section
variable {P:PJ} {n:Nat} {ops:Array Oper} {i:Nat} {K:Z6} {S:Env} {D:List Deferred} {B:Kn} {L:List Cells}
variable {dst:Option Tmp} {ty:TypeId} {pos:String} {after:Array Edge} {g:Option (Nat × Bool)}
variable {α:Type} {R:Rel α} {xs:List α}
theorem Zbb.own {B:Kn} {L:List Cells} {l:Cells} {p:Option Addr} {m c sz:Nat} {T:TypeId} {vs:List Value} (h:ZdN l p m c T sz vs) (j:Nat) (hj:L[j]? = some l):Zbb B L.flatten p vs:=by
  obtain ⟨h1,⟨rfl,rfl,rfl,rfl⟩ | ⟨b,arr,rfl,h2,h3,rfl,h4⟩⟩:=h
  · exact List.eq_nil_of_length_eq_zero (by simpa using h1)
  · intro k v hk
    have hv':arr[k]? = some v:=by
      rw [← h3,List.getElem?_take] at hk
      split at hk
      · exact hk
      · cases hk
    exact Zbb.box (B:=B) j hj k v hv'
end
end Go.BL
namespace Go.BL
theorem Zaa {P:PJ} {n:Nat} {Q:Exit→ZR} {S:Env} {D:List Deferred} {B:Kn} {L:List Cells} {c:Code} (L':List Cells) (hl:L=L') (h:wpS P n c Q S D B L'):wpS P n c Q S D B L:=by subst hl;exact h
theorem sQ:(∀(p:Prop) [Decidable p],(decide p=true)=p)∧(∀(p:Prop) [Decidable p],(decide p=false) = ¬p)∧(∀b:Bool,((!b)=true)=(b=false))∧(∀b:Bool,((!b)=false)=(b=true))∧(∀(p:Prop) [Decidable p],(decide (¬p)) = !decide p)∧(∀(p:Prop) [Decidable p],(¬¬p)=p)∧(∀a b:Int,(¬a<b)=(b≤a))∧(∀a b:Int,(¬a≤b)=(b<a)):=
  ⟨fun p _=>by simp,fun p _=>by simp,by simp,by simp,fun p _=>by simp,fun p _=>by simp,by simp,by simp⟩
end Go.BL
namespace Go.BL
section
variable {P:PJ} {n:Nat} {ops:Array Oper} {i:Nat} {K:Z6} {S:Env} {D:List Deferred} {B:Kn} {L:List Cells}
variable {dst:Option Tmp} {ty:TypeId} {pos:String} {after:Array Edge} {g:Option (Nat × Bool)}
section
variable {t u:TypeId} {x y:Operand} {a b r:Int}
end
end
end Go.BL
