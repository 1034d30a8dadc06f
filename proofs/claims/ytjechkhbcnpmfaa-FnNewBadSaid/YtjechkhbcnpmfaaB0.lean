/-
  THE WALK'S LOGIC: owned cells and known cells, goroutines started and awaited, calls, loops, data, and plain laws on lists: no program in sight.
-/
import Derived.Test.YtjechkhbcnpmfaaK0
import Derived.Orders
import Derived.Laws.Strings
import Derived.IntWalk
import Derived.RowKit3
import Derived.OpenShut
import Derived.WideKeyArgs
import Derived.ChangeSlices
import Derived.ChangeCalls
import Derived.ProofKit
import Derived.WalkKit
import Derived.Lib.Bytealg
import Derived.ChangeArms
namespace Go.BL
set_option linter.unusedVariables false
set_option linter.unusedSimpArgs false
set_option linter.unusedSectionVars false
open Go.Conc (G)
set_option linter.unusedVariables false
abbrev Env := List (Nat × Value)
def get : Env → Nat → Option Value
  | [], _ => none
  | (k, v) :: r, i => bif Nat.beq k i then some v else get r i
def Ag (T : Array Value) (S : Env) : Prop := ∀ i v, get S i = some v → T[i]? = some v
def Sub : Env → Env → Prop
  | [], _ => True
  | p :: r, S => get S p.1 = some p.2 ∧ Sub r S
theorem Sub.get_of : ∀ {S' S : Env}, Sub S' S → ∀ {i v}, get S' i = some v → get S i = some v
  | [], _, _, _, _, h => by cases h
  | (k, x) :: r, S, ⟨h1, h2⟩, i, v, h => by
    simp only [get] at h
    cases hb : Nat.beq k i with
    | true =>
      rw [hb] at h
      simp only [cond_true, Option.some.injEq] at h
      subst h
      have := Nat.eq_of_beq_eq_true hb
      subst this
      exact h1
    | false => rw [hb] at h; exact Sub.get_of h2 h
theorem Ag.sub {T : Array Value} {S S' : Env} (h : Ag T S) (hs : Sub S' S) : Ag T S' := fun i v hv => h i v (hs.get_of hv)
theorem Ag.put {T : Array Value} {S : Env} (h : Ag T S) {d : Nat} (hd : d < T.size) (v : Value) : Ag (T.setIfInBounds d v) ((d, v) :: S) := by
  intro i x hx
  simp only [get] at hx
  cases hb : Nat.beq d i with
  | true =>
    rw [hb] at hx
    simp only [cond_true, Option.some.injEq] at hx
    subst hx
    have := Nat.eq_of_beq_eq_true hb
    subst this
    simp [hd]
  | false =>
    rw [hb] at hx
    rw [Array.getElem?_setIfInBounds, if_neg (fun e => by subst e; simp [Nat.beq_eq] at hb)]
    exact h i x hx
def ev (S : Env) : Operand → Option Value
  | .tmp t => get S t
  | .const v => some v
  | .global g => some (.pointer (some ⟨g, 0, none⟩))
  | .func f => some (.func (.func f) #[] #[])
def evT (T : Array Value) : Operand → Value
  | .tmp t => T.getD t undef
  | .const v => v
  | .global g => .pointer (some ⟨g, 0, none⟩)
  | .func f => .func (.func f) #[] #[]
theorem ev_evT {T : Array Value} {S : Env} (h : Ag T S) {x : Operand} {v : Value} (hx : ev S x = some v) : evT T x = v := by
  cases x with
  | tmp t => have := h t v hx; simp only [evT, Array.getD_eq_getD_getElem?, this]; rfl
  | const u => simpa [ev, evT] using hx
  | global g => simpa [ev, evT] using hx
  | func f => simpa [ev, evT] using hx
def evs (S : Env) : List Operand → Option (List Value)
  | [] => some []
  | x :: r => match ev S x, evs S r with
    | some v, some vs => some (v :: vs)
    | _, _ => none
def fat (b : Frame) (T : Array Value) (D : List Deferred) (todo : List Item) : Frame := { b with tmps := T, todo, defers := D, mode := .run }
theorem fat_eval (b : Frame) (T : Array Value) (D : List Deferred) (todo : List Item) : (fat b T D todo).eval = evT T := by
  funext x; cases x <;> rfl
section moves
variable {P : Program} {main : Bool} {b : Frame} {T : Array Value} {D : List Deferred} {k : List Item} {cs : List Frame} {w : World}
theorem st_skip : stepG P main (G (fat b T D (.code .skip :: k)) cs) w = .go (G (fat b T D k) cs) w #[] := by simp [G, stepG, stepG.exec, fat]
theorem st_seq {x y : Code} : stepG P main (G (fat b T D (.code (.seq x y) :: k)) cs) w = .go (G (fat b T D (.code x :: .code y :: k)) cs) w #[] := by simp [G, stepG, stepG.exec, fat]
theorem st_cond {c : Operand} {x y : Code} {t : Bool} (h : evT T c = .bool t) :
    stepG P main (G (fat b T D (.code (.cond c x y) :: k)) cs) w = .go (G (fat b T D (.code (if t then x else y) :: k)) cs) w #[] := by
  have h' : (fat b T D (.code (.cond c x y) :: k)).eval c = .bool t := by rw [fat_eval]; exact h
  simp only [fat] at h'
  simp [G, stepG, stepG.exec, fat, h']
theorem st_block {id : Nat} {c : Code} : stepG P main (G (fat b T D (.code (.block id c) :: k)) cs) w = .go (G (fat b T D (.code c :: .inBlock id :: k)) cs) w #[] := by simp [G, stepG, stepG.exec, fat]
theorem st_inBlock {id : Nat} : stepG P main (G (fat b T D (.inBlock id :: k)) cs) w = .go (G (fat b T D k) cs) w #[] := by simp [G, stepG, stepG.exec, fat]
theorem st_loop {c : Code} : stepG P main (G (fat b T D (.code (.loop c) :: k)) cs) w = .go (G (fat b T D (.code c :: .inLoop c :: k)) cs) w #[] := by simp [G, stepG, stepG.exec, fat]
theorem st_inLoop {c : Code} : stepG P main (G (fat b T D (.inLoop c :: k)) cs) w = .go (G (fat b T D (.code c :: .inLoop c :: k)) cs) w #[] := by simp [G, stepG, stepG.exec, fat]
theorem st_exit {id : Nat} {k' : List Item} (h : exitTo id k = some k') : stepG P main (G (fat b T D (.code (.exit id) :: k)) cs) w = .go (G (fat b T D k') cs) w #[] := by simp [G, stepG, stepG.exec, fat, h]
theorem st_region {id : Nat} {ops : Array Oper} : stepG P main (G (fat b T D (.code (.region id ops false) :: k)) cs) w = .go (G (fat b T D (.inRegion ops (List.range ops.size) :: k)) cs) w #[] := by simp [G, stepG, stepG.exec, fat]
theorem st_region_draw {id : Nat} {ops : Array Oper} : stepG P main (G (fat b T D (.code (.region id ops true) :: k)) cs) w =
    .go (G (fat b T D (.inRegion ops (Region.schedule (P.follows .mixedOrders) ops (w.tape w.drawn (.order b.fn id))) :: k)) cs) { w with drawn := w.drawn + 1 } #[] := by
  simp [G, stepG, stepG.exec, fat, choose, Sem.run, Question.forced, Question.cut]
theorem st_region_end {ops : Array Oper} : stepG P main (G (fat b T D (.inRegion ops [] :: k)) cs) w = .go (G (fat b T D k) cs) w #[] := by simp [G, stepG, stepG.exec, fat]
theorem st_ret (hr : b.roundOf = none) : stepG P main (G (fat b T D (.code .ret :: k)) cs) w = .go (G { fat b T D (.code .ret :: k) with mode := .returning } cs) w #[] := by
  simp [G, stepG, stepG.exec, fat, hr]
theorem st_end (hr : b.roundOf = none) : stepG P main (G (fat b T D []) cs) w = .go (G { fat b T D [] with mode := .returning } cs) w #[] := by
  simp [G, stepG, stepG.exec, fat, hr]
theorem st_skipped {ops : Array Oper} {i : Nat} {rest : List Nat} {o : Oper} (ho : ops[i]? = some o) (hw : Region.wanted o (yielded ops T) = false) :
    stepG P main (G (fat b T D (.inRegion ops (i :: rest) :: k)) cs) w = .go (G (fat b (match o.dst with | some d => T.setIfInBounds d undef | none => T) D (.inRegion ops rest :: k)) cs) w #[] := by
  cases hd : o.dst <;> simp [G, stepG, stepG.exec, fat, ho, hw, Frame.finish, hd]
def isDefer : Op → Bool
  | .defer _ => true
  | _ => false
theorem st_oper {ops : Array Oper} {i : Nat} {rest : List Nat} {o : Oper} (hnd : isDefer o.op = false) (ho : ops[i]? = some o) (hw : Region.wanted o (yielded ops T) = true) :
    stepG P main (G (fat b T D (.inRegion ops (i :: rest) :: k)) cs) w = stepG.apply P true (fat b T D (.inRegion ops (i :: rest) :: k)) cs none (execOp (evT T) o) w := by
  have he := fat_eval b T D (.inRegion ops (i :: rest) :: k)
  simp only [fat] at he
  have key : ∀ (x : Option Nat), (match x, o.op with
      | some l, .defer c => stepG.apply P true (fat b T D (.inRegion ops (i :: rest) :: k)) cs none (do Instr.deferInRound l (← resolve (fat b T D (.inRegion ops (i :: rest) :: k)).eval c o.type); pure .skip) w
      | _, _ => stepG.apply P true (fat b T D (.inRegion ops (i :: rest) :: k)) cs none (execOp (evT T) o) w) = stepG.apply P true (fat b T D (.inRegion ops (i :: rest) :: k)) cs none (execOp (evT T) o) w := by
    intro x
    split
    · rename_i h; rw [h] at hnd; cases hnd
    · rfl
  have := key b.roundOf
  simp only [fat] at this
  simp only [G, stepG, stepG.exec, fat, ho, Option.map_some, hw, Option.getD_some, if_true, stepG.oper, Frame.oper?, he]
  exact this
end moves
def putT (T : Array Value) (dst : Option Tmp) (v : Value) : Array Value := match dst with | some d => T.setIfInBounds d v | none => T
theorem putT_size (T : Array Value) (dst : Option Tmp) (v : Value) : (putT T dst v).size = T.size := by cases dst <;> simp [putT]
theorem fat_finish {b : Frame} {T : Array Value} {D : List Deferred} {ops : Array Oper} {i : Nat} {rest : List Nat} {k : List Item} {o : Oper} (ho : ops[i]? = some o) (v : Value) :
    (fat b T D (.inRegion ops (i :: rest) :: k)).finish v = fat b (putT T o.dst v) D (.inRegion ops rest :: k) := by
  cases h : o.dst <;> simp [fat, Frame.finish, ho, h, putT]
structure Cx (P : PJ) where
  X : Lg P
  b : Frame
  cs : List Frame
  F : Cells
  early : b.kind ≠ .early
abbrev Post4 := Env → List Deferred → Kn → List Cells → Prop
def After {P : PJ} (C : Cx P) (k : List Item) (T : Array Value) (D : List Deferred) (B : Kn) (L : List Cells) : Exit → Prop
  | .normal => C.X.R (G (fat C.b T D k) C.cs) B (L.flatten ++ C.F)
  | .exit id => ∃ k', exitTo id k = some k' ∧ C.X.R (G (fat C.b T D k') C.cs) B (L.flatten ++ C.F)
  | .ret => C.b.roundOf = none ∧ ∀ todo, C.X.R (G { fat C.b T D todo with mode := .returning } C.cs) B (L.flatten ++ C.F)
  | _ => False
def wpS (P : PJ) (n : Nat) (c : Code) (Q : Exit → Post4) : Post4 := fun S D B L =>
  ∀ (C : Cx P) (k : List Item) (T : Array Value), T.size = n → Ag T S →
    (∀ e S' D' B' L' T', B.le B' → Q e S' D' B' L' → T'.size = n → Ag T' S' → After C k T' D' B' L' e) → C.X.R (G (fat C.b T D (.code c :: k)) C.cs) B (L.flatten ++ C.F)
def thn (K : Post4) (Q : Exit → Post4) : Exit → Post4
  | .normal => K
  | e => Q e
def inB (id : Nat) (Q : Exit → Post4) : Exit → Post4
  | .exit id' => bif Nat.beq id' id then Q .normal else Q (.exit id')
  | e => Q e
section rules
variable {P : PJ} {n : Nat} {Q : Exit → Post4} {S : Env} {D : List Deferred} {B : Kn} {L : List Cells}
theorem w_conseq {c : Code} {Q' : Exit → Post4} (h : wpS P n c Q' S D B L) (hq : ∀ e S D B' L, B.le B' → Q' e S D B' L → Q e S D B' L) : wpS P n c Q S D B L :=
  fun C k T hn hT hA => h C k T hn hT fun e S' D' B' L' T' hle hq' => hA e S' D' B' L' T' hle (hq e S' D' B' L' hle hq')
theorem wKp {c : Code} (S' : Env) (hs : Sub S' S) (h : wpS P n c Q S' D B L) : wpS P n c Q S D B L :=
  fun C k T hn hT hA => h C k T hn (hT.sub hs) hA
theorem w_skip (h : Q .normal S D B L) : wpS P n .skip Q S D B L := fun C k T hn hT hA =>
  C.X.ctl rfl (fun w => st_skip) (hA .normal S D B L T (Kn.le.refl B) h hn hT)
theorem w_ret (h : Q .ret S D B L) : wpS P n .ret Q S D B L := fun C k T hn hT hA => by
  obtain ⟨hr, hR⟩ := hA .ret S D B L T (Kn.le.refl B) h hn hT
  exact C.X.ctl rfl (fun w => st_ret hr) (hR _)
theorem w_exit {id : Nat} (h : Q (.exit id) S D B L) : wpS P n (.exit id) Q S D B L := fun C k T hn hT hA => by
  obtain ⟨k', hk, hR⟩ := hA (.exit id) S D B L T (Kn.le.refl B) h hn hT
  exact C.X.ctl rfl (fun w => st_exit hk) hR
theorem After.push {C : Cx P} {x : Item} {k : List Item} {T : Array Value} {e : Exit} (hx : x.plain = true) (he : e ≠ .normal) (h : After C k T D B L e) : After C (x :: k) T D B L e := by
  cases e with
  | normal => exact absurd rfl he
  | exit id => obtain ⟨k', hk, hg⟩ := h; exact ⟨k', by cases x <;> simp_all [exitTo, Item.plain], hg⟩
  | ret => exact h
  | goto l => exact h
  | panic ch => exact h
  | outgrown => exact h
theorem w_seq {x y : Code} (h : wpS P n x (thn (wpS P n y Q) Q) S D B L) : wpS P n (.seq x y) Q S D B L := fun C k T hn hT hA => by
  refine C.X.ctl rfl (fun w => st_seq) (h C (.code y :: k) T hn hT fun e S' D' B' L' T' hle hq hn' hT' => ?_)
  cases e with
  | normal => exact hq C k T' hn' hT' fun e₂ S₂ D₂ B₂ L₂ T₂ hle₂ hq₂ => hA e₂ S₂ D₂ B₂ L₂ T₂ (hle.trans hle₂) hq₂
  | exit id => exact After.push rfl (by simp) (hA (.exit id) S' D' B' L' T' hle hq hn' hT')
  | ret => exact After.push (x := .code y) rfl (by simp) (hA .ret S' D' B' L' T' hle hq hn' hT')
  | goto l => exact (hA (.goto l) S' D' B' L' T' hle hq hn' hT')
  | panic ch => exact (hA (.panic ch) S' D' B' L' T' hle hq hn' hT')
  | outgrown => exact (hA .outgrown S' D' B' L' T' hle hq hn' hT')
theorem w_cut {x y : Code} (M : Post4) (h : wpS P n x (thn M Q) S D B L) (h' : ∀ S' D' B' L', B.le B' → M S' D' B' L' → wpS P n y Q S' D' B' L') : wpS P n (.seq x y) Q S D B L :=
  w_seq (w_conseq h fun e S' D' B' L' hle hq => by cases e <;> first | exact hq | exact h' _ _ _ _ hle hq)
theorem wCd {c : Operand} {x y : Code} {t : Bool} (hc : ev S c = some (.bool t)) (h1 : t = true → wpS P n x Q S D B L) (h2 : t = false → wpS P n y Q S D B L) : wpS P n (.cond c x y) Q S D B L := fun C k T hn hT hA => by
  refine C.X.ctl rfl (fun w => st_cond (ev_evT hT hc)) ?_
  cases t
  · exact h2 rfl C k T hn hT hA
  · exact h1 rfl C k T hn hT hA
theorem w_block {id : Nat} {c : Code} (h : wpS P n c (inB id Q) S D B L) : wpS P n (.block id c) Q S D B L := fun C k T hn hT hA => by
  refine C.X.ctl rfl (fun w => st_block) (h C (.inBlock id :: k) T hn hT fun e S' D' B' L' T' hle hq hn' hT' => ?_)
  cases e with
  | normal => exact C.X.ctl rfl (fun w => st_inBlock) (hA .normal S' D' B' L' T' hle hq hn' hT')
  | exit id' =>
    by_cases hid : id' = id
    · subst hid
      have hq' : Q .normal S' D' B' L' := by simpa [inB] using hq
      exact ⟨k, by simp [exitTo], hA .normal S' D' B' L' T' hle hq' hn' hT'⟩
    · have hb : Nat.beq id' id = false := by
        cases h : Nat.beq id' id with
        | false => rfl
        | true => exact absurd (Nat.eq_of_beq_eq_true h) hid
      have hq' : Q (.exit id') S' D' B' L' := by simpa [inB, hb] using hq
      obtain ⟨k', hk', hg⟩ := hA (.exit id') S' D' B' L' T' hle hq' hn' hT'
      have : (id == id') = false := by simp; exact fun h => hid h.symm
      exact ⟨k', by simp [exitTo, this, hk'], hg⟩
  | ret => exact hA .ret S' D' B' L' T' hle hq hn' hT'
  | goto l => exact hA (.goto l) S' D' B' L' T' hle hq hn' hT'
  | panic ch => exact hA (.panic ch) S' D' B' L' T' hle hq hn' hT'
  | outgrown => exact hA .outgrown S' D' B' L' T' hle hq hn' hT'
def rnd {α : Type} (St : α → Env) (Lo : α → List Cells) (Iv : α → Kn → Prop) (μ : α → Nat) (D : List Deferred) (x : α) (Q : Exit → Post4) : Exit → Post4
  | .normal => fun S' D' B' L' => ∃ x', μ x' < μ x ∧ Iv x' B' ∧ Sub (St x') S' ∧ L' = Lo x' ∧ D' = D
  | e => Q e
theorem w_loop {c : Code} {α : Type} (St : α → Env) (Lo : α → List Cells) (Iv : α → Kn → Prop) (μ : α → Nat) (x₀ : α) (hS : Sub (St x₀) S) (hL : L = Lo x₀) (hI : Iv x₀ B)
    (round : ∀ x B', B.le B' → Iv x B' → wpS P n c (rnd St Lo Iv μ D x Q) (St x) D B' (Lo x)) : wpS P n (.loop c) Q S D B L := fun C k T hn hT hA => by
  have key : ∀ m x B' T, μ x = m → B.le B' → Iv x B' → T.size = n → Ag T (St x) → C.X.R (G (fat C.b T D (.code c :: .inLoop c :: k)) C.cs) B' ((Lo x).flatten ++ C.F) := by
    intro m
    induction m using Nat.strongRecOn with
    | _ m ih =>
      intro x B' T hm hle hI hn hT
      refine round x B' hle hI C (.inLoop c :: k) T hn hT fun e S' D' B'' L' T' hle' hq hn' hT' => ?_
      cases e with
      | normal =>
        obtain ⟨x', hlt, hI', hs', rfl, rfl⟩ := hq
        exact C.X.ctl rfl (fun w => st_inLoop) (ih (μ x') (hm ▸ hlt) x' B'' T' rfl (hle.trans hle') hI' hn' (hT'.sub hs'))
      | exit id => exact After.push rfl (by simp) (hA (.exit id) S' D' B'' L' T' (hle.trans hle') hq hn' hT')
      | ret => exact After.push (x := .inLoop c) rfl (by simp) (hA .ret S' D' B'' L' T' (hle.trans hle') hq hn' hT')
      | goto l => exact hA (.goto l) S' D' B'' L' T' (hle.trans hle') hq hn' hT'
      | panic ch => exact hA (.panic ch) S' D' B'' L' T' (hle.trans hle') hq hn' hT'
      | outgrown => exact hA .outgrown S' D' B'' L' T' (hle.trans hle') hq hn' hT'
  subst hL
  exact C.X.ctl rfl (fun w => st_loop) (key _ x₀ B T rfl (Kn.le.refl B) hI hn (hT.sub hS))
theorem Lg.assume {P : PJ} (X : Lg P) {g : Goroutine} {B : Kn} {L : Cells} (hs : g = G g.frame g.callers) (h : (∀ p, p ∈ L → B.mem p.1 = none) → (L.map (·.1)).Nodup → X.R g B L) : X.R g B L := by
  by_cases hw : ∃ w, Sat B L w
  · obtain ⟨w, s⟩ := hw
    exact h s.apart s.nodup
  · exact X.step hs fun w s => absurd ⟨w, s⟩ hw
def Kn.add (B : Kn) (l : Cells) : Kn := ⟨fun b => match B.mem b with | some o => some o | none => (l.find? (fun p => p.1 == b)).map (·.2)⟩
theorem Kn.le_add (B : Kn) (l : Cells) : B.le (B.add l) := fun b o h => by simp [Kn.add, h]
theorem find_of_nodup : ∀ {l : Cells}, (l.map (·.1)).Nodup → ∀ {p : Nat × Obj}, p ∈ l → l.find? (fun q => q.1 == p.1) = some p
  | [], _, _, hp => by cases hp
  | q :: r, hn, p, hp => by
    have hn' := List.nodup_cons.1 hn
    rcases List.mem_cons.1 hp with rfl | hp
    · simp
    · have : q.1 ≠ p.1 := fun e => hn'.1 (List.mem_map.2 ⟨p, hp, e.symm⟩)
      rw [List.find?_cons_of_neg (by simpa using this)]
      exact find_of_nodup hn'.2 hp
theorem Kn.add_mem {B : Kn} {l : Cells} (ha : ∀ p, p ∈ l → B.mem p.1 = none) (hn : (l.map (·.1)).Nodup) {p : Nat × Obj} (hp : p ∈ l) : (B.add l).mem p.1 = some p.2 := by
  simp [Kn.add, ha p hp, find_of_nodup hn hp]
theorem Kn.add_inv {B : Kn} {l : Cells} {b : Nat} {o : Obj} (h : (B.add l).mem b = some o) : B.mem b = some o ∨ (b, o) ∈ l := by
  simp only [Kn.add] at h
  cases hm : B.mem b with
  | some o' => rw [hm] at h; exact .inl h
  | none =>
    rw [hm] at h
    simp only [Option.map_eq_some_iff] at h
    obtain ⟨p, hp, rfl⟩ := h
    have h1 := List.mem_of_find?_eq_some hp
    have h2 := List.find?_some hp
    simp only [beq_iff_eq] at h2
    subst h2
    exact .inr h1
theorem Lg.publish {P : PJ} (X : Lg P) {g : Goroutine} {B : Kn} {L l r : Cells} (hs : g = G g.frame g.callers) (hp : L.Perm (l ++ r))
    (h : ∀ B', B.le B' → (∀ p, p ∈ l → B'.mem p.1 = some p.2) → X.R g B' r) : X.R g B L := by
  refine X.assume hs fun ha hn => ?_
  have hn' : ((l ++ r).map (·.1)).Nodup := (hp.map _).nodup_iff.1 hn
  have hnl : (l.map (·.1)).Nodup := by rw [List.map_append] at hn'; exact (List.nodup_append.1 hn').1
  have hal : ∀ p, p ∈ l → B.mem p.1 = none := fun p hpl => ha p (hp.mem_iff.2 (List.mem_append.2 (.inl hpl)))
  refine X.conv (B' := B.add l) (L' := r) (Kn.le_add B l) (fun w s => ?_) (fun b o hb => ?_) (fun p hpr => ⟨p, hp.mem_iff.2 (List.mem_append.2 (.inr hpr)), rfl⟩) (h _ (Kn.le_add B l) fun p hpl => Kn.add_mem hal hnl hpl)
  · have s' := s.perm hp
    refine ⟨fun b o hb => ?_, fun p hpr => s'.own p (List.mem_append.2 (.inr hpr)), ?_, fun p hpr => ?_⟩
    · rcases Kn.add_inv hb with hb | hb
      · exact s.ro b o hb
      · exact s'.own (b, o) (List.mem_append.2 (.inl hb))
    · have := s'.nodup; rw [List.map_append] at this; exact (List.nodup_append.1 this).2.1
    · cases hm : (B.add l).mem p.1 with
      | none => rfl
      | some o =>
        rcases Kn.add_inv hm with hm | hm
        · rw [s'.apart p (List.mem_append.2 (.inr hpr))] at hm; cases hm
        · have := s'.nodup; rw [List.map_append] at this
          exact absurd rfl ((List.nodup_append.1 this).2.2 _ (List.mem_map.2 ⟨_, hm, rfl⟩) _ (List.mem_map.2 ⟨p, hpr, rfl⟩))
  · rcases Kn.add_inv hb with hb | hb
    · exact .inl (by rw [hb]; rfl)
    · exact .inr ⟨(b, o), hp.mem_iff.2 (List.mem_append.2 (.inl hb)), rfl⟩
theorem set_perm : ∀ {L : List Cells} {i : Nat} {l : Cells} (F : Cells) (l' : Cells), L[i]? = some l → ∃ r, (L.flatten ++ F).Perm (l ++ r) ∧ ((L.set i l').flatten ++ F).Perm (l' ++ r)
  | [], _, _, _, _, h => by simp at h
  | x :: L, 0, l, F, l', h => by
    simp only [List.getElem?_cons_zero, Option.some.injEq] at h
    subst h
    exact ⟨L.flatten ++ F, by simp, by simp⟩
  | x :: L, i + 1, l, F, l', h => by
    obtain ⟨r, h1, h2⟩ := set_perm (L := L) (i := i) F l' (by simpa using h)
    refine ⟨x ++ r, ?_, ?_⟩
    · simp only [List.flatten_cons, List.append_assoc]
      exact (List.Perm.append_left x h1).trans (by simpa using (List.perm_append_comm_assoc x l r))
    · simp only [List.set_cons_succ, List.flatten_cons, List.append_assoc]
      exact (List.Perm.append_left x h2).trans (by simpa using (List.perm_append_comm_assoc x l' r))
theorem w_pub {c : Code} (i : Nat) {l : Cells} (hi : L[i]? = some l) (h : ∀ B', B.le B' → (∀ p, p ∈ l → B'.mem p.1 = some p.2) → wpS P n c Q S D B' (L.set i [])) : wpS P n c Q S D B L := fun C k T hn hT hA => by
  obtain ⟨r, h1, h2⟩ := set_perm C.F [] hi
  exact C.X.publish rfl h1 fun B' hle hm => C.X.perm (by simpa using h2.symm) (h B' hle hm C k T hn hT fun e S' D' B'' L' T' hle' hq => hA e S' D' B'' L' T' (hle.trans hle') hq)
theorem Lg.drop {P : PJ} (X : Lg P) {g : Goroutine} {B : Kn} {L r gl : Cells} (hp : L.Perm (r ++ gl)) (h : X.R g B r) : X.R g B L :=
  X.conv (Kn.le.refl B) (fun w s => by
      have s' := s.perm hp
      exact ⟨s.ro, fun p hpr => s'.own p (List.mem_append.2 (.inl hpr)), by have := s'.nodup; rw [List.map_append] at this; exact (List.nodup_append.1 this).1, fun p hpr => s'.apart p (List.mem_append.2 (.inl hpr))⟩)
    (fun b o hb => .inl (by rw [hb]; rfl)) (fun p hpr => ⟨p, hp.mem_iff.2 (List.mem_append.2 (.inl hpr)), rfl⟩) h
end rules
def putS (S : Env) : Option Tmp → Value → Env
  | some d, v => (d, v) :: S
  | none, _ => S
def dstOk (n : Nat) : Option Tmp → Bool
  | some d => Nat.blt d n
  | none => true
def opW (P : PJ) (n : Nat) (ops : Array Oper) (i : Nat) (o : Oper) (K : Post4) : Post4 := fun S D B L =>
  ∀ (C : Cx P) (todo : List Nat) (k : List Item) (T : Array Value), ops[i]? = some o → T.size = n → Ag T S →
    (∀ S' D' B' L' T', B.le B' → K S' D' B' L' → T'.size = n → Ag T' S' → C.X.R (G (fat C.b T' D' (.inRegion ops todo :: k)) C.cs) B' (L'.flatten ++ C.F)) →
    C.X.R (G (fat C.b T D (.inRegion ops (i :: todo) :: k)) C.cs) B (L.flatten ++ C.F)
abbrev PostV := Value → List Deferred → Kn → List Cells → Prop
def opX (P : PJ) (n : Nat) (ops : Array Oper) (i : Nat) (o : Oper) (K : PostV) (S : Env) (D : List Deferred) (B : Kn) (L : List Cells) : Prop :=
  dstOk n o.dst = true ∧ ∀ (C : Cx P) (todo : List Nat) (k : List Item) (T : Array Value), ops[i]? = some o → T.size = n → Ag T S →
    (∀ v D' B' L', B.le B' → K v D' B' L' → C.X.R (G (fat C.b (putT T o.dst v) D' (.inRegion ops todo :: k)) C.cs) B' (L'.flatten ++ C.F)) →
    C.X.R (G (fat C.b T D (.inRegion ops (i :: todo) :: k)) C.cs) B (L.flatten ++ C.F)
def runW (P : PJ) (n : Nat) (ops : Array Oper) : Nat → List Oper → Post4 → Post4
  | _, [], K => K
  | i, o :: r, K => opW P n ops i o (runW P n ops (i + 1) r K)
theorem runW_sound {P : PJ} {n : Nat} {ops : Array Oper} {K : Post4} : ∀ (l : List Oper) (i : Nat) {S : Env} {D : List Deferred} {B : Kn} {L : List Cells},
    (∀ j, l[j]? = ops[i + j]?) → runW P n ops i l K S D B L → ∀ (C : Cx P) (k : List Item) (T : Array Value), T.size = n → Ag T S →
    (∀ S' D' B' L' T', B.le B' → K S' D' B' L' → T'.size = n → Ag T' S' → C.X.R (G (fat C.b T' D' (.inRegion ops [] :: k)) C.cs) B' (L'.flatten ++ C.F)) →
    C.X.R (G (fat C.b T D (.inRegion ops (List.range' i l.length) :: k)) C.cs) B (L.flatten ++ C.F)
  | [], i, S, D, B, L, _, h, C, k, T, hn, hT, hA => hA S D B L T (Kn.le.refl B) h hn hT
  | o :: l, i, S, D, B, L, hl, h, C, k, T, hn, hT, hA => by
    simp only [List.length_cons, List.range'_succ]
    refine h C _ k T (by simpa using (hl 0).symm) hn hT fun S' D' B' L' T' hle hK hn' hT' => ?_
    exact runW_sound l (i + 1) (fun j => by have := hl (j + 1); simpa [Nat.add_assoc, Nat.add_comm 1 j] using this) hK C k T' hn' hT'
      fun S₂ D₂ B₂ L₂ T₂ hle₂ hK₂ => hA S₂ D₂ B₂ L₂ T₂ (hle.trans hle₂) hK₂
section
variable {P : PJ} {n : Nat} {Q : Exit → Post4} {S : Env} {D : List Deferred} {B : Kn} {L : List Cells}
theorem w_region {id : Nat} {l : List Oper} (h : runW P n l.toArray 0 l (Q .normal) S D B L) : wpS P n (.region id l.toArray false) Q S D B L := fun C k T hn hT hA => by
  refine C.X.ctl rfl (fun w => st_region) ?_
  rw [List.size_toArray, List.range_eq_range']
  exact runW_sound l 0 (fun j => by simp) h C k T hn hT fun S' D' B' L' T' hle hq hn' hT' =>
    C.X.ctl rfl (fun w => st_region_end) (hA .normal S' D' B' L' T' hle hq hn' hT')
theorem wSR {id : Nat} {l : List Oper} {y : Code} (h : runW P n l.toArray 0 l (wpS P n y Q) S D B L) : wpS P n (.seq (.region id l.toArray false) y) Q S D B L :=
  w_seq (w_region h)
end
def guardOk (ops : Array Oper) (S : Env) : Option (Nat × Bool) → Option Bool
  | none => some true
  | some (j, want) => match ops[j]? with
    | some oj => match oj.dst with
      | some d => match get S d with
        | some (.bool b) => some (b == want)
        | some (.tuple _) => some false
        | _ => none
      | none => none
    | none => none
theorem guardOk_wanted {ops : Array Oper} {T : Array Value} {S : Env} (hT : Ag T S) {o : Oper} {t : Bool} (h : guardOk ops S o.guard = some t) : Region.wanted o (yielded ops T) = t := by
  cases hg : o.guard with
  | none => rw [hg] at h; simp only [guardOk, Option.some.injEq] at h; simp [Region.wanted, hg, ← h]
  | some p =>
    obtain ⟨j, want⟩ := p
    rw [hg] at h
    simp only [guardOk] at h
    split at h
    · rename_i oj hj
      split at h
      · rename_i d hd
        split at h
        · rename_i b hb
          simp only [Option.some.injEq] at h
          have := hT _ _ hb
          simp [Region.wanted, hg, yielded, hj, hd, this, ← h]
        · rename_i b hb
          simp only [Option.some.injEq] at h
          have := hT _ _ hb
          simp [Region.wanted, hg, yielded, hj, hd, this, ← h]
        · cases h
      · cases h
    · cases h
theorem Ag.putT {T : Array Value} {S : Env} (h : Ag T S) {n : Nat} (hn : T.size = n) {dst : Option Tmp} (hd : dstOk n dst = true) (v : Value) : Ag (putT T dst v) (putS S dst v) := by
  cases dst with
  | none => exact h
  | some d => exact h.put (by rw [hn]; simpa [dstOk] using hd) v
theorem seen_fold {e : Event} {f : Bool × Array Event → Event → Bool × Array Event} (hf : ∀ x a, (f x a).2 = x.2 ∨ (f x a).2 = x.2.push a) : ∀ (l : List Event) (x : Bool × Array Event), e ∈ (l.foldl f x).2 → e ∈ x.2 ∨ e ∈ l
  | [], x, h => .inl h
  | a :: l, x, h => by
    rcases seen_fold hf l _ h with h | h
    · rcases hf x a with e1 | e1
      · rw [e1] at h; exact .inl h
      · rw [e1] at h
        rcases Array.mem_push.1 h with h | h
        · exact .inl h
        · exact .inr (h ▸ List.mem_cons_self ..)
    · exact .inr (List.mem_cons_of_mem _ h)
theorem seen_mem {P : Program} {fn : FuncId} {es : Array Event} {e : Event} (h : e ∈ seen P fn es) : e ∈ es := by
  dsimp only [seen] at h
  rw [← Array.foldl_toList] at h
  refine seen_fold (fun x a => ?_) es.toList _ h |>.elim (fun h => by simp at h) (fun h => Array.mem_toList_iff.1 h)
  obtain ⟨q, kept⟩ := x
  dsimp only
  split
  · exact .inl rfl
  · dsimp only
    split
    · exact .inl rfl
    · exact .inr rfl
def Sup (a b : Cells) : Prop := ∃ gl, a.Perm (b ++ gl)
theorem Sup.of {a b : Cells} (h : a.Perm b) : Sup a b := ⟨[], by rw [List.append_nil]; exact h⟩
def yields (P : PJ) (n : Nat) (o : Oper) (K : PostV) (S : Env) (D : List Deferred) (F : Cells) : Next → Kn → Cells → Prop
  | .value v, B', L' => ∃ LL : List Cells, Sup L' (LL.flatten ++ F) ∧ K v D B' LL
  | .skip, B', L' => ∃ LL : List Cells, Sup L' (LL.flatten ++ F) ∧ K undef D B' LL
  | _, _, _ => False
section
variable {P : PJ} {n : Nat} {ops : Array Oper} {i : Nat} {o : Oper} {K : PostV} {S : Env} {D : List Deferred} {B : Kn} {L : List Cells}
theorem run_of_runT {α : Type} {s : Sem α} {w : World} {r : Result α} {es : Array Event} (h : s.runT P w #[] = (r, es)) : s.run P w = r ∧ s.events P w #[] = es := by
  refine ⟨?_, ?_⟩
  · rw [← Sem.runT_fst P s w #[], h]
  · show (s.runT P w #[]).2 = es; rw [h]
theorem apply_value {fr : Frame} {cs : List Frame} {s : Sem Next} {w w' : World} {v : Value} {es : Array Event} (hk : fr.kind ≠ .early) (h : s.runT P w #[] = (.ok (.value v) w', es)) :
    stepG.apply P true fr cs none s w = .go (G (fr.finish v) cs) w' (seen P fr.fn es) := by
  have hk' : (fr.kind == CallKind.early) = false := by simpa using hk
  obtain ⟨hr, he⟩ := run_of_runT h
  rw [← he]
  simp [stepG.apply, hr, hk', GStep.after, G]
theorem apply_skip {fr : Frame} {cs : List Frame} {s : Sem Next} {w w' : World} {es : Array Event} (hk : fr.kind ≠ .early) (h : s.runT P w #[] = (.ok .skip w', es)) :
    stepG.apply P true fr cs none s w = .go (G (fr.finish undef) cs) w' (seen P fr.fn es) := by
  have hk' : (fr.kind == CallKind.early) = false := by simpa using hk
  obtain ⟨hr, he⟩ := run_of_runT h
  rw [← he]
  simp [stepG.apply, hr, hk', GStep.after, G]
theorem apply_enter {fr : Frame} {cs : List Frame} {s : Sem Next} {w w' : World} {f : FuncId} {args : Array Value} {es : Array Event} (hk : fr.kind ≠ .early) (ht : ∀ a b c d r, fr.todo ≠ .call a b c d :: r) (h : s.runT P w #[] = (.ok (.enter f args) w', es)) :
    stepG.apply P true fr cs none s w = .go (G (Frame.enter P f args .normal) (fr :: cs)) w' (seen P fr.fn es) := by
  have hk' : (fr.kind == CallKind.early) = false := by simpa using hk
  obtain ⟨hr, he⟩ := run_of_runT h
  rw [← he]
  have hkd : (match fr.todo with | .call _ true _ _ :: _ => CallKind.wrapped | _ => .normal) = .normal := by
    split
    · rename_i h'; exact absurd h' (ht _ _ _ _ _)
    · rfl
  simp [stepG.apply, hr, hk', GStep.after, G]
  exact congrArg (Frame.enter P f args) hkd
theorem opX_hb (hg : guardOk ops S o.guard = some true) (hd : dstOk n o.dst = true)
    (h : ∀ (ρ : Operand → Value), (∀ x v, ev S x = some v → ρ x = v) → ∀ F : Cells, hb P (execOp ρ o) (yields P n o K S D F) B (L.flatten ++ F)) (hnd : isDefer o.op = false := by rfl) : opX P n ops i o K S D B L := ⟨hd, fun C todo k T ho hn hT hA => by
  refine C.X.step rfl fun w s => ?_
  obtain ⟨a, w', es, B', L', h1, h2, h3, h4⟩ := hb_sound _ _ _ _ (h (evT T) (fun x v hx => ev_evT hT hx) C.F) w #[] s
  simp only [Array.empty_append] at h1
  rw [st_oper hnd ho (guardOk_wanted hT hg)]
  have hk : (fat C.b T D (.inRegion ops (i :: todo) :: k)).kind ≠ .early := C.early
  cases a with
  | value v =>
    obtain ⟨LL, ⟨gl, hp⟩, hK⟩ := h4
    refine ⟨_, w', _, B', L', apply_value hk h1, fun e he => h2 e (seen_mem he), h3, ?_⟩
    rw [fat_finish ho]
    exact C.X.drop hp (hA v D B' LL h3.le hK)
  | skip =>
    obtain ⟨LL, ⟨gl, hp⟩, hK⟩ := h4
    refine ⟨_, w', _, B', L', apply_skip hk h1, fun e he => h2 e (seen_mem he), h3, ?_⟩
    rw [fat_finish ho]
    exact C.X.drop hp (hA undef D B' LL h3.le hK)
  | _ => exact h4.elim⟩
theorem w_pass {dst : Option Tmp} {op : Op} {t : TypeId} {pos : String} {after : Array Edge} {g : Option (Nat × Bool)} (hg : guardOk ops S g = some false) (hd : dstOk n dst = true) (h : K undef D B L) : opX P n ops i ⟨dst, op, t, pos, after, g⟩ K S D B L := ⟨hd, fun C todo k T ho hn hT hA => by
  refine C.X.ctl rfl (fun w => st_skipped ho (guardOk_wanted (o := ⟨dst, op, t, pos, after, g⟩) hT hg)) ?_
  exact hA undef D B L (Kn.le.refl B) h⟩
theorem oX {K : Post4} (h : opX P n ops i o (fun v D' B' L' => K (putS S o.dst v) D' B' L') S D B L) : opW P n ops i o K S D B L := fun C todo k T ho hn hT hA =>
  h.2 C todo k T ho hn hT fun v D' B' L' hle hK => hA _ D' B' L' _ hle hK (by rw [putT_size, hn]) (hT.putT hn h.1 v)
end
end Go.BL
namespace Go.BL
set_option linter.unusedVariables false
set_option linter.unusedSimpArgs false
set_option linter.unusedSectionVars false
section
variable {K : Post4} {Q : Exit → Post4} {S : Env} {D : List Deferred} {B : Kn} {L : List Cells} {id id' : Nat}
theorem thn_n (h : K S D B L) : thn K Q .normal S D B L := h
theorem thn_r (h : Q .ret S D B L) : thn K Q .ret S D B L := h
theorem thn_x (h : Q (.exit id) S D B L) : thn K Q (.exit id) S D B L := h
theorem inB_n (h : Q .normal S D B L) : inB id Q .normal S D B L := h
theorem inB_r (h : Q .ret S D B L) : inB id Q .ret S D B L := h
theorem inB_hit (h : Q .normal S D B L) : inB id Q (.exit id) S D B L := by simpa [inB] using h
theorem rnd_r {α : Type} {St : α → Env} {Lo : α → List Cells} {Iv : α → Kn → Prop} {μ : α → Nat} {D' : List Deferred} {x : α} (h : Q .ret S D B L) : rnd St Lo Iv μ D' x Q .ret S D B L := h
theorem rnd_x {α : Type} {St : α → Env} {Lo : α → List Cells} {Iv : α → Kn → Prop} {μ : α → Nat} {D' : List Deferred} {x : α} (h : Q (.exit id) S D B L) : rnd St Lo Iv μ D' x Q (.exit id) S D B L := h
theorem rnd_n {α : Type} {St : α → Env} {Lo : α → List Cells} {Iv : α → Kn → Prop} {μ : α → Nat} {x : α} (x' : α) (hm : μ x' < μ x) (hi : Iv x' B) (hs : Sub (St x') S) (hl : L = Lo x') : rnd St Lo Iv μ D x Q .normal S D B L := ⟨x', hm, hi, hs, hl, rfl⟩
theorem wTd {P : PJ} {n : Nat} {c : Code} (S' : Env) (L' : List Cells) (hs : Sub S' S) (hl : L = L') (h : wpS P n c Q S' D B L') : wpS P n c Q S D B L := by subst hl; exact wKp S' hs h
end
end Go.BL
namespace Go.BL
set_option linter.unusedVariables false
set_option linter.unusedSimpArgs false
set_option linter.unusedSectionVars false
open Go.Conc (G)
set_option linter.unusedVariables false
@[reducible] def str (l : List UInt8) : Value := .string ⟨l.toArray⟩
@[reducible] def int (x : Int) : Value := .int .i64 x
@[reducible] def box1 (b : Nat) (l : List Value) (T : TypeId) : Cells := [(b, .cells l.toArray T (0, 0))]
@[reducible] def ptr (a : Addr) : Value := .pointer (some a)
def lk (P : Program) (t : TypeId) : Option (Option Nat) :=
  match P.underlying t, P.info? t with
  | some (.struct _), some i => some (some i.size)
  | some (.array _ _), some i => some (some i.size)
  | some _, some _ => some none
  | _, _ => none
def zeroOf (P : Program) (t : TypeId) : Option Value := (P.info? t).bind (·.zero)
def sizeIs (P : Program) (t : TypeId) : Option Nat := (P.info? t).map (·.size)
def fieldOff (P : Program) (s : TypeId) (i : Nat) : Option Nat :=
  match P.underlying s with
  | some (.struct fs) => match fs[i]? with
    | some f => match P.info? f.type with
      | some j => if j.size = 0 then none else some f.offset
      | none => none
    | none => none
  | _ => none
section
variable {P : Program} {α : Type} {Q : α → Kn → Cells → Prop} {B : Kn} {L : Cells}
theorem hb_program {Q : Program → Kn → Cells → Prop} : hb P program Q B L = Q P B L := rfl
theorem hb_underlying {Q : TypeDesc → Kn → Cells → Prop} {t : TypeId} {d : TypeDesc} (h : P.underlying t = some d) : hb P (underlying t) Q B L = Q d B L := by
  simp only [underlying, hb_bind, hb_program, h, hb_pure]
theorem hb_typeInfo {Q : TypeInfo → Kn → Cells → Prop} {t : TypeId} {i : TypeInfo} (h : P.info? t = some i) : hb P (typeInfo t) Q B L = Q i B L := by
  simp only [typeInfo, hb_bind, hb_program, h, hb_pure]
theorem hb_zeroValue {Q : Value → Kn → Cells → Prop} {t : TypeId} {v : Value} (h : zeroOf P t = some v) : hb P (zeroValue t) Q B L = Q v B L := by
  simp only [zeroOf, Option.bind_eq_some_iff] at h
  obtain ⟨i, hi, hz⟩ := h
  simp only [zeroValue, hb_bind, hb_typeInfo hi, hz, hb_pure]
theorem hb_sizeOf {Q : Nat → Kn → Cells → Prop} {t : TypeId} {n : Nat} (h : sizeIs P t = some n) : hb P (sizeOf t) Q B L = Q n B L := by
  simp only [sizeIs, Option.map_eq_some_iff] at h
  obtain ⟨i, hi, rfl⟩ := h
  simp only [sizeOf, hb_bind, hb_typeInfo hi, hb_pure]
theorem lk_none {t : TypeId} (h : lk P t = some none) {Q : Bool → Kn → Cells → Prop} : hb P (isAgg t) Q B L = Q false B L := by
  unfold lk at h
  cases hd : P.underlying t with
  | none => rw [hd] at h; cases P.info? t <;> cases h
  | some d =>
    rw [hd] at h
    rw [isAgg, hb_bind, hb_underlying hd]
    cases hi : P.info? t with
    | none => rw [hi] at h; cases d <;> cases h
    | some i => rw [hi] at h; cases d <;> first | rfl | cases h
theorem lk_some {t : TypeId} {n : Nat} (h : lk P t = some (some n)) {Q : Bool → Kn → Cells → Prop} : hb P (isAgg t) Q B L = Q true B L ∧ sizeIs P t = some n := by
  unfold lk at h
  split at h
  · rename_i fs i hd hi; simp only [Option.some.injEq] at h; exact ⟨by rw [isAgg, hb_bind, hb_underlying hd]; rfl, by simp [sizeIs, hi, h]⟩
  · rename_i a e i hd hi; simp only [Option.some.injEq] at h; exact ⟨by rw [isAgg, hb_bind, hb_underlying hd]; rfl, by simp [sizeIs, hi, h]⟩
  · cases h
  · cases h
theorem hb_load {Q : Value → Kn → Cells → Prop} {a : Addr} {v : Value} (hc : CellAt B L a v) (h : Q v B L) : hb P (load a) Q B L := ⟨rfl, v, hc, h⟩
theorem hb_loadCellsFrom {Q : Array Value → Kn → Cells → Prop} {a : Addr} : ∀ (vs : List Value) (i : Nat) (acc : Array Value), (∀ j v, vs[j]? = some v → CellAt B L (a.add (i + j)) v) → Q (acc ++ vs.toArray) B L →
    hb P (loadCellsFrom a i vs.length acc) Q B L
  | [], i, acc, _, h => by simp only [List.length_nil, loadCellsFrom, hb_pure]; simpa using h
  | v :: vs, i, acc, hc, h => by
    simp only [List.length_cons, loadCellsFrom, hb_bind]
    refine hb_load (hc 0 v (by simp)) ?_
    refine hb_loadCellsFrom vs (i + 1) (acc.push v) (fun j u hj => by have := hc (j + 1) u (by simpa using hj); rwa [show i + (j + 1) = i + 1 + j from by omega] at this) ?_
    simpa using h
theorem hb_loadVar1 {Q : Value → Kn → Cells → Prop} {t : TypeId} {a : Addr} {v : Value} (hl : lk P t = some none) (hc : CellAt B L a v) (h : Q v B L) : hb P (loadVar t a) Q B L := by
  simp only [loadVar, hb_bind, lk_none hl]
  exact hb_load hc h
theorem hb_loadVarN {Q : Value → Kn → Cells → Prop} {t : TypeId} {a : Addr} {vs : List Value} (hl : lk P t = some (some vs.length)) (hc : ∀ j v, vs[j]? = some v → CellAt B L (a.add j) v) (h : Q (.agg vs.toArray) B L) : hb P (loadVar t a) Q B L := by
  simp only [loadVar, hb_bind, (lk_some hl).1, if_true, hb_sizeOf (lk_some (L := L) (B := B) (Q := fun _ _ _ => True) hl).2, loadCells]
  refine hb_loadCellsFrom vs 0 #[] (fun j v hj => by simpa using hc j v hj) ?_
  simp only [hb_pure]
  simpa using h
def setAt : List Value → Nat → List Value → List Value
  | l, _, [] => l
  | [], _, _ => []
  | _ :: l, 0, v :: vs => v :: setAt l 0 vs
  | x :: l, i + 1, vs => x :: setAt l i vs
theorem setAt_nil (l : List Value) (i : Nat) : setAt l i [] = l := by cases l <;> cases i <;> rfl
theorem setAt_cons : ∀ (l : List Value) (i : Nat) (v : Value) (vs : List Value), setAt l i (v :: vs) = setAt (l.set i v) (i + 1) vs
  | [], i, v, vs => by cases i <;> cases vs <;> rfl
  | x :: l, 0, v, vs => by
    cases vs with
    | nil => simp [setAt, setAt_nil]
    | cons u us => simp [setAt]
  | x :: l, i + 1, v, vs => by
    simp only [setAt, List.set_cons_succ]
    cases vs with
    | nil => simp [setAt_nil, setAt_cons l i v []]
    | cons u us => simp only [setAt]; rw [setAt_cons l i v (u :: us)]
theorem oneC_all_cons {v : Value} {vs : List Value} (h : (v :: vs).all oneC = true) : oneC v = true ∧ vs.all oneC = true := by simpa using h
theorem hb_storeCells {Q : Unit → Kn → Cells → Prop} {a : Addr} (ha : a.spot = none) {T : TypeId} {L₁ : Cells} : ∀ (vs : List Value) (i : Nat) (l : List Value) (L : Cells), vs.all oneC = true → L.Perm ((a.block, .cells l.toArray T (0, 0)) :: L₁) → a.off + i + vs.length ≤ l.length →
    (∀ L', L'.Perm ((a.block, .cells (setAt l (a.off + i) vs).toArray T (0, 0)) :: L₁) → Q () B L') → hb P (storeCells a vs i) Q B L
  | [], i, l, L, _, hp, _, h => by
    simp only [storeCells, hb_pure]
    exact h L (by rw [setAt_nil]; exact hp)
  | v :: vs, i, l, L, h1, hp, hlen, h => by
    simp only [storeCells, hb_bind]
    have hoff : (a.add i).off = a.off + i := by unfold Addr.add; split <;> simp_all
    have hbl : (a.add i).block = a.block := by unfold Addr.add; split <;> rfl
    have hsp : (a.add i).spot = none := by unfold Addr.add; split <;> simp_all
    obtain ⟨hv, hvs⟩ := oneC_all_cons h1
    refine ⟨rfl, hv, hsp, l.toArray, T, (0, 0), L₁, by rw [hbl]; exact hp, by rw [hoff]; simp only [List.size_toArray]; simp only [List.length_cons] at hlen; omega, by simp, ?_⟩
    rw [hb_spure]
    refine hb_storeCells (T := T) (L₁ := L₁) ha vs (i + 1) (l.set (a.off + i) v) _ hvs (by rw [hbl, hoff]; simp) (by simp only [List.length_set]; simp only [List.length_cons] at hlen; omega) fun L' hp' => h L' ?_
    rw [setAt_cons, Nat.add_assoc]
    exact hp'
end
@[reducible] def At (B : Kn) (L : List Cells) (a : Addr) (v : Value) : Prop := CellAt B L.flatten a v
theorem CellAt.app {B : Kn} {L F : Cells} {a : Addr} {v : Value} (h : CellAt B L a v) : CellAt B (L ++ F) a v :=
  let ⟨h1, cs, T, fr, h2, h3⟩ := h; ⟨h1, cs, T, fr, h2.imp id fun x => List.mem_append.2 (.inl x), h3⟩
theorem atL {B : Kn} {L : List Cells} {a : Addr} {v : Value} {l : List Value} {T : TypeId} {fr : Nat × Nat} {r : Cells} (j : Nat) (hj : L[j]? = some ((a.block, .cells l.toArray T fr) :: r)) (hs : a.spot = none) (hv : l[a.off]? = some v) : At B L a v :=
  ⟨hs, l.toArray, T, fr, .inr (List.mem_flatten.2 ⟨_, List.mem_of_getElem? hj, List.mem_cons_self ..⟩), by simpa using hv⟩
@[reducible] def RowAt (B : Kn) (L : List Cells) (a : Addr) (vs : List Value) : Prop := ∀ j v, vs[j]? = some v → At B L (a.add j) v
theorem Addr.add_off (a : Addr) (i : Nat) (h : a.spot = none) : a.add i = ⟨a.block, a.off + i, none⟩ := by
  unfold Addr.add; split
  · subst_vars; cases a; simp_all
  · rfl
theorem rowL {B : Kn} {L : List Cells} {a : Addr} {l vs : List Value} {T : TypeId} {fr : Nat × Nat} {r : Cells} (j : Nat) (hj : L[j]? = some ((a.block, .cells l.toArray T fr) :: r)) (hs : a.spot = none) (hv : (l.drop a.off).take vs.length = vs) : RowAt B L a vs := by
  intro i v hi
  rw [Addr.add_off a i hs]
  refine ⟨rfl, l.toArray, T, fr, .inr (List.mem_flatten.2 ⟨_, List.mem_of_getElem? hj, List.mem_cons_self ..⟩), ?_⟩
  have : vs[i]? = l[a.off + i]? := by
    rw [← hv]
    have hlt : i < vs.length := by
      rcases Nat.lt_or_ge i vs.length with h | h
      · exact h
      · rw [List.getElem?_eq_none h] at hi; cases hi
    rw [List.getElem?_take, if_pos hlt, List.getElem?_drop]
  simpa [this] using hi
section
variable {P : PJ} {n : Nat} {ops : Array Oper} {i : Nat} {K : PostV} {S : Env} {D : List Deferred} {B : Kn} {L : List Cells}
variable {dst : Option Tmp} {ty : TypeId} {pos : String} {after : Array Edge} {g : Option (Nat × Bool)}
theorem opX_pure {op : Op} {v : Value} (hg : guardOk ops S g = some true) (hd : dstOk n dst = true)
    (hv : ∀ ρ : Operand → Value, (∀ x u, ev S x = some u → ρ x = u) → ∀ (Q : Next → Kn → Cells → Prop) F, Q (.value v) B (L.flatten ++ F) → hb P (execOp ρ ⟨dst, op, ty, pos, after, g⟩) Q B (L.flatten ++ F))
    (h : K v D B L) (hnd : isDefer op = false := by rfl) : opX P n ops i ⟨dst, op, ty, pos, after, g⟩ K S D B L :=
  opX_hb hg hd (fun ρ hρ F => hv ρ hρ _ F ⟨L, .of (.refl _), h⟩) hnd
theorem w_move {x : Operand} {v : Value} (hg : guardOk ops S g = some true) (hd : dstOk n dst = true) (hx : ev S x = some v) (h : K v D B L) : opX P n ops i ⟨dst, .move x, ty, pos, after, g⟩ K S D B L :=
  opX_pure hg hd (fun ρ hρ Q F q => by show Q (.value (ρ x)) _ _; rw [hρ x v hx]; exact q) h
theorem w_assign {x : Operand} {v : Value} (hg : guardOk ops S g = some true) (hd : dstOk n dst = true) (hx : ev S x = some v) (h : K v D B L) : opX P n ops i ⟨dst, .assign x, ty, pos, after, g⟩ K S D B L :=
  opX_pure hg hd (fun ρ hρ Q F q => by show Q (.value (ρ x)) _ _; rw [hρ x v hx]; exact q) h
theorem w_pickT {c a b : Operand} {v : Value} (hg : guardOk ops S g = some true) (hd : dstOk n dst = true) (hc : ev S c = some (.bool true)) (hx : ev S a = some v) (h : K v D B L) : opX P n ops i ⟨dst, .pick c a b, ty, pos, after, g⟩ K S D B L :=
  opX_pure hg hd (fun ρ hρ Q F q => by simp only [execOp, hρ c _ hc, asBool, hb_bind, hb_pure, if_true, hρ a _ hx]; exact q) h
theorem w_pickF {c a b : Operand} {v : Value} (hg : guardOk ops S g = some true) (hd : dstOk n dst = true) (hc : ev S c = some (.bool false)) (hx : ev S b = some v) (h : K v D B L) : opX P n ops i ⟨dst, .pick c a b, ty, pos, after, g⟩ K S D B L :=
  opX_pure hg hd (fun ρ hρ Q F q => by simp only [execOp, hρ c _ hc, asBool, hb_bind, hb_pure, if_false, Bool.false_eq_true, hρ b _ hx]; exact q) h
theorem w_extract {x : Operand} {ix : Nat} {vs : List Value} {v : Value} (hg : guardOk ops S g = some true) (hd : dstOk n dst = true) (hx : ev S x = some (.tuple vs.toArray)) (hi : vs[ix]? = some v) (h : K v D B L) : opX P n ops i ⟨dst, .extract x ix, ty, pos, after, g⟩ K S D B L :=
  opX_pure hg hd (fun ρ hρ Q F q => by simp only [execOp, Instr.extract, hρ x _ hx, List.getElem?_toArray, hi, hb_bind, hb_pure]; exact q) h
theorem w_not {x : Operand} {b : Bool} {t : TypeId} (hg : guardOk ops S g = some true) (hd : dstOk n dst = true) (hx : ev S x = some (.bool b)) (h : K (.bool (!b)) D B L) : opX P n ops i ⟨dst, .unOp .not t x, ty, pos, after, g⟩ K S D B L :=
  opX_pure hg hd (fun ρ hρ Q F q => by simp only [execOp, hρ x _ hx, Op.unary, hb_bind, hb_pure]; exact q) h
theorem w_nilCheck {x : Operand} {a : Addr} (hg : guardOk ops S g = some true) (hd : dstOk n dst = true) (hx : ev S x = some (.pointer (some a))) (h : K (.pointer (some a)) D B L) : opX P n ops i ⟨dst, .nilCheck x, ty, pos, after, g⟩ K S D B L :=
  opX_pure hg hd (fun ρ hρ Q F q => by simp only [execOp, hρ x _ hx, hb_pure]; exact q) h
theorem hb_eqGuard {op : BinOp} {t : TypeId} {x y : Operand} {a b : Value} {Q : Unit → Kn → Cells → Prop} {L : Cells} (ha : (match a, b with | .nilIface, .nilIface => false | .agg _, .agg _ => false | _, _ => true) = true) : hb P (eqGuard op t x y a b) Q B L = Q () B L := by
  unfold eqGuard
  cases a <;> cases b <;> simp only [Bool.false_eq_true] at ha <;> cases op <;> rfl
section binary
variable {t u : TypeId} {x y : Operand} {k : IntKind} {a b r : Int}
theorem w_arith {op : BinOp} (hg : guardOk ops S g = some true) (hd : dstOk n dst = true) (hx : ev S x = some (.int k a)) (hy : ev S y = some (.int k b))
    (hr : (match op with | .add => some (k.wrap (a + b)) | .sub => some (k.wrap (a - b)) | .mul => some (k.wrap (a * b)) | _ => none) = some r) (h : K (.int k r) D B L) : opX P n ops i ⟨dst, .binOp op t x y u, ty, pos, after, g⟩ K S D B L :=
  opX_pure hg hd (fun ρ hρ Q F q => by
    cases op <;> simp only [Option.some.injEq, reduceCtorEq] at hr <;> subst hr <;>
      (simp only [execOp, hρ x _ hx, hρ y _ hy, hb_bind, hb_eqGuard, binOp, ne_eq, not_true_eq_false, if_false, Op.intArith, hb_pure]; exact q)) h
theorem w_add (hg : guardOk ops S g = some true) (hd : dstOk n dst = true) (hx : ev S x = some (.int k a)) (hy : ev S y = some (.int k b)) (hr : k.wrap (a + b) = r) (h : K (.int k r) D B L) : opX P n ops i ⟨dst, .binOp .add t x y u, ty, pos, after, g⟩ K S D B L :=
  w_arith hg hd hx hy (by rw [hr]) h
theorem w_sub (hg : guardOk ops S g = some true) (hd : dstOk n dst = true) (hx : ev S x = some (.int k a)) (hy : ev S y = some (.int k b)) (hr : k.wrap (a - b) = r) (h : K (.int k r) D B L) : opX P n ops i ⟨dst, .binOp .sub t x y u, ty, pos, after, g⟩ K S D B L :=
  w_arith hg hd hx hy (by rw [hr]) h
theorem w_mul (hg : guardOk ops S g = some true) (hd : dstOk n dst = true) (hx : ev S x = some (.int k a)) (hy : ev S y = some (.int k b)) (hr : k.wrap (a * b) = r) (h : K (.int k r) D B L) : opX P n ops i ⟨dst, .binOp .mul t x y u, ty, pos, after, g⟩ K S D B L :=
  w_arith hg hd hx hy (by rw [hr]) h
theorem w_quo (hg : guardOk ops S g = some true) (hd : dstOk n dst = true) (hx : ev S x = some (.int k a)) (hy : ev S y = some (.int k b)) (h0 : b ≠ 0) (hr : k.wrap (a.tdiv b) = r) (h : K (.int k r) D B L) : opX P n ops i ⟨dst, .binOp .quo t x y u, ty, pos, after, g⟩ K S D B L :=
  opX_pure hg hd (fun ρ hρ Q F q => by
    simp only [execOp, hρ x _ hx, hρ y _ hy, hb_bind, hb_eqGuard, binOp, ne_eq, not_true_eq_false, if_false, Op.intDiv, h0, hb_pure, hr]; exact q) h
theorem w_rem (hg : guardOk ops S g = some true) (hd : dstOk n dst = true) (hx : ev S x = some (.int k a)) (hy : ev S y = some (.int k b)) (h0 : b ≠ 0) (hr : a.tmod b = r) (h : K (.int k r) D B L) : opX P n ops i ⟨dst, .binOp .rem t x y u, ty, pos, after, g⟩ K S D B L :=
  opX_pure hg hd (fun ρ hρ Q F q => by
    simp only [execOp, hρ x _ hx, hρ y _ hy, hb_bind, hb_eqGuard, binOp, ne_eq, not_true_eq_false, if_false, Op.intDiv, h0, hb_pure, hr]; exact q) h
theorem w_lss (hg : guardOk ops S g = some true) (hd : dstOk n dst = true) (hx : ev S x = some (.int k a)) (hy : ev S y = some (.int k b)) (h : K (.bool (decide (a < b))) D B L) : opX P n ops i ⟨dst, .binOp .lss t x y u, ty, pos, after, g⟩ K S D B L :=
  opX_pure hg hd (fun ρ hρ Q F q => by simp only [execOp, hρ x _ hx, hρ y _ hy, hb_bind, hb_eqGuard, binOp, ne_eq, not_true_eq_false, if_false, Op.intCmp, hb_pure]; exact q) h
theorem w_leq (hg : guardOk ops S g = some true) (hd : dstOk n dst = true) (hx : ev S x = some (.int k a)) (hy : ev S y = some (.int k b)) (h : K (.bool (decide (a ≤ b))) D B L) : opX P n ops i ⟨dst, .binOp .leq t x y u, ty, pos, after, g⟩ K S D B L :=
  opX_pure hg hd (fun ρ hρ Q F q => by simp only [execOp, hρ x _ hx, hρ y _ hy, hb_bind, hb_eqGuard, binOp, ne_eq, not_true_eq_false, if_false, Op.intCmp, hb_pure]; exact q) h
theorem w_gtr (hg : guardOk ops S g = some true) (hd : dstOk n dst = true) (hx : ev S x = some (.int k a)) (hy : ev S y = some (.int k b)) (h : K (.bool (decide (b < a))) D B L) : opX P n ops i ⟨dst, .binOp .gtr t x y u, ty, pos, after, g⟩ K S D B L :=
  opX_pure hg hd (fun ρ hρ Q F q => by simp only [execOp, hρ x _ hx, hρ y _ hy, hb_bind, hb_eqGuard, binOp, ne_eq, not_true_eq_false, if_false, Op.intCmp, hb_pure]; exact q) h
theorem w_geq (hg : guardOk ops S g = some true) (hd : dstOk n dst = true) (hx : ev S x = some (.int k a)) (hy : ev S y = some (.int k b)) (h : K (.bool (decide (b ≤ a))) D B L) : opX P n ops i ⟨dst, .binOp .geq t x y u, ty, pos, after, g⟩ K S D B L :=
  opX_pure hg hd (fun ρ hρ Q F q => by simp only [execOp, hρ x _ hx, hρ y _ hy, hb_bind, hb_eqGuard, binOp, ne_eq, not_true_eq_false, if_false, Op.intCmp, hb_pure]; exact q) h
theorem w_eqlI (hg : guardOk ops S g = some true) (hd : dstOk n dst = true) (hx : ev S x = some (.int k a)) (hy : ev S y = some (.int k b)) (h : K (.bool (decide (a = b))) D B L) : opX P n ops i ⟨dst, .binOp .eql t x y u, ty, pos, after, g⟩ K S D B L :=
  opX_pure hg hd (fun ρ hρ Q F q => by
    have e : (a == b) = decide (a = b) := by rw [Bool.eq_iff_iff]; simp
    simp only [execOp, hρ x _ hx, hρ y _ hy, hb_bind, hb_eqGuard, binOp, ne_eq, not_true_eq_false, if_false, Op.intCmp, hb_pure, e]; exact q) h
theorem w_neqI (hg : guardOk ops S g = some true) (hd : dstOk n dst = true) (hx : ev S x = some (.int k a)) (hy : ev S y = some (.int k b)) (h : K (.bool (decide (a ≠ b))) D B L) : opX P n ops i ⟨dst, .binOp .neq t x y u, ty, pos, after, g⟩ K S D B L :=
  opX_pure hg hd (fun ρ hρ Q F q => by
    have e : (a != b) = decide (a ≠ b) := by rw [Bool.eq_iff_iff]; simp
    simp only [execOp, hρ x _ hx, hρ y _ hy, hb_bind, hb_eqGuard, binOp, not_true_eq_false, ne_eq, if_false, Op.intCmp, hb_pure, e]; exact q) h
end binary
end
end Go.BL
namespace Go.BL
set_option linter.unusedVariables false
set_option linter.unusedSimpArgs false
set_option linter.unusedSectionVars false
open Go.Conc (G)
set_option linter.unusedVariables false
section
variable {P : PJ} {n : Nat} {ops : Array Oper} {i : Nat} {K : PostV} {S : Env} {D : List Deferred} {B : Kn} {L : List Cells}
variable {dst : Option Tmp} {ty : TypeId} {pos : String} {after : Array Edge} {g : Option (Nat × Bool)}
theorem flat_snoc (L : List Cells) (s F : Cells) : (s ++ (L.flatten ++ F)).Perm ((L ++ [s]).flatten ++ F) := by
  simp only [List.flatten_append, List.flatten_cons, List.flatten_nil, List.append_nil, List.append_assoc]
  exact List.perm_append_comm_assoc s L.flatten F
theorem w_alloc {t : TypeId} {z : Value} {l : List Value} (hg : guardOk ops S g = some true) (hd : dstOk n dst = true) (hz : zeroOf P t = some z) (hl : z.cells = l.toArray)
    (h : ∀ b, K (ptr ⟨b, 0, none⟩) D B (L ++ [box1 b l t])) : opX P n ops i ⟨dst, .alloc t, ty, pos, after, g⟩ K S D B L :=
  opX_hb hg hd fun ρ hρ F => by
    simp only [execOp, Instr.alloc, hb_bind, hb_zeroValue hz, hb_pure]
    refine ⟨rfl, fun b _ _ => ?_⟩
    refine ⟨L ++ [box1 b l t], ?_, h b⟩
    rw [hl]
    exact .of (flat_snoc L (box1 b l t) F)
theorem w_box {t : TypeId} {x : Operand} {v : Value} {l : List Value} (hg : guardOk ops S g = some true) (hd : dstOk n dst = true) (hx : ev S x = some v) (hl : v.cells = l.toArray)
    (h : ∀ b, K (ptr ⟨b, 0, none⟩) D B (L ++ [box1 b l t])) : opX P n ops i ⟨dst, .box t x, ty, pos, after, g⟩ K S D B L :=
  opX_hb hg hd fun ρ hρ F => by
    simp only [execOp, Instr.box, hb_bind, hρ x _ hx, hb_pure]
    refine ⟨rfl, fun b _ _ => ?_⟩
    refine ⟨L ++ [box1 b l t], ?_, h b⟩
    rw [hl]
    exact .of (flat_snoc L (box1 b l t) F)
theorem w_load1 {t : TypeId} {x : Operand} {a : Addr} {v : Value} (hg : guardOk ops S g = some true) (hd : dstOk n dst = true) (hl : lk P t = some none) (hx : ev S x = some (ptr a)) (hc : At B L a v)
    (h : K v D B L) : opX P n ops i ⟨dst, .load t x, ty, pos, after, g⟩ K S D B L :=
  opX_pure hg hd (fun ρ hρ Q F q => by
    simp only [execOp, Instr.loadAt, Instr.sureAddr, hρ x _ hx, hb_bind, hb_pure]
    exact hb_loadVar1 hl hc.app q) h
theorem w_loadN {t : TypeId} {x : Operand} {a : Addr} (vs : List Value) (hg : guardOk ops S g = some true) (hd : dstOk n dst = true) (hl : lk P t = some (some vs.length)) (hx : ev S x = some (ptr a)) (hc : RowAt B L a vs)
    (h : K (.agg vs.toArray) D B L) : opX P n ops i ⟨dst, .load t x, ty, pos, after, g⟩ K S D B L :=
  opX_pure hg hd (fun ρ hρ Q F q => by
    simp only [execOp, Instr.loadAt, Instr.sureAddr, hρ x _ hx, hb_bind, hb_pure]
    exact hb_loadVarN hl (fun j v hj => (hc j v hj).app) q) h
theorem wFA {s : TypeId} {x : Operand} {fi off : Nat} {a : Addr} (hg : guardOk ops S g = some true) (hd : dstOk n dst = true) (hf : fieldOff P s fi = some off) (hx : ev S x = some (ptr a))
    (h : K (ptr (a.add off)) D B L) : opX P n ops i ⟨dst, .fieldAddr s x fi, ty, pos, after, g⟩ K S D B L :=
  opX_pure hg hd (fun ρ hρ Q F q => by
    unfold fieldOff at hf
    split at hf
    · rename_i fs hu
      split at hf
      · rename_i f hfi
        split at hf
        · rename_i j hj
          split at hf
          · cases hf
          · rename_i hsz
            simp only [Option.some.injEq] at hf
            have hs : sizeIs P f.type = some j.size := by simp [sizeIs, hj]
            simp only [execOp, Instr.fieldAt, Instr.sureAddr, hρ x _ hx, hb_bind, hb_pure, hb_underlying hu, hfi, fieldPlace, hb_sizeOf hs, hsz, if_false, hf]
            exact q
        · cases hf
      · cases hf
    · cases hf) h
theorem w_store {t : TypeId} {x y : Operand} {a : Addr} {v : Value} (vs : List Value) {l : List Value} {T : TypeId} {r : Cells} (j : Nat) (l' : List Value) (hg : guardOk ops S g = some true) (hd : dstOk n dst = true) (hsz : sizeIs P t = some vs.length)
    (hx : ev S x = some (ptr a)) (hy : ev S y = some v) (hv : v.cells = vs.toArray) (ho : vs.all oneC = true) (hj : L[j]? = some ((a.block, .cells l.toArray T (0, 0)) :: r)) (hs : a.spot = none) (hlen : Nat.ble (a.off + vs.length) l.length = true) (hl' : setAt l a.off vs = l')
    (h : K undef D B (L.set j ((a.block, .cells l'.toArray T (0, 0)) :: r))) : opX P n ops i ⟨dst, .store t x y, ty, pos, after, g⟩ K S D B L :=
  opX_hb hg hd fun ρ hρ F => by
    obtain ⟨rr, h1, h2⟩ := set_perm F ((a.block, .cells l'.toArray T (0, 0)) :: r) hj
    have hcs : v.cells.size = vs.length := by rw [hv]; simp
    simp only [execOp, Instr.storeAt, Instr.sureAddr, hρ x _ hx, hρ y _ hy, hb_bind, hb_pure, storeVar, hb_sizeOf hsz, hcs, ne_eq, not_true_eq_false, if_false]
    rw [hv]
    refine hb_storeCells (T := T) (L₁ := r ++ rr) hs vs 0 l _ ho (by simpa using h1) (by simpa using Nat.le_of_ble_eq_true hlen) fun L' hp => ?_
    refine ⟨_, ?_, h⟩
    rw [Nat.add_zero, hl'] at hp
    exact .of (hp.trans (by simpa using h2.symm))
theorem hb_sliceBound {k : IntKind} {a : Int} {y : Nat} {code : BoundsCode} {Q : Nat → Kn → Cells → Prop} {L : Cells} (h0 : 0 ≤ a) (h1 : a ≤ y) : hb P (Instr.sliceBound (.int k a) y code) Q B L = Q a.toNat B L := by
  simp only [Instr.sliceBound, asIntOf, hb_bind, hb_pure, h0, h1, and_self, if_true]
theorem w_indexAddr {t e : TypeId} {x y : Operand} {k : IntKind} {a : Addr} {len cap sz : Nat} {ix : Int} (hg : guardOk ops S g = some true) (hd : dstOk n dst = true) (hu : P.underlying t = some (.slice e)) (hsz : sizeIs P e = some sz)
    (hx : ev S x = some (.slice (some a) len cap)) (hy : ev S y = some (.int k ix)) (h0 : 0 ≤ ix) (h1 : ix < len) (h : K (ptr (a.add (ix.toNat * sz))) D B L) : opX P n ops i ⟨dst, .indexAddr t x y, ty, pos, after, g⟩ K S D B L :=
  opX_pure hg hd (fun ρ hρ Q F q => by
    simp only [execOp, Instr.indexAt, asIntOf, hρ x _ hx, hρ y _ hy, hb_bind, hb_pure, hb_underlying hu, h0, h1, and_self, if_true, hb_sizeOf hsz]
    exact q) h
theorem data_get (l : List UInt8) (j : Nat) : (ByteArray.mk l.toArray)[j]? = l[j]? := by
  show (if h : j < (ByteArray.mk l.toArray).size then some ((ByteArray.mk l.toArray)[j]) else none) = _
  have hs : (ByteArray.mk l.toArray).size = l.length := by simp [ByteArray.size]
  by_cases h : j < l.length
  · rw [dif_pos (by rw [hs]; exact h), List.getElem?_eq_getElem h]; rfl
  · rw [dif_neg (by rw [hs]; exact h), List.getElem?_eq_none (by omega)]
theorem str_size (l : List UInt8) : (ByteArray.mk l.toArray).size = l.length := by simp [ByteArray.size]
theorem str_extract (l : List UInt8) (a b : Nat) : (ByteArray.mk l.toArray).extract a b = ⟨((l.take b).drop a).toArray⟩ := by
  apply ByteArray.ext
  apply Array.ext'
  rw [ByteArray.data_extract]
  simp [List.extract_eq_take_drop, List.drop_take]
theorem w_index {t : TypeId} {x y : Operand} {k : IntKind} {l : List UInt8} {ix : Int} {c : UInt8} (hg : guardOk ops S g = some true) (hd : dstOk n dst = true) (hu : P.underlying t = some .string)
    (hx : ev S x = some (str l)) (hy : ev S y = some (.int k ix)) (h0 : 0 ≤ ix) (h1 : l[ix.toNat]? = some c) (h : K (.int .u8 c.toNat) D B L) : opX P n ops i ⟨dst, .index t x y, ty, pos, after, g⟩ K S D B L :=
  opX_pure hg hd (fun ρ hρ Q F q => by
    simp only [execOp, Instr.index, asIntOf, hρ x _ hx, hρ y _ hy, hb_bind, hb_pure, hb_underlying hu, h0, if_true, data_get, h1]
    exact q) h
theorem w_sliceS {t : TypeId} {x : Operand} {lo hi : Option Operand} {l : List UInt8} {a b : Nat} (hg : guardOk ops S g = some true) (hd : dstOk n dst = true) (hu : P.underlying t = some .string)
    (hx : ev S x = some (str l)) (hlo : match lo with | none => a = 0 | some o => ∃ k, ∃ z : Int, ev S o = some (.int k z) ∧ z = a) (hhi : match hi with | none => b = l.length | some o => ∃ k, ∃ z : Int, ev S o = some (.int k z) ∧ z = b) (hab : a ≤ b) (hb' : b ≤ l.length)
    (h : K (str ((l.take b).drop a)) D B L) : opX P n ops i ⟨dst, .slice t x lo hi none, ty, pos, after, g⟩ K S D B L :=
  opX_pure hg hd (fun ρ hρ Q F q => by
    have e1 : (str_size l) = str_size l := rfl
    cases lo with
    | none =>
      obtain rfl : a = 0 := hlo
      cases hi with
      | none =>
        obtain rfl : b = l.length := hhi
        simp only [execOp, Instr.sliceAt, Instr.slice, hρ x _ hx, hb_bind, hb_pure, hb_underlying hu, Option.map_none, Option.isSome_none, Bool.false_eq_true, if_false, Instr.sliceBounds, str_size, str_extract]
        exact q
      | some o =>
        obtain ⟨k, z, hz, rfl⟩ := hhi
        simp only [execOp, Instr.sliceAt, Instr.slice, hρ x _ hx, hρ o _ hz, hb_bind, hb_pure, hb_underlying hu, Option.map_none, Option.map_some, Option.isSome_none, Bool.false_eq_true, if_false, Instr.sliceBounds, str_size, str_extract]
        rw [hb_sliceBound (by omega) (by omega)]
        simp only [hb_bind, hb_pure, Int.toNat_natCast]
        exact q
    | some p =>
      obtain ⟨k', y, hy, rfl⟩ := hlo
      cases hi with
      | none =>
        obtain rfl : b = l.length := hhi
        simp only [execOp, Instr.sliceAt, Instr.slice, hρ x _ hx, hρ p _ hy, hb_bind, hb_pure, hb_underlying hu, Option.map_none, Option.map_some, Option.isSome_none, Bool.false_eq_true, if_false, Instr.sliceBounds, str_size, str_extract]
        rw [hb_sliceBound (by omega) (by omega)]
        simp only [hb_bind, hb_pure, Int.toNat_natCast]
        exact q
      | some o =>
        obtain ⟨k, z, hz, rfl⟩ := hhi
        simp only [execOp, Instr.sliceAt, Instr.slice, hρ x _ hx, hρ o _ hz, hρ p _ hy, hb_bind, hb_pure, hb_underlying hu, Option.map_none, Option.map_some, Option.isSome_none, Bool.false_eq_true, if_false, Instr.sliceBounds, str_size, str_extract]
        rw [hb_sliceBound (by omega) (by omega)]
        simp only [hb_bind, Int.toNat_natCast]
        rw [hb_sliceBound (by omega) (by omega)]
        simp only [hb_bind, hb_pure, Int.toNat_natCast]
        exact q) h
theorem w_sliceV {t e : TypeId} {x : Operand} {lo hi : Option Operand} {p : Option Addr} {len cap sz : Nat} {a b : Nat} (hg : guardOk ops S g = some true) (hd : dstOk n dst = true) (hu : P.underlying t = some (.slice e)) (hsz : sizeIs P e = some sz)
    (hx : ev S x = some (.slice p len cap)) (hlo : match lo with | none => a = 0 | some o => ∃ k, ∃ z : Int, ev S o = some (.int k z) ∧ z = a) (hhi : match hi with | none => b = len | some o => ∃ k, ∃ z : Int, ev S o = some (.int k z) ∧ z = b) (hab : a ≤ b) (hb' : b ≤ cap)
    (h : K (.slice (if cap = a then p else p.map (·.add (a * sz))) (b - a) (cap - a)) D B L) : opX P n ops i ⟨dst, .slice t x lo hi none, ty, pos, after, g⟩ K S D B L :=
  opX_pure hg hd (fun ρ hρ Q F q => by
    cases lo with
    | none =>
      obtain rfl : a = 0 := hlo
      cases hi with
      | none =>
        obtain rfl : b = len := hhi
        simp only [execOp, Instr.sliceAt, Instr.slice, hρ x _ hx, hb_bind, hb_pure, hb_underlying hu, Option.map_none, Instr.sliceBounds, hb_sizeOf hsz]
        exact q
      | some o =>
        obtain ⟨k, z, hz, rfl⟩ := hhi
        simp only [execOp, Instr.sliceAt, Instr.slice, hρ x _ hx, hρ o _ hz, hb_bind, hb_pure, hb_underlying hu, Option.map_none, Option.map_some, Instr.sliceBounds, hb_sizeOf hsz]
        rw [hb_sliceBound (by omega) (by omega)]
        simp only [hb_bind, hb_pure, Int.toNat_natCast, hb_sizeOf hsz]
        exact q
    | some r =>
      obtain ⟨k', y, hy, rfl⟩ := hlo
      cases hi with
      | none =>
        obtain rfl : b = len := hhi
        simp only [execOp, Instr.sliceAt, Instr.slice, hρ x _ hx, hρ r _ hy, hb_bind, hb_pure, hb_underlying hu, Option.map_none, Option.map_some, Instr.sliceBounds, hb_sizeOf hsz]
        rw [hb_sliceBound (by omega) (by omega)]
        simp only [hb_bind, hb_pure, Int.toNat_natCast, hb_sizeOf hsz]
        exact q
      | some o =>
        obtain ⟨k, z, hz, rfl⟩ := hhi
        simp only [execOp, Instr.sliceAt, Instr.slice, hρ x _ hx, hρ o _ hz, hρ r _ hy, hb_bind, hb_pure, hb_underlying hu, Option.map_none, Option.map_some, Instr.sliceBounds, hb_sizeOf hsz]
        rw [hb_sliceBound (by omega) (by omega)]
        simp only [hb_bind, Int.toNat_natCast]
        rw [hb_sliceBound (by omega) (by omega)]
        simp only [hb_bind, hb_pure, Int.toNat_natCast, hb_sizeOf hsz]
        exact q) h
section calls
variable {args : Array Operand} {ats : Array TypeId}
theorem w_lenS {x : Operand} {t : TypeId} {l : List UInt8} (hg : guardOk ops S g = some true) (hd : dstOk n dst = true) (hu : P.underlying t = some .string) (hx : ev S x = some (str l)) (h : K (.int .i64 l.length) D B L) :
    opX P n ops i ⟨dst, .call ⟨.builtin .len, #[x], #[t]⟩, ty, pos, after, g⟩ K S D B L :=
  opX_pure hg hd (fun ρ hρ Q F q => by
    simp only [execOp, resolve, hb_bind, hb_pure, invoke, builtin, Builtin.len_, List.map_toArray, List.map_cons, List.map_nil, hρ x _ hx, List.getElem?_toArray, List.getElem?_cons_zero, hb_underlying hu, goInt, str_size]
    exact q) h
theorem w_lenV {x : Operand} {t e : TypeId} {p : Option Addr} {len cap : Nat} (hg : guardOk ops S g = some true) (hd : dstOk n dst = true) (hu : P.underlying t = some (.slice e)) (hx : ev S x = some (.slice p len cap)) (h : K (.int .i64 len) D B L) :
    opX P n ops i ⟨dst, .call ⟨.builtin .len, #[x], #[t]⟩, ty, pos, after, g⟩ K S D B L :=
  opX_pure hg hd (fun ρ hρ Q F q => by
    simp only [execOp, resolve, hb_bind, hb_pure, invoke, builtin, Builtin.len_, List.map_toArray, List.map_cons, List.map_nil, hρ x _ hx, List.getElem?_toArray, List.getElem?_cons_zero, hb_underlying hu, goInt]
    exact q) h
end calls
section strings
variable {t u : TypeId} {x y : Operand} {a b : List UInt8}
theorem w_eqlS (hg : guardOk ops S g = some true) (hd : dstOk n dst = true) (hx : ev S x = some (str a)) (hy : ev S y = some (str b)) (h : K (.bool (decide (a = b))) D B L) : opX P n ops i ⟨dst, .binOp .eql t x y u, ty, pos, after, g⟩ K S D B L :=
  opX_pure hg hd (fun ρ hρ Q F q => by
    have e : (a == b) = decide (a = b) := by rw [Bool.eq_iff_iff]; simp
    simp only [execOp, hρ x _ hx, hρ y _ hy, hb_bind, hb_eqGuard, binOp, Op.stringOp, ByteArray.toList_mk, hb_pure, e]
    exact q) h
theorem w_neqS (hg : guardOk ops S g = some true) (hd : dstOk n dst = true) (hx : ev S x = some (str a)) (hy : ev S y = some (str b)) (h : K (.bool (decide (a ≠ b))) D B L) : opX P n ops i ⟨dst, .binOp .neq t x y u, ty, pos, after, g⟩ K S D B L :=
  opX_pure hg hd (fun ρ hρ Q F q => by
    have e : (!(a == b)) = decide (a ≠ b) := by rw [Bool.eq_iff_iff]; simp
    simp only [execOp, hρ x _ hx, hρ y _ hy, hb_bind, hb_eqGuard, binOp, Op.stringOp, ByteArray.toList_mk, hb_pure, e]
    exact q) h
theorem w_leqS (hg : guardOk ops S g = some true) (hd : dstOk n dst = true) (hx : ev S x = some (str a)) (hy : ev S y = some (str b)) (h : K (.bool (Op.bytesLess a b || decide (a = b))) D B L) : opX P n ops i ⟨dst, .binOp .leq t x y u, ty, pos, after, g⟩ K S D B L :=
  opX_pure hg hd (fun ρ hρ Q F q => by
    have e : (a == b) = decide (a = b) := by rw [Bool.eq_iff_iff]; simp
    simp only [execOp, hρ x _ hx, hρ y _ hy, hb_bind, hb_eqGuard, binOp, Op.stringOp, ByteArray.toList_mk, hb_pure, e]
    exact q) h
theorem w_lssS (hg : guardOk ops S g = some true) (hd : dstOk n dst = true) (hx : ev S x = some (str a)) (hy : ev S y = some (str b)) (h : K (.bool (Op.bytesLess a b)) D B L) : opX P n ops i ⟨dst, .binOp .lss t x y u, ty, pos, after, g⟩ K S D B L :=
  opX_pure hg hd (fun ρ hρ Q F q => by
    simp only [execOp, hρ x _ hx, hρ y _ hy, hb_bind, hb_eqGuard, binOp, Op.stringOp, ByteArray.toList_mk, hb_pure]
    exact q) h
theorem w_geqS (hg : guardOk ops S g = some true) (hd : dstOk n dst = true) (hx : ev S x = some (str a)) (hy : ev S y = some (str b)) (h : K (.bool (!Op.bytesLess a b)) D B L) : opX P n ops i ⟨dst, .binOp .geq t x y u, ty, pos, after, g⟩ K S D B L :=
  opX_pure hg hd (fun ρ hρ Q F q => by
    simp only [execOp, hρ x _ hx, hρ y _ hy, hb_bind, hb_eqGuard, binOp, Op.stringOp, ByteArray.toList_mk, hb_pure]
    exact q) h
end strings
theorem r_split {K : Post4} {o : Oper} {l : List Oper} {d : Nat} {t : Bool} (hb : get S d = some (.bool t)) (h1 : t = true → runW P n ops i (o :: l) K ((d, .bool true) :: S) D B L) (h2 : t = false → runW P n ops i (o :: l) K ((d, .bool false) :: S) D B L) : runW P n ops i (o :: l) K S D B L := by
  have key : ∀ (S' : Env), (∀ i v, get S' i = some v → get S i = some v) → runW P n ops i (o :: l) K S' D B L → runW P n ops i (o :: l) K S D B L :=
    fun S' hs h C todo k T ho hn hT hA => h C todo k T ho hn (fun i v hv => hT i v (hs i v hv)) hA
  have get_same : ∀ (u : Bool), t = u → ∀ i v, get ((d, Value.bool u) :: S) i = some v → get S i = some v := by
    intro u hu i v hv
    simp only [get] at hv
    cases hbe : Nat.beq d i with
    | true =>
      rw [hbe] at hv
      simp only [cond_true, Option.some.injEq] at hv
      have := Nat.eq_of_beq_eq_true hbe
      subst this; subst hu; rw [hb, ← hv]
    | false => rw [hbe] at hv; exact hv
  cases t with
  | true => exact key _ (get_same true rfl) (h1 rfl)
  | false => exact key _ (get_same false rfl) (h2 rfl)
end
end Go.BL
namespace Go.BL
set_option linter.unusedVariables false
set_option linter.unusedSimpArgs false
set_option linter.unusedSectionVars false
open Go.Conc (G)
set_option linter.unusedVariables false
def Bk (kind : CallKind) (c : Frame) : Prop := kind = .normal ∨ (kind = .deferred ∧ (c.mode = .returning ∨ c.mode = .panicking [goexitEntry]))
def backTo (kind : CallKind) (c : Frame) (v : Value) : Frame := match kind with | .deferred => c | _ => c.finish v
def CallsB (P : PJ) (f : FuncId) (args : List Value) (B : Kn) (Ls : List Cells) (Post : Value → Kn → List Cells → Prop) : Prop :=
  ∀ (X : Lg P) (kind : CallKind) (c : Frame) (cs : List Frame) (F : Cells), Bk kind c →
    (∀ v B' Ls', B.le B' → Post v B' Ls' → X.R (G (backTo kind c v) cs) B' (Ls'.flatten ++ F)) → X.R (G (Frame.enter P f args.toArray kind) (c :: cs)) B (Ls.flatten ++ F)
theorem CallsB.mono {P : PJ} {f : FuncId} {args : List Value} {B : Kn} {Ls : List Cells} {Post Post' : Value → Kn → List Cells → Prop} (h : CallsB P f args B Ls Post) (hp : ∀ v B' Ls', B.le B' → Post v B' Ls' → Post' v B' Ls') : CallsB P f args B Ls Post' :=
  fun X kind c cs F hk hA => h X kind c cs F hk fun v B' Ls' hle hq => hA v B' Ls' hle (hp v B' Ls' hle hq)
def argEnv : List Value → Nat → Env
  | [], _ => []
  | v :: vs, i => (i, v) :: argEnv vs (i + 1)
theorem argEnv_get : ∀ (vs : List Value) (i j : Nat) (v : Value), get (argEnv vs i) j = some v → i ≤ j ∧ vs[j - i]? = some v
  | [], i, j, v, h => by cases h
  | u :: vs, i, j, v, h => by
    simp only [argEnv, get] at h
    cases hb : Nat.beq i j with
    | true =>
      rw [hb] at h
      have := Nat.eq_of_beq_eq_true hb
      subst this
      simp only [cond_true, Option.some.injEq] at h
      exact ⟨Nat.le_refl _, by simp [h]⟩
    | false =>
      rw [hb] at h
      obtain ⟨h1, h2⟩ := argEnv_get vs (i + 1) j v h
      refine ⟨by omega, ?_⟩
      rw [show j - i = (j - (i + 1)) + 1 from by omega]
      simpa using h2
def resOne (P : Program) (S : Env) (B : Kn) (L : List Cells) : ResultVar → Value → Prop
  | .tmp t, v => get S t = some v
  | .cell a t, v => ∃ ad, get S a = some (ptr ad) ∧ ((lk P t = some none ∧ At B L ad v) ∨ ∃ vs : List Value, lk P t = some (some vs.length) ∧ RowAt B L ad vs ∧ v = .agg vs.toArray)
def resAll (P : Program) (S : Env) (B : Kn) (L : List Cells) : List ResultVar → List Value → Prop
  | [], [] => True
  | r :: rs, v :: vs => resOne P S B L r v ∧ resAll P S B L rs vs
  | _, _ => False
def resVal : List Value → Value
  | [v] => v
  | vs => .tuple vs.toArray
theorem resOne_hb {P : Program} {T : Array Value} {S : Env} {B : Kn} {L : List Cells} {F : Cells} (hT : Ag T S) {r : ResultVar} {v : Value} (h : resOne P S B L r v) {Q : Value → Kn → Cells → Prop} (q : Q v B (L.flatten ++ F)) :
    hb P (match r with | .tmp t => Pure.pure (T.getD t undef) | .cell a t => do loadVar t (← asAddr (T.getD a undef))) Q B (L.flatten ++ F) := by
  cases r with
  | tmp t =>
    have := hT t v h
    simp only [hb_pure, Array.getD_eq_getD_getElem?, this, Option.getD_some]
    exact q
  | cell a t =>
    obtain ⟨ad, ha, h⟩ := h
    have := hT a _ ha
    simp only [hb_bind, Array.getD_eq_getD_getElem?, this, Option.getD_some, asAddr, hb_pure]
    rcases h with ⟨hl, hc⟩ | ⟨vs, hl, hc, rfl⟩
    · exact hb_loadVar1 hl hc.app q
    · exact hb_loadVarN hl (fun j v hj => (hc j v hj).app) q
theorem hb_mapM {P : Program} {α β : Type} {f : α → Sem β} {B : Kn} {L : Cells} {Q : List β → Kn → Cells → Prop} : ∀ (xs : List α) (ys : List β), xs.length = ys.length →
    (∀ (i : Nat) (x : α) (y : β), xs[i]? = some x → ys[i]? = some y → ∀ Q : β → Kn → Cells → Prop, Q y B L → hb P (f x) Q B L) → Q ys B L → hb P (xs.mapM f) Q B L
  | [], [], _, _, q => by rw [List.mapM_nil]; exact q
  | x :: xs, y :: ys, hl, h, q => by
    rw [List.mapM_cons, hb_bind]
    refine h 0 x y (by simp) (by simp) _ ?_
    rw [hb_bind]
    refine hb_mapM xs ys (by simpa using hl) (fun i x y hx hy => h (i + 1) x y (by simpa using hx) (by simpa using hy)) ?_
    exact q
  | [], _ :: _, hl, _, _ => by cases hl
  | _ :: _, [], hl, _, _ => by cases hl
theorem resAll_len {P : Program} {S : Env} {B : Kn} {L : List Cells} : ∀ {rs : List ResultVar} {vs : List Value}, resAll P S B L rs vs → rs.length = vs.length
  | [], [], _ => rfl
  | _ :: _, _ :: _, h => by simp [resAll_len h.2]
  | [], _ :: _, h => h.elim
  | _ :: _, [], h => h.elim
theorem resAll_get {P : Program} {S : Env} {B : Kn} {L : List Cells} : ∀ {rs : List ResultVar} {vs : List Value}, resAll P S B L rs vs → ∀ (i : Nat) (r : ResultVar) (v : Value), rs[i]? = some r → vs[i]? = some v → resOne P S B L r v
  | [], [], _, i, r, v, hr, _ => by simp at hr
  | r :: rs, v :: vs, h, 0, r', v', hr, hv => by
    simp only [List.getElem?_cons_zero, Option.some.injEq] at hr hv
    subst hr; subst hv; exact h.1
  | r :: rs, v :: vs, h, i + 1, r', v', hr, hv => resAll_get h.2 i r' v' (by simpa using hr) (by simpa using hv)
  | [], _ :: _, h, _, _, _, _, _ => h.elim
  | _ :: _, [], h, _, _, _, _, _ => h.elim
theorem results_hb {P : Program} {fn : Func} {T : Array Value} {S : Env} {B : Kn} {L : List Cells} {F : Cells} (hT : Ag T S) {vs : List Value} (h : resAll P S B L fn.results.toList vs) {Q : Value → Kn → Cells → Prop} (q : Q (resVal vs) B (L.flatten ++ F)) :
    hb P (results fn T) Q B (L.flatten ++ F) := by
  unfold results
  rw [Array.mapM_eq_mapM_toList]
  simp only [hb_bind, hb_map]
  refine hb_mapM fn.results.toList vs (resAll_len h) (fun i r v hr hv Q q => ?_) ?_
  · have := resOne_hb (F := F) hT (resAll_get h i r v hr hv) q
    cases r <;> exact this
  · simp only [hb_pure]
    match vs, q with
    | [], q => exact q
    | [v], q => exact q
    | v :: u :: r, q => exact q
def bodyQ (P : PJ) (rs : List ResultVar) (Post : Value → Kn → List Cells → Prop) : Exit → Post4 := fun e S D B L =>
  (e = .ret ∨ e = .normal) ∧ D = [] ∧ ∃ vs Lr, resAll P S B L rs vs ∧ (∃ gl, L.flatten.Perm (Lr.flatten ++ gl)) ∧ Post (resVal vs) B Lr
theorem backTo_step {P : PJ} {main : Bool} {kind : CallKind} {fr c : Frame} {cs : List Frame} {v : Value} {w : World} (hk : Bk kind c) (hf : fr.kind = kind) : doReturn P main fr (c :: cs) none v w = .go (G (backTo kind c v) cs) w #[] := by
  rcases hk with rfl | ⟨rfl, hm | hm⟩
  · simp [doReturn, hf, backTo, G]
  · simp [doReturn, hf, backTo, G, hm]
  · simp [doReturn, hf, backTo, G, hm, goexitEntry]
theorem leave_step {P : PJ} {X : Lg P} {f : FuncId} {fn : Func} (hf : P.funcs[f]? = some fn) {kind : CallKind} {c fr : Frame} {cs : List Frame} (hk : Bk kind c) (h1 : fr.fn = f) (h2 : fr.mode = .returning) (h3 : fr.defers = []) (h4 : fr.kind = kind)
    {S : Env} {B : Kn} {L Lr : List Cells} {F : Cells} (hT : Ag fr.tmps S) {vs : List Value} (hr : resAll P S B L fn.results.toList vs) {gl : Cells} (hp : L.flatten.Perm (Lr.flatten ++ gl))
    (h : X.R (G (backTo kind c (resVal vs)) cs) B (Lr.flatten ++ F)) : X.R (G fr (c :: cs)) B (L.flatten ++ F) := by
  refine X.step rfl fun w s => ?_
  have hres : hb P (results fn fr.tmps) (fun v B' L' => v = resVal vs ∧ B' = B ∧ L' = L.flatten ++ F) B (L.flatten ++ F) := results_hb hT hr ⟨rfl, rfl, rfl⟩
  obtain ⟨a, w', es, B', L', e1, e2, e3, rfl, rfl, rfl⟩ := hb_sound _ _ _ _ hres w #[] s
  obtain ⟨r1, r2⟩ := run_of_runT e1
  refine ⟨G (backTo kind c (resVal vs)) cs, w', seen P fr.fn (#[] ++ es), B', L.flatten ++ F, ?_, fun e he => e2 e (by simpa using seen_mem he), e3, ?_⟩
  · rw [← r2]
    have hd : doReturn P X.main fr (c :: cs) none (resVal vs) w' = .go (G (backTo kind c (resVal vs)) cs) w' #[] := backTo_step hk h4
    simp [G, stepG, h2, unwind, h3, h1, hf, r1, GStep.after, hd]
  · exact X.drop (r := Lr.flatten ++ F) (gl := gl) ((hp.append_right F).trans (by rw [List.append_assoc, List.append_assoc]; exact List.Perm.append_left _ List.perm_append_comm)) h
theorem cBB {P : PJ} {f : FuncId} {fn : Func} {code : Code} {rs : List ResultVar} (n : Nat) (hf : P.funcs[f]? = some fn) (hb : fn.body = some code) (hn : fn.ntmps = n) (hrs : fn.results.toList = rs) {args : List Value} (ha : args.length ≤ n) {B : Kn} {Ls : List Cells} {Post : Value → Kn → List Cells → Prop}
    (h : wpS P n code (bodyQ P rs Post) (argEnv args 0) [] B Ls) : CallsB P f args B Ls Post := fun X kind c cs F hk hA => by
  have hke : kind ≠ .early := by rcases hk with rfl | ⟨rfl, _⟩ <;> simp
  let b0 : Frame := { fn := f, tmps := #[], todo := [], defers := [], mode := .run, kind := kind }
  let T0 : Array Value := args.toArray ++ Array.replicate (n - args.length) undef
  have hen : Frame.enter P f args.toArray kind = fat b0 T0 [] [.code code] := by
    simp [Frame.enter, fat, hf, hb, hn, b0, T0]
  rw [hen]
  have hT : Ag T0 (argEnv args 0) := fun i v hv => by
    obtain ⟨_, h2⟩ := argEnv_get args 0 i v hv
    have hlt := lt_of_some (a := args.toArray) (i := i) (x := v) (by simpa using h2)
    simp only [T0]
    rw [Array.getElem?_append_left hlt]
    simpa using h2
  refine h ⟨X, b0, c :: cs, F, hke⟩ [] T0 (by simp [T0]; omega) hT fun e S' D' B' L' T' hle hq hn' hT' => ?_
  obtain ⟨he, rfl, vs, Lr, hr, ⟨gl, hp⟩, hq⟩ := hq
  rw [← hrs] at hr
  rcases he with rfl | rfl
  · refine ⟨rfl, fun todo => ?_⟩
    exact leave_step hf hk rfl rfl rfl rfl hT' hr hp (hA _ B' Lr hle hq)
  · exact X.ctl rfl (fun w => st_end rfl) (leave_step hf hk rfl rfl rfl rfl hT' hr hp (hA _ B' Lr hle hq))
section
variable {P : PJ} {n : Nat} {ops : Array Oper} {i : Nat} {K : PostV} {S : Env} {D : List Deferred} {B : Kn} {L : List Cells}
variable {dst : Option Tmp} {ty : TypeId} {pos : String} {after : Array Edge} {g : Option (Nat × Bool)}
def enters (P : Program) (f : FuncId) : Bool :=
  match P.funcs[f]? with
  | some fn => fn.body.isSome && !(fn.name == "runtime.NumGoroutine")
  | none => false
theorem callFunc_hb {f : FuncId} {args : Array Value} (h : enters P f = true) {Q : Next → Kn → Cells → Prop} {L : Cells} (q : Q (.enter f args) B L) : hb P (callFunc f args) Q B L := by
  unfold enters at h
  split at h
  · rename_i fn hf
    simp only [Bool.and_eq_true, Bool.not_eq_true'] at h
    obtain ⟨h1, h2⟩ := h
    have h1' : fn.body.isNone = false := by cases hb : fn.body <;> simp_all
    simp only [callFunc, hb_bind, hb_program, hf, h2, h1', Bool.false_eq_true, if_false, hb_pure]
    exact q
  · cases h
theorem opX_enter {o : Oper} {f : FuncId} {vs : List Value} (hg : guardOk ops S o.guard = some true)
    (hv : ∀ ρ : Operand → Value, (∀ x u, ev S x = some u → ρ x = u) → ∀ (Q : Next → Kn → Cells → Prop) F, Q (.enter f vs.toArray) B (L.flatten ++ F) → hb P (execOp ρ o) Q B (L.flatten ++ F))
    (hd : dstOk n o.dst = true) {Ls Lk : List Cells} (hp : L.flatten.Perm (Ls.flatten ++ Lk.flatten)) {Post : Value → Kn → List Cells → Prop} (hc : CallsB P f vs B Ls Post)
    (h : ∀ v B' Ls', B.le B' → Post v B' Ls' → ∃ L', (Ls'.flatten ++ Lk.flatten).Perm L'.flatten ∧ K v D B' L') (hnd : isDefer o.op = false := by rfl) : opX P n ops i o K S D B L := ⟨hd, fun C todo k T ho hn hT hA => by
  refine C.X.step rfl fun w s => ?_
  obtain ⟨a, w', es, B', L', h1, h2, h3, rfl, rfl, rfl⟩ := hb_sound _ _ _ _ (hv (evT T) (fun x v hx => ev_evT hT hx) (fun nx B' L' => nx = .enter f vs.toArray ∧ B' = B ∧ L' = L.flatten ++ C.F) C.F ⟨rfl, rfl, rfl⟩) w #[] s
  simp only [Array.empty_append] at h1
  rw [st_oper hnd ho (guardOk_wanted hT hg)]
  have hk : (fat C.b T D (.inRegion ops (i :: todo) :: k)).kind ≠ .early := C.early
  refine ⟨_, w', _, B', L.flatten ++ C.F, apply_enter hk (by intro a b c d r; simp [fat]) h1, fun e he => h2 e (seen_mem he), h3, ?_⟩
  have hp' : (L.flatten ++ C.F).Perm (Ls.flatten ++ (Lk.flatten ++ C.F)) := by rw [← List.append_assoc]; exact hp.append_right _
  refine C.X.perm hp' (hc C.X .normal _ C.cs (Lk.flatten ++ C.F) (.inl rfl) fun v B₂ Ls' hle hq => ?_)
  obtain ⟨L₂, hp₂, hK⟩ := h v B₂ Ls' hle hq
  show C.X.R (G ((fat C.b T D (.inRegion ops (i :: todo) :: k)).finish v) C.cs) B₂ _
  rw [fat_finish ho]
  refine C.X.perm ?_ (hA v D B₂ L₂ hle hK)
  rw [← List.append_assoc]
  exact hp₂.append_right _⟩
theorem resolve_args {ρ : Operand → Value} (hρ : ∀ x u, ev S x = some u → ρ x = u) : ∀ {xs : List Operand} {vs : List Value}, evs S xs = some vs → xs.map ρ = vs
  | [], vs, hx => by simpa [evs] using hx
  | x :: r, vs, hx => by
    simp only [evs] at hx
    cases h1 : ev S x with
    | none => rw [h1] at hx; cases hx
    | some v =>
      cases h2 : evs S r with
      | none => rw [h1, h2] at hx; cases hx
      | some us =>
        rw [h1, h2] at hx
        simp only [Option.some.injEq] at hx
        subst hx
        simp [hρ x v h1, resolve_args hρ h2]
theorem call_sem {x : Operand} {f : FuncId} {first cap : Array Value} {xs : List Operand} {vs : List Value} {ats : Array TypeId} (he : enters P f = true) (hx : ev S x = some (.func (.func f) first cap)) (ha : evs S xs = some vs) :
    ∀ ρ : Operand → Value, (∀ x u, ev S x = some u → ρ x = u) → ∀ (Q : Next → Kn → Cells → Prop) F, Q (.enter f (first.toList ++ vs ++ cap.toList).toArray) B (L.flatten ++ F) → hb P (execOp ρ ⟨dst, .call ⟨.value x, xs.toArray, ats⟩, ty, pos, after, g⟩) Q B (L.flatten ++ F) := by
  intro ρ hρ Q F q
  simp only [execOp, resolve, hρ x _ hx, Deferred.ofValue, hb_bind, hb_pure, invoke]
  refine callFunc_hb he ?_
  rw [List.map_toArray, resolve_args hρ ha]
  have e : (first ++ vs.toArray) ++ cap = (first.toList ++ vs ++ cap.toList).toArray := by apply Array.ext'; simp
  rw [e]
  exact q
theorem w_call {f : FuncId} {xs : List Operand} {vs : List Value} {ats : Array TypeId} {Post : Value → Kn → List Cells → Prop} (hg : guardOk ops S g = some true) (hd : dstOk n dst = true) (he : enters P f = true) (ha : evs S xs = some vs) (hc : CallsB P f vs B [] Post)
    (h : ∀ v B' Ls', B.le B' → Post v B' Ls' → K v D B' (L ++ Ls')) : opX P n ops i ⟨dst, .call ⟨.value (.func f), xs.toArray, ats⟩, ty, pos, after, g⟩ K S D B L :=
  opX_enter (o := ⟨dst, .call ⟨.value (.func f), xs.toArray, ats⟩, ty, pos, after, g⟩) (vs := vs) hg (fun ρ hρ Q F q => by
      have := call_sem (P := P) (B := B) (L := L) (dst := dst) (ty := ty) (pos := pos) (after := after) (g := g) (x := .func f) (first := #[]) (cap := #[]) (ats := ats) he rfl ha ρ hρ Q F
      exact this (by simpa using q)) hd (Ls := []) (Lk := L) (by simp) hc
    fun v B' Ls' hle hq => ⟨L ++ Ls', by simp only [List.flatten_append]; exact List.perm_append_comm, h v B' Ls' hle hq⟩
theorem pick_perm {L : List Cells} {j : Nat} {s : Cells} (hj : L[j]? = some s) : L.flatten.Perm ([s].flatten ++ (L.set j []).flatten) := by
  obtain ⟨r, h1, h2⟩ := set_perm [] [] hj
  simp only [List.append_nil, List.nil_append] at h1 h2
  simp only [List.flatten_cons, List.flatten_nil, List.append_nil]
  exact h1.trans (List.Perm.append_left s h2.symm)
theorem put_perm {L : List Cells} {j : Nat} {s s' : Cells} (hj : L[j]? = some s) : ([s'].flatten ++ (L.set j []).flatten).Perm (L.set j s').flatten := by
  obtain ⟨r, h1, h2⟩ := set_perm [] s' hj
  obtain ⟨r', h1', h2'⟩ := set_perm [] [] hj
  simp only [List.append_nil, List.nil_append] at h1 h2 h1' h2'
  simp only [List.flatten_cons, List.flatten_nil, List.append_nil]
  have : r.Perm r' := (List.perm_append_left_iff s).1 (h1.symm.trans h1')
  exact (List.Perm.append_left s' (h2'.trans this.symm)).trans h2.symm
theorem w_call1 {f : FuncId} {xs : List Operand} {vs : List Value} {ats : Array TypeId} {Post : Value → Kn → List Cells → Prop} (j : Nat) {s : Cells} (hj : L[j]? = some s) (hg : guardOk ops S g = some true) (hd : dstOk n dst = true) (he : enters P f = true) (ha : evs S xs = some vs) (hc : CallsB P f vs B [s] Post)
    (h : ∀ v B' Ls', B.le B' → Post v B' Ls' → ∃ s' r, Ls' = s' :: r ∧ K v D B' (L.set j s' ++ r)) : opX P n ops i ⟨dst, .call ⟨.value (.func f), xs.toArray, ats⟩, ty, pos, after, g⟩ K S D B L :=
  opX_enter (o := ⟨dst, .call ⟨.value (.func f), xs.toArray, ats⟩, ty, pos, after, g⟩) (vs := vs) hg (fun ρ hρ Q F q => by
      have := call_sem (P := P) (B := B) (L := L) (dst := dst) (ty := ty) (pos := pos) (after := after) (g := g) (x := .func f) (first := #[]) (cap := #[]) (ats := ats) he rfl ha ρ hρ Q F
      exact this (by simpa using q)) hd (Ls := [s]) (Lk := L.set j []) (pick_perm hj) hc
    fun v B' Ls' hle hq => by
      obtain ⟨s', r, rfl, hK⟩ := h v B' Ls' hle hq
      refine ⟨L.set j s' ++ r, ?_, hK⟩
      have e : (s' :: r).flatten ++ (L.set j []).flatten = s' ++ (r.flatten ++ (L.set j []).flatten) := by simp
      rw [e, List.flatten_append]
      refine (List.Perm.append_left s' List.perm_append_comm).trans ?_
      rw [← List.append_assoc]
      exact List.Perm.append_right _ (by simpa using put_perm (s' := s') hj)
end
end Go.BL
namespace Go.BL
set_option linter.unusedVariables false
set_option linter.unusedSimpArgs false
set_option linter.unusedSectionVars false
def RetB (P : PJ) (f : FuncId) (vs : List Value) (B : Kn) (v : Value) : Prop := CallsB P f vs B [] fun v' B' Ls => v' = v ∧ B' = B ∧ Ls = []
section
variable {P : PJ} {n : Nat} {ops : Array Oper} {i : Nat} {K : PostV} {S : Env} {D : List Deferred} {B : Kn} {L : List Cells}
variable {dst : Option Tmp} {ty : TypeId} {pos : String} {after : Array Edge} {g : Option (Nat × Bool)}
theorem w_retB {f : FuncId} {xs : List Operand} {vs : List Value} {ats : Array TypeId} {v : Value} (hg : guardOk ops S g = some true) (hd : dstOk n dst = true) (he : enters P f = true) (ha : evs S xs = some vs) (hc : RetB P f vs B v)
    (h : K v D B L) : opX P n ops i ⟨dst, .call ⟨.value (.func f), xs.toArray, ats⟩, ty, pos, after, g⟩ K S D B L :=
  w_call hg hd he ha hc fun v' B' Ls' hle ⟨h1, h2, h3⟩ => by subst h1; subst h2; subst h3; rw [List.append_nil]; exact h
theorem end0 {rs : List ResultVar} {Post : Value → Kn → List Cells → Prop} (e : Exit) (he : e = .ret ∨ e = .normal) (vs : List Value) (hr : resAll P S B L rs vs) (hp : Post (resVal vs) B []) : bodyQ P rs Post e S [] B L :=
  ⟨he, rfl, vs, [], hr, ⟨L.flatten, by simp⟩, hp⟩
end
theorem bool_eq {a b : Bool} (h : a = b) : Value.bool a = Value.bool b := by rw [h]
theorem int_eq {k : IntKind} {a b : Int} (h : a = b) : Value.int k a = Value.int k b := by rw [h]
theorem wrI64 {n : Int} (h1 : -9223372036854775808 ≤ n) (h2 : n ≤ 9223372036854775807) : IntKind.wrap .i64 n = n := IntWalk.i64_in n ⟨h1, h2⟩
def Upd1 (P : PJ) (f : FuncId) (vs : List Value) (B : Kn) (s : Cells) (v : Value) (s' : Cells) : Prop := CallsB P f vs B [s] fun v' B' Ls => v' = v ∧ B' = B ∧ Ls = [s']
section
variable {P : PJ} {n : Nat} {ops : Array Oper} {i : Nat} {K : PostV} {S : Env} {D : List Deferred} {B : Kn} {L : List Cells}
variable {dst : Option Tmp} {ty : TypeId} {pos : String} {after : Array Edge} {g : Option (Nat × Bool)}
theorem w_upd1 {f : FuncId} {xs : List Operand} {vs : List Value} {ats : Array TypeId} {v : Value} (j : Nat) {s s' : Cells} (hj : L[j]? = some s) (hg : guardOk ops S g = some true) (hd : dstOk n dst = true) (he : enters P f = true) (ha : evs S xs = some vs) (hc : Upd1 P f vs B s v s')
    (h : K v D B (L.set j s')) : opX P n ops i ⟨dst, .call ⟨.value (.func f), xs.toArray, ats⟩, ty, pos, after, g⟩ K S D B L :=
  w_call1 j hj hg hd he ha hc fun v' B' Ls' hle ⟨h1, h2, h3⟩ => by subst h1; subst h2; subst h3; exact ⟨s', [], rfl, by rw [List.append_nil]; exact h⟩
theorem set_self {L : List Cells} {j : Nat} {s : Cells} (hj : L[j]? = some s) : L.set j s = L := by
  apply List.ext_getElem?
  intro i
  rw [List.getElem?_set]
  split
  · rename_i h; subst h
    split
    · exact hj.symm
    · rename_i hlt; rw [List.getElem?_eq_none (by omega)]
  · rfl
theorem w_ret1 {f : FuncId} {xs : List Operand} {vs : List Value} {ats : Array TypeId} {v : Value} (j : Nat) {s : Cells} (hj : L[j]? = some s) (hg : guardOk ops S g = some true) (hd : dstOk n dst = true) (he : enters P f = true) (ha : evs S xs = some vs) (hc : Upd1 P f vs B s v s)
    (h : K v D B L) : opX P n ops i ⟨dst, .call ⟨.value (.func f), xs.toArray, ats⟩, ty, pos, after, g⟩ K S D B L :=
  w_upd1 j hj hg hd he ha hc (by rw [set_self hj]; exact h)
theorem end1 {rs : List ResultVar} {Post : Value → Kn → List Cells → Prop} (e : Exit) (he : e = .ret ∨ e = .normal) (vs : List Value) (j : Nat) {s : Cells} (hj : L[j]? = some s) (hr : resAll P S B L rs vs) (hp : Post (resVal vs) B [s]) : bodyQ P rs Post e S [] B L :=
  ⟨he, rfl, vs, [s], hr, ⟨(L.set j []).flatten, pick_perm hj⟩, hp⟩
end
end Go.BL
namespace Go.BL
set_option linter.unusedVariables false
set_option linter.unusedSimpArgs false
set_option linter.unusedSectionVars false
open Go.Conc (G)
set_option linter.unusedVariables false
def edgesIn (o : Oper) (ex : List Nat) : Prop := ∀ e, e ∈ o.after.toList → Region.binds .any e = true → e.on ∈ ex
inductive Sched (ops : Array Oper) : List Nat → List Nat → Prop
  | nil {ex : List Nat} : (∀ i, i < ops.size → i ∈ ex) → Sched ops ex []
  | cons {ex π : List Nat} {m : Nat} {o : Oper} : ops[m]? = some o → m ∉ ex → edgesIn o ex → Sched ops (m :: ex) π → Sched ops ex (m :: π)
def edgesDown (ops : Array Oper) : Bool := (List.range ops.size).all fun i => match ops[i]? with | some o => o.after.toList.all fun e => !Region.binds .any e || Nat.blt e.on i | none => true
theorem edgesDown_spec {ops : Array Oper} (h : edgesDown ops = true) {i : Nat} {o : Oper} (ho : ops[i]? = some o) : ∀ e, e ∈ o.after.toList → Region.binds .any e = true → e.on < i := by
  intro e he hb
  have h1 := List.all_eq_true.1 h i (List.mem_range.2 (lt_of_some ho))
  rw [ho] at h1
  have h2 := List.all_eq_true.1 h1 e he
  simpa [hb] using h2
def Rep (n : Nat) (listed : Array Bool) (ex : List Nat) : Prop := ∀ i, (listed.getD i true = false ↔ (i < n ∧ i ∉ ex)) ∧ (listed.getD i false = true ↔ (i < n ∧ i ∈ ex))
theorem Rep.set {n : Nat} {listed : Array Bool} {ex : List Nat} (h : Rep n listed ex) {m : Nat} (hm : m < n) : Rep n (listed.setIfInBounds m true) (m :: ex) := by
  intro i
  have hsz : listed.size = n := by
    rcases Nat.lt_trichotomy listed.size n with hl | hl | hl
    · have h1 := (h listed.size).1
      have h2 := (h listed.size).2
      rw [Array.getD_eq_getD_getElem?, Array.getElem?_eq_none (Nat.le_refl _)] at h1 h2
      simp only [Option.getD_none, Bool.true_eq_false, false_iff, Bool.false_eq_true] at h1 h2
      by_cases hx : listed.size ∈ ex
      · exact absurd ⟨hl, hx⟩ h2
      · exact absurd ⟨hl, hx⟩ h1
    · exact hl
    · have h1 := (h n).1
      have h2 := (h n).2
      rw [Array.getD_eq_getD_getElem?, Array.getElem?_eq_getElem hl] at h1 h2
      simp only [Option.getD_some] at h1 h2
      cases hb : listed[n] with
      | true => exact absurd (h2.1 hb).1 (Nat.lt_irrefl _)
      | false => exact absurd (h1.1 hb).1 (Nat.lt_irrefl _)
  by_cases hi : i = m
  · subst hi
    simp [Array.getD_eq_getD_getElem?, hsz, hm]
  · have e1 : (listed.setIfInBounds m true).getD i true = listed.getD i true := by
      rw [Array.getD_eq_getD_getElem?, Array.getD_eq_getD_getElem?, Array.getElem?_setIfInBounds, if_neg (Ne.symm hi)]
    have e2 : (listed.setIfInBounds m true).getD i false = listed.getD i false := by
      rw [Array.getD_eq_getD_getElem?, Array.getD_eq_getD_getElem?, Array.getElem?_setIfInBounds, if_neg (Ne.symm hi)]
    rw [e1, e2, (h i).1, (h i).2]
    simp [hi]
theorem exists_ready {ops : Array Oper} (hd : edgesDown ops = true) {ex : List Nat} (h : ∃ i, i < ops.size ∧ i ∉ ex) : ∃ i o, ops[i]? = some o ∧ i ∉ ex ∧ edgesIn o ex := by
  obtain ⟨i, hi, hx⟩ := h
  induction i using Nat.strongRecOn with
  | _ i ih =>
    by_cases he : edgesIn ops[i] ex
    · exact ⟨i, ops[i], by simp [hi], hx, he⟩
    · have : ∃ e, e ∈ ops[i].after.toList ∧ Region.binds .any e = true ∧ e.on ∉ ex := by
        apply Classical.byContradiction
        intro hno
        exact he fun e h1 h2 => Classical.byContradiction fun h3 => hno ⟨e, h1, h2, h3⟩
      obtain ⟨e, h1, h2, h3⟩ := this
      have hlt := edgesDown_spec hd (i := i) (o := ops[i]) (by simp [hi]) e h1 h2
      exact ih e.on hlt (by omega) h3
theorem sched_go {ops : Array Oper} (hd : edgesDown ops = true) : ∀ (fuel t : Nat) (listed : Array Bool) (ex : List Nat), Rep ops.size listed ex → ((List.range ops.size).filter (fun i => decide (i ∉ ex))).length ≤ fuel →
    Sched ops ex (Region.linearise.go .any ops fuel t listed []) := by
  intro fuel
  induction fuel with
  | zero =>
    intro t listed ex hr hc
    simp only [Region.linearise.go, List.reverse_nil]
    refine .nil fun i hi => ?_
    apply Classical.byContradiction
    intro hx
    have : i ∈ (List.range ops.size).filter (fun i => decide (i ∉ ex)) := List.mem_filter.2 ⟨List.mem_range.2 hi, by simpa using hx⟩
    have := List.length_pos_of_mem this
    omega
  | succ fuel ih =>
    intro t listed ex hr hc
    simp only [Region.linearise.go]
    have hmem : ∀ i, i ∈ Region.ready .any ops listed ↔ ∃ o, ops[i]? = some o ∧ i ∉ ex ∧ edgesIn o ex := by
      intro i
      rw [mem_ready]
      constructor
      · rintro ⟨h1, o, ho, h2⟩
        refine ⟨o, ho, ((hr i).1.1 h1).2, fun e he hb => ?_⟩
        exact ((hr e.on).2.1 (by simpa using h2 e (Array.mem_toList_iff.1 he) hb)).2
      · rintro ⟨o, ho, hx, h2⟩
        refine ⟨(hr i).1.2 ⟨lt_of_some ho, hx⟩, o, ho, fun e he hb => ?_⟩
        exact (hr e.on).2.2 ⟨Nat.lt_trans (edgesDown_spec hd ho e (Array.mem_toList_iff.2 he) hb) (lt_of_some ho), h2 e (Array.mem_toList_iff.2 he) hb⟩
    show Sched ops ex (match (Region.ready .any ops listed)[t % (Region.ready .any ops listed).length]? with
      | some i => Region.linearise.go .any ops fuel (t / (Region.ready .any ops listed).length) (listed.setIfInBounds i true) [i]
      | none => [])
    cases hg : (Region.ready .any ops listed)[t % (Region.ready .any ops listed).length]? with
    | none =>
      refine .nil fun i hi => ?_
      apply Classical.byContradiction
      intro hx
      obtain ⟨j, o, ho, hjx, he⟩ := exists_ready hd ⟨i, hi, hx⟩
      have hj := (hmem j).2 ⟨o, ho, hjx, he⟩
      have hpos := List.length_pos_of_mem hj
      have := List.getElem?_eq_none_iff.1 hg
      have := Nat.mod_lt t hpos
      omega
    | some i =>
      obtain ⟨o, ho, hx, he⟩ := (hmem i).1 (List.mem_of_getElem? hg)
      show Sched ops ex (Region.linearise.go .any ops fuel (t / (Region.ready .any ops listed).length) (listed.setIfInBounds i true) [i])
      rw [linearise_go_acc, List.reverse_singleton, List.singleton_append]
      refine .cons ho hx he (ih _ _ _ (hr.set (lt_of_some ho)) ?_)
      have hlt : ((List.range ops.size).filter (fun j => decide (j ∉ i :: ex))).length < ((List.range ops.size).filter (fun j => decide (j ∉ ex))).length := by
        have hsub : (List.range ops.size).filter (fun j => decide (j ∉ i :: ex)) = ((List.range ops.size).filter (fun j => decide (j ∉ ex))).filter (fun j => decide (j ≠ i)) := by
          rw [List.filter_filter]
          apply List.filter_congr
          intro j _
          simp only [List.mem_cons, not_or, ne_eq, Bool.decide_and]
        rw [hsub]
        have hi : i ∈ (List.range ops.size).filter (fun j => decide (j ∉ ex)) := List.mem_filter.2 ⟨List.mem_range.2 (lt_of_some ho), by simpa using hx⟩
        exact List.length_filter_lt_length_iff_exists.2 ⟨i, hi, by simp⟩
      omega
theorem sched_of {P : PJ} {ops : Array Oper} (hm : P.follows .mixedOrders = true) (hd : edgesDown ops = true) (t : Nat) : Sched ops [] (Region.schedule (P.follows .mixedOrders) ops t) := by
  have : Region.schedule (P.follows .mixedOrders) ops t = Region.linearise.go .any ops ops.size t (Array.replicate ops.size false) [] := by
    simp [Region.schedule, hm, Region.linearise]
  rw [this]
  refine sched_go hd _ _ _ _ (fun i => ?_) ?_
  · simp only [Array.getD_eq_getD_getElem?, Array.getElem?_replicate]
    by_cases h : i < ops.size <;> simp [h]
  · exact Nat.le_trans (List.length_filter_le _ _) (by simp)
def conf (ops : Array Oper) (x y : Oper) : Bool := (match x.dst with | some d => (y.looksAt ops).contains d || y.dst == some d | none => false) || (match y.dst with | some d => (x.looksAt ops).contains d | none => false)
def hasEdge (x : Oper) (j : Nat) : Bool := x.after.toList.any fun e => Region.binds .any e && e.on == j
def orderly (ops : Array Oper) : Bool := (List.range ops.size).all fun i => (List.range ops.size).all fun j => match ops[i]?, ops[j]? with | some x, some y => i == j || !conf ops x y || hasEdge x j || hasEdge y i | _, _ => true
theorem orderly_spec {ops : Array Oper} (h : orderly ops = true) {i j : Nat} {x y : Oper} (hi : ops[i]? = some x) (hj : ops[j]? = some y) (hne : i ≠ j) (hc : conf ops x y = true) : hasEdge x j = true ∨ hasEdge y i = true := by
  have h1 := List.all_eq_true.1 h i (List.mem_range.2 (lt_of_some hi))
  have h2 := List.all_eq_true.1 h1 j (List.mem_range.2 (lt_of_some hj))
  rw [hi, hj] at h2
  simpa [hne, hc] using h2
theorem hasEdge_in {o : Oper} {j : Nat} {ex : List Nat} (h : hasEdge o j = true) (he : edgesIn o ex) : j ∈ ex := by
  obtain ⟨e, h1, h2⟩ := List.any_eq_true.1 h
  simp only [Bool.and_eq_true, beq_iff_eq] at h2
  exact h2.2 ▸ he e h1 h2.1
def sel : List Nat → Env → Env
  | [], _ => []
  | k :: ks, S => match get S k with
    | some v => (k, v) :: sel ks S
    | none => sel ks S
theorem sel_get : ∀ {ks : List Nat} {S : Env} {i : Nat} {v : Value}, get (sel ks S) i = some v → i ∈ ks ∧ get S i = some v
  | [], S, i, v, h => by cases h
  | k :: ks, S, i, v, h => by
    simp only [sel] at h
    cases hk : get S k with
    | none =>
      rw [hk] at h
      obtain ⟨h1, h2⟩ := sel_get h
      exact ⟨List.mem_cons_of_mem _ h1, h2⟩
    | some u =>
      rw [hk] at h
      simp only [get] at h
      cases hb : Nat.beq k i with
      | true =>
        rw [hb] at h
        have := Nat.eq_of_beq_eq_true hb
        subst this
        simp only [cond_true, Option.some.injEq] at h
        subst h
        exact ⟨List.mem_cons_self .., hk⟩
      | false =>
        rw [hb] at h
        obtain ⟨h1, h2⟩ := sel_get h
        exact ⟨List.mem_cons_of_mem _ h1, h2⟩
structure Pd where
  i : Nat
  o : Oper
  v : Value
  ρ : Env
def puts : List Pd → Array Value → Array Value
  | [], T => T
  | p :: r, T => puts r (putT T p.o.dst p.v)
def PendAg : List Pd → Array Value → Prop
  | [], _ => True
  | p :: r, T => Ag T p.ρ ∧ PendAg r (putT T p.o.dst p.v)
theorem puts_size : ∀ (pend : List Pd) (T : Array Value), (puts pend T).size = T.size
  | [], T => rfl
  | p :: r, T => by rw [puts, puts_size r, putT_size]
theorem putT_comm {T : Array Value} {x y : Option Tmp} {u v : Value} (h : ∀ d, x = some d → y ≠ some d) : putT (putT T x u) y v = putT (putT T y v) x u := by
  cases x with
  | none => rfl
  | some d =>
    cases y with
    | none => rfl
    | some c =>
      have : d ≠ c := fun e => h d rfl (by rw [e])
      simp only [putT]
      rw [Array.setIfInBounds_comm _ _ this]
theorem agPutOther {T : Array Value} {S : Env} {ks : List Nat} (hs : ∀ i v, get S i = some v → i ∈ ks) {x : Option Tmp} {u : Value} (hx : ∀ d, x = some d → d ∉ ks) : Ag (putT T x u) S ↔ Ag T S := by
  cases x with
  | none => exact Iff.rfl
  | some d =>
    refine forall_congr' fun i => forall_congr' fun v => imp_congr_right fun h => ?_
    have : d ≠ i := fun e => hx d rfl (e ▸ hs i v h)
    simp only [putT, Array.getElem?_setIfInBounds, if_neg this]
theorem conf_false {ops : Array Oper} {x y : Oper} (h : conf ops x y = false) : (∀ d, x.dst = some d → d ∉ y.looksAt ops) ∧ (∀ d, x.dst = some d → y.dst ≠ some d) ∧ (∀ d, y.dst = some d → d ∉ x.looksAt ops) := by
  unfold conf at h
  rw [Bool.or_eq_false_iff] at h
  obtain ⟨h1, h2⟩ := h
  refine ⟨fun d hd hm => ?_, fun d hd hm => ?_, fun d hd hm => ?_⟩
  · rw [hd] at h1; simp [hm] at h1
  · rw [hd] at h1; simp [hm] at h1
  · rw [hd] at h2; simp [hm] at h2
def inDom (ops : Array Oper) (p : Pd) : Prop := ∀ i v, get p.ρ i = some v → i ∈ p.o.looksAt ops
theorem pend_mid {ops : Array Oper} {p : Pd} (hp : inDom ops p) : ∀ (p1 p2 : List Pd) (T : Array Value), (∀ q, q ∈ p1 → conf ops q.o p.o = false ∧ inDom ops q) → PendAg (p1 ++ p :: p2) T →
    Ag T p.ρ ∧ puts (p1 ++ p2) (putT T p.o.dst p.v) = puts (p1 ++ p :: p2) T ∧ PendAg (p1 ++ p2) (putT T p.o.dst p.v)
  | [], p2, T, _, h => ⟨h.1, rfl, h.2⟩
  | q :: r, p2, T, hc, h => by
    obtain ⟨hq, hqd⟩ := hc q (List.mem_cons_self ..)
    obtain ⟨c1, c2, c3⟩ := conf_false hq
    obtain ⟨h1, h2, h3⟩ := pend_mid hp r p2 _ (fun q' hq' => hc q' (List.mem_cons_of_mem _ hq')) h.2
    refine ⟨(agPutOther hp c1).1 h1, ?_, ?_, ?_⟩
    · simp only [List.cons_append, puts]
      rw [← h2, putT_comm c2]
    · exact (agPutOther hqd c3).2 h.1
    · rw [← putT_comm c2]; exact h3
theorem pend_loud {ops : Array Oper} {o : Oper} {v : Value} : ∀ (pend : List Pd) (T : Array Value), (∀ q, q ∈ pend → conf ops q.o o = false ∧ inDom ops q) → PendAg pend T →
    puts pend (putT T o.dst v) = putT (puts pend T) o.dst v ∧ PendAg pend (putT T o.dst v) ∧ ∀ i, i ∈ o.looksAt ops → (puts pend T)[i]? = T[i]?
  | [], T, _, _ => ⟨rfl, trivial, fun _ _ => rfl⟩
  | q :: r, T, hc, h => by
    obtain ⟨hq, hqd⟩ := hc q (List.mem_cons_self ..)
    obtain ⟨c1, c2, c3⟩ := conf_false hq
    obtain ⟨h1, h2, h3⟩ := pend_loud r (putT T q.o.dst q.v) (fun q' hq' => hc q' (List.mem_cons_of_mem _ hq')) h.2
    refine ⟨?_, ⟨(agPutOther hqd c3).2 h.1, ?_⟩, fun i hi => ?_⟩
    · simp only [puts]; rw [← putT_comm c2]; exact h1
    · rw [← putT_comm c2]; exact h2
    · simp only [puts]
      rw [h3 i hi]
      cases hd : q.o.dst with
      | none => rfl
      | some d =>
        have : d ≠ i := fun e => c1 d hd (e ▸ hi)
        simp only [putT, Array.getElem?_setIfInBounds, if_neg this]
theorem pend_snoc : ∀ (pend : List Pd) (p : Pd) (T : Array Value), puts (pend ++ [p]) T = putT (puts pend T) p.o.dst p.v ∧ (PendAg (pend ++ [p]) T ↔ PendAg pend T ∧ Ag (puts pend T) p.ρ)
  | [], p, T => ⟨rfl, by simp [PendAg, puts]⟩
  | q :: r, p, T => by
    obtain ⟨h1, h2⟩ := pend_snoc r p (putT T q.o.dst q.v)
    refine ⟨h1, ?_⟩
    simp only [List.cons_append, PendAg, puts, h2, and_assoc]
def quiet (P : PJ) (n : Nat) (ops : Array Oper) (I : Kn → List Cells → Prop) (i : Nat) (o : Oper) (v : Value) (ρ : Env) : Prop :=
  ∀ D B L, I B L → opX P n ops i o (fun v' D' B' L' => v' = v ∧ D' = D ∧ B' = B ∧ L' = L) ρ D B L
def isPure (o : Oper) : Bool := match o.op with | .extract _ _ => true | .move _ => true | .assign _ => true | _ => false
structure PdOk (P : PJ) (n : Nat) (ops : Array Oper) (I : Kn → List Cells → Prop) (ℓ ex : List Nat) (p : Pd) : Prop where
  at_ : ops[p.i]? = some p.o
  notEx : p.i ∉ ex
  listed : p.i ∈ ℓ
  edges : edgesIn p.o ℓ
  dom : inDom ops p
  quiet : quiet P n ops I p.i p.o p.v p.ρ
  pure : isPure p.o = true → Go.BL.quiet P n ops (fun _ _ => True) p.i p.o p.v p.ρ
def Ordered : List Pd → Prop
  | [] => True
  | q :: r => (∀ p, p ∈ r → hasEdge q.o p.i = false ∧ q.i ≠ p.i) ∧ Ordered r
theorem orderedMid : ∀ {p1 : List Pd} {p : Pd} {p2 : List Pd}, Ordered (p1 ++ p :: p2) → (∀ q, q ∈ p1 → hasEdge q.o p.i = false ∧ q.i ≠ p.i) ∧ (∀ q, q ∈ p2 → p.i ≠ q.i) ∧ Ordered (p1 ++ p2)
  | [], p, p2, h => ⟨(fun q hq => by cases hq), fun q hq => (h.1 q hq).2, h.2⟩
  | r :: p1, p, p2, h => by
    obtain ⟨h1, h2, h3⟩ := orderedMid h.2
    refine ⟨fun q hq => ?_, h2, fun q hq => h.1 q ?_, h3⟩
    · rcases List.mem_cons.1 hq with rfl | hq
      · exact h.1 p (List.mem_append.2 (.inr (List.mem_cons_self ..)))
      · exact h1 q hq
    · rcases List.mem_append.1 hq with hq | hq
      · exact List.mem_append.2 (.inl hq)
      · exact List.mem_append.2 (.inr (List.mem_cons_of_mem _ hq))
theorem orderedSnoc : ∀ {pend : List Pd} {p : Pd}, Ordered pend → (∀ q, q ∈ pend → hasEdge q.o p.i = false ∧ q.i ≠ p.i) → Ordered (pend ++ [p])
  | [], p, _, _ => ⟨(fun q hq => by cases hq), trivial⟩
  | r :: pend, p, h, hp => by
    refine ⟨fun q hq => ?_, orderedSnoc h.2 fun q hq => hp q (List.mem_cons_of_mem _ hq)⟩
    rcases List.mem_append.1 hq with hq | hq
    · exact h.1 q hq
    · rw [List.mem_singleton.1 hq]; exact hp r (List.mem_cons_self ..)
def Closed (ops : Array Oper) (ex : List Nat) : Prop := ∀ i, i ∈ ex → ∀ o, ops[i]? = some o → edgesIn o ex
theorem Closed.cons {ops : Array Oper} {ex : List Nat} {m : Nat} {o : Oper} (h : Closed ops ex) (hm : ops[m]? = some o) (he : edgesIn o ex) : Closed ops (m :: ex) := fun i hi o' ho' e h1 h2 => by
  rcases List.mem_cons.1 hi with rfl | hi
  · rw [hm] at ho'; cases ho'; exact List.mem_cons_of_mem _ (he e h1 h2)
  · exact List.mem_cons_of_mem _ (h i hi o' ho' e h1 h2)
def AnyW {P : PJ} (C : Cx P) (k : List Item) (n : Nat) (ops : Array Oper) (I : Kn → List Cells → Prop) (ℓ : List Nat) (K : Post4) : Post4 := fun S D B L =>
  ∀ (T : Array Value) (ex : List Nat) (pend : List Pd) (π : List Nat), Sched ops ex π → Closed ops ex → (∀ i, i ∈ ex → i ∈ ℓ) → (∀ i, i ∈ ℓ → i ∈ ex ∨ ∃ p, p ∈ pend ∧ p.i = i) →
    (∀ p, p ∈ pend → PdOk P n ops I ℓ ex p) → Ordered pend → T.size = n → PendAg pend T → Ag (puts pend T) S → I B L →
    (∀ S' D' B' L' T', B.le B' → K S' D' B' L' → T'.size = n → Ag T' S' → C.X.R (G (fat C.b T' D' (.inRegion ops [] :: k)) C.cs) B' (L'.flatten ++ C.F)) →
    C.X.R (G (fat C.b T D (.inRegion ops π :: k)) C.cs) B (L.flatten ++ C.F)
section
variable {P : PJ} {C : Cx P} {k : List Item} {n : Nat} {ops : Array Oper} {I : Kn → List Cells → Prop} {ℓ : List Nat} {K : Post4} {S : Env} {D : List Deferred} {B : Kn} {L : List Cells}
theorem any_core (ho : orderly ops = true)
    (hdone : (∀ i, i < ops.size → i ∈ ℓ) → K S D B L)
    (hloud : ∀ m o, ops[m]? = some o → m ∉ ℓ → edgesIn o ℓ → opX P n ops m o (fun v D' B' L' => I B' L' ∧ AnyW C k n ops I (m :: ℓ) K (putS S o.dst v) D' B' L') (sel (o.looksAt ops) S) D B L) : AnyW C k n ops I ℓ K S D B L := by
  intro T ex pend π hs
  induction hs generalizing T pend with
  | @nil ex hall =>
    intro hcl hsub hcov hpd hord hn hpa hag hI hA
    have hp0 : pend = [] := by
      cases pend with
      | nil => rfl
      | cons p r => exact absurd (hall p.i (lt_of_some (hpd p (List.mem_cons_self ..)).at_)) (hpd p (List.mem_cons_self ..)).notEx
    subst hp0
    exact hA S D B L T (Kn.le.refl B) (hdone fun i hi => hsub i (hall i hi)) hn hag
  | @cons ex π m o hm hx he hs ih =>
    intro hcl hsub hcov hpd hord hn hpa hag hI hA
    have hcl' := hcl.cons hm he
    by_cases hml : m ∈ ℓ
    · rcases hcov m hml with h | ⟨p, hp, rfl⟩
      · exact absurd h hx
      · obtain ⟨p1, p2, rfl⟩ := List.append_of_mem hp
        have hpk := hpd p hp
        have hpo : p.o = o := by have := hpk.at_; rw [hm] at this; exact (Option.some.inj this).symm
        obtain ⟨o1, o2, o3⟩ := orderedMid hord
        have hconf : ∀ q, q ∈ p1 → conf ops q.o p.o = false ∧ inDom ops q := fun q hq => by
          have hqk := hpd q (List.mem_append.2 (.inl hq))
          refine ⟨?_, hqk.dom⟩
          cases hc : conf ops q.o p.o with
          | false => rfl
          | true =>
            rcases orderly_spec ho hqk.at_ hpk.at_ (o1 q hq).2 hc with h | h
            · rw [(o1 q hq).1] at h; cases h
            · exact absurd (hasEdge_in h (hpo ▸ he)) hqk.notEx
        obtain ⟨a1, a2, a3⟩ := pend_mid hpk.dom p1 p2 T hconf hpa
        refine (hpk.quiet D B L hI).2 C π k T hpk.at_ hn a1 ?_
        rintro v D' B' L' hle ⟨rfl, rfl, rfl, rfl⟩
        refine ih _ (p1 ++ p2) hcl' (fun i hi => ?_) (fun i hi => ?_) (fun q hq => ?_) o3 (by rw [putT_size, hn]) a3 (by rw [a2]; exact hag) hI hA
        · rcases List.mem_cons.1 hi with rfl | hi
          · exact hml
          · exact hsub i hi
        · rcases hcov i hi with h | ⟨q, hq, rfl⟩
          · exact .inl (List.mem_cons_of_mem _ h)
          · rcases List.mem_append.1 hq with hq | hq
            · exact .inr ⟨q, List.mem_append.2 (.inl hq), rfl⟩
            · rcases List.mem_cons.1 hq with rfl | hq
              · exact .inl (List.mem_cons_self ..)
              · exact .inr ⟨q, List.mem_append.2 (.inr hq), rfl⟩
        · have hq' : q ∈ p1 ++ p :: p2 := by
            rcases List.mem_append.1 hq with hq | hq
            · exact List.mem_append.2 (.inl hq)
            · exact List.mem_append.2 (.inr (List.mem_cons_of_mem _ hq))
          have hqk := hpd q hq'
          refine ⟨hqk.at_, fun hmem => ?_, hqk.listed, hqk.edges, hqk.dom, hqk.quiet, hqk.pure⟩
          rcases List.mem_cons.1 hmem with h | h
          · rcases List.mem_append.1 hq with hq | hq
            · exact (o1 q hq).2 h
            · exact o2 q hq h.symm
          · exact hqk.notEx h
    · have hel : edgesIn o ℓ := fun e h1 h2 => hsub _ (he e h1 h2)
      have hconf : ∀ q, q ∈ pend → conf ops q.o o = false ∧ inDom ops q := fun q hq => by
        have hqk := hpd q hq
        refine ⟨?_, hqk.dom⟩
        cases hc : conf ops q.o o with
        | false => rfl
        | true =>
          rcases orderly_spec ho hqk.at_ hm (fun e => hml (e ▸ hqk.listed)) hc with h | h
          · exact absurd (hasEdge_in h hqk.edges) hml
          · exact absurd (hasEdge_in h he) hqk.notEx
      have hsel : Ag T (sel (o.looksAt ops) S) := fun i v hv => by
        obtain ⟨h1, h2⟩ := sel_get hv
        rw [← (pend_loud (o := o) (v := undef) pend T hconf hpa).2.2 i h1]
        exact hag i v h2
      have hX := hloud m o hm hml hel
      refine hX.2 C π k T hm hn hsel ?_
      rintro v D' B' L' hle ⟨hI', hAny⟩
      obtain ⟨b1, b2, _⟩ := pend_loud (o := o) (v := v) pend T hconf hpa
      refine hAny _ (m :: ex) pend π hs hcl' (fun i hi => ?_) (fun i hi => ?_) (fun q hq => ?_) hord (by rw [putT_size, hn]) b2 (by rw [b1]; exact hag.putT (by rw [puts_size, hn]) hX.1 v) hI' fun S₂ D₂ B₂ L₂ T₂ hle₂ => hA S₂ D₂ B₂ L₂ T₂ (hle.trans hle₂)
      · rcases List.mem_cons.1 hi with rfl | hi
        · exact List.mem_cons_self ..
        · exact List.mem_cons_of_mem _ (hsub i hi)
      · rcases List.mem_cons.1 hi with rfl | hi
        · exact .inl (List.mem_cons_self ..)
        · exact (hcov i hi).imp (List.mem_cons_of_mem _) id
      · have hqk := hpd q hq
        refine ⟨hqk.at_, fun hmem => ?_, List.mem_cons_of_mem _ hqk.listed, fun e h1 h2 => List.mem_cons_of_mem _ (hqk.edges e h1 h2), hqk.dom, hqk.quiet, hqk.pure⟩
        rcases List.mem_cons.1 hmem with h | h
        · exact hml (h ▸ hqk.listed)
        · exact hqk.notEx h
def allListed (ops : Array Oper) (ℓ : List Nat) : Bool := (List.range ops.size).all fun i => ℓ.contains i
theorem any_done (ho : orderly ops = true) (ha : allListed ops ℓ = true) (h : K S D B L) : AnyW C k n ops I ℓ K S D B L :=
  any_core ho (fun _ => h) fun m o hm hml _ => by
    have := List.all_eq_true.1 ha m (List.mem_range.2 (lt_of_some hm))
    exact absurd (by simpa using this) hml
def readyL (ops : Array Oper) (ℓ : List Nat) : List Nat := (List.range ops.size).filter fun i => !ℓ.contains i && (match ops[i]? with | some o => o.after.toList.all fun e => !Region.binds .any e || ℓ.contains e.on | none => false)
theorem mem_readyL {m : Nat} {o : Oper} (hm : ops[m]? = some o) (hx : m ∉ ℓ) (he : edgesIn o ℓ) : m ∈ readyL ops ℓ := by
  refine List.mem_filter.2 ⟨List.mem_range.2 (lt_of_some hm), ?_⟩
  simp only [hm, Bool.and_eq_true, Bool.not_eq_true', List.all_eq_true, Bool.or_eq_true]
  refine ⟨by simpa using hx, fun e h1 => ?_⟩
  cases hb : Region.binds .any e with
  | false => exact .inl rfl
  | true => exact .inr (by simpa using he e h1 hb)
def eachOf : List Nat → (Nat → Prop) → Prop
  | [], _ => True
  | [m], F => F m
  | m :: r, F => F m ∧ eachOf r F
theorem eachOf_mem {F : Nat → Prop} : ∀ {rs : List Nat}, eachOf rs F → ∀ m, m ∈ rs → F m
  | [m], h, x, hx => by rw [List.mem_singleton.1 hx]; exact h
  | m :: m' :: r, h, x, hx => by
    rcases List.mem_cons.1 hx with rfl | hx
    · exact h.1
    · exact eachOf_mem h.2 x hx
theorem any_all (rs : List Nat) (ho : orderly ops = true) (hr : readyL ops ℓ = rs) (hne : allListed ops ℓ = false)
    (h : eachOf rs fun m => match ops[m]? with
      | some o => opX P n ops m o (fun v D' B' L' => I B' L' ∧ AnyW C k n ops I (m :: ℓ) K (putS S o.dst v) D' B' L') (sel (o.looksAt ops) S) D B L
      | none => True) : AnyW C k n ops I ℓ K S D B L :=
  any_core ho (fun hall => by
      have : allListed ops ℓ = true := List.all_eq_true.2 fun i hi => by simpa using hall i (List.mem_range.1 hi)
      rw [this] at hne; cases hne)
    fun m o hm hml he => by
      have := eachOf_mem h m (hr ▸ mem_readyL hm hml he)
      rw [hm] at this
      exact this
theorem any_takeG (i : Nat) {o : Oper} {v : Value} (hi : ops[i]? = some o) (hr : (readyL ops ℓ).contains i = true) (hd : dstOk n o.dst = true) (hq : quiet P n ops I i o v (sel (o.looksAt ops) S)) (hpu : isPure o = true → quiet P n ops (fun _ _ => True) i o v (sel (o.looksAt ops) S))
    (h : AnyW C k n ops I (i :: ℓ) K (putS S o.dst v) D B L) : AnyW C k n ops I ℓ K S D B L := by
  intro T ex pend π hs hcl hsub hcov hpd hord hn hpa hag hI hA
  have hrm : i ∈ readyL ops ℓ := by simpa using hr
  have hr2 := (List.mem_filter.1 hrm).2
  simp only [hi, Bool.and_eq_true, Bool.not_eq_true', List.all_eq_true, Bool.or_eq_true] at hr2
  obtain ⟨r1, r2⟩ := hr2
  have hil : i ∉ ℓ := by simpa using r1
  have hel : edgesIn o ℓ := fun e h1 h2 => by
    rcases r2 e h1 with h | h
    · rw [h2] at h; cases h
    · simpa using h
  let p : Pd := ⟨i, o, v, sel (o.looksAt ops) S⟩
  have hρ : Ag (puts pend T) p.ρ := fun j u hu => hag j u (sel_get hu).2
  obtain ⟨s1, s2⟩ := pend_snoc pend p T
  refine h T ex (pend ++ [p]) π hs hcl (fun j hj => List.mem_cons_of_mem _ (hsub j hj)) (fun j hj => ?_) (fun q hq' => ?_) (orderedSnoc hord fun q hq' => ?_) hn (s2.2 ⟨hpa, hρ⟩) (by rw [s1]; exact hag.putT (by rw [puts_size, hn]) hd v) hI hA
  · rcases List.mem_cons.1 hj with rfl | hj
    · exact .inr ⟨p, by simp, rfl⟩
    · rcases hcov j hj with h | ⟨q, hq, he⟩
      · exact .inl h
      · exact .inr ⟨q, List.mem_append.2 (.inl hq), he⟩
  · rcases List.mem_append.1 hq' with hq' | hq'
    · have hqk := hpd q hq'
      exact ⟨hqk.at_, hqk.notEx, List.mem_cons_of_mem _ hqk.listed, fun e h1 h2 => List.mem_cons_of_mem _ (hqk.edges e h1 h2), hqk.dom, hqk.quiet, hqk.pure⟩
    · rw [List.mem_singleton.1 hq']
      exact ⟨hi, fun hx => hil (hsub i hx), List.mem_cons_self .., fun e h1 h2 => List.mem_cons_of_mem _ (hel e h1 h2), fun j u hu => (sel_get hu).1, hq, hpu⟩
  · have hqk := hpd q hq'
    refine ⟨?_, fun e => hil (by have e' : q.i = i := e; rw [← e']; exact hqk.listed)⟩
    show hasEdge q.o i = false
    cases hb : hasEdge q.o i with
    | false => rfl
    | true => exact absurd (hasEdge_in hb hqk.edges) hil
theorem aTk (i : Nat) {o : Oper} {v : Value} (hi : ops[i]? = some o) (hr : (readyL ops ℓ).contains i = true) (hd : dstOk n o.dst = true) (hq : quiet P n ops I i o v (sel (o.looksAt ops) S)) (h : AnyW C k n ops I (i :: ℓ) K (putS S o.dst v) D B L) (hp : isPure o = false := by rfl) : AnyW C k n ops I ℓ K S D B L :=
  any_takeG i hi hr hd hq (fun e => by rw [hp] at e; cases e) h
theorem aTP (i : Nat) {o : Oper} {v : Value} (hi : ops[i]? = some o) (hr : (readyL ops ℓ).contains i = true) (hd : dstOk n o.dst = true) (hq : ∀ D B L, opX P n ops i o (fun v' D' B' L' => v' = v ∧ D' = D ∧ B' = B ∧ L' = L) (sel (o.looksAt ops) S) D B L)
    (h : AnyW C k n ops I (i :: ℓ) K (putS S o.dst v) D B L) : AnyW C k n ops I ℓ K S D B L :=
  any_takeG i hi hr hd (fun D B L _ => hq D B L) (fun _ D B L _ => hq D B L) h
theorem aOne (i : Nat) {o : Oper} (ho : orderly ops = true) (hi : ops[i]? = some o) (hr : readyL ops ℓ = [i])
    (h : opX P n ops i o (fun v D' B' L' => I B' L' ∧ AnyW C k n ops I (i :: ℓ) K (putS S o.dst v) D' B' L') (sel (o.looksAt ops) S) D B L) : AnyW C k n ops I ℓ K S D B L :=
  any_core ho (fun hall => by
      have hm : i ∈ readyL ops ℓ := by rw [hr]; exact List.mem_singleton.2 rfl
      have h2 := (List.mem_filter.1 hm).2
      have h3 := hall i (lt_of_some hi)
      simp [h3] at h2)
    fun m o' hm hml he => by
      have h1 := mem_readyL hm hml he
      rw [hr, List.mem_singleton] at h1
      subst h1
      rw [hi] at hm; cases hm
      exact h
def waits (ops : Array Oper) : Nat → List Nat → List Nat
  | 0, w => w
  | k + 1, w => waits ops k (w ++ (w.flatMap fun i => match ops[i]? with | some o => (o.after.toList.filter fun e => Region.binds .any e).map (·.on) | none => []).eraseDups.filter fun j => !w.contains j)
theorem waits_in {ops : Array Oper} {ex : List Nat} (hc : Closed ops ex) : ∀ (k : Nat) (w : List Nat), (∀ i, i ∈ w → i ∈ ex) → ∀ i, i ∈ waits ops k w → i ∈ ex
  | 0, w, h, i, hi => h i hi
  | k + 1, w, h, i, hi => by
    refine waits_in hc k _ (fun j hj => ?_) i hi
    rcases List.mem_append.1 hj with hj | hj
    · exact h j hj
    · have h1 := (List.mem_filter.1 hj).1
      rw [List.mem_eraseDups] at h1
      obtain ⟨x, hx, hj2⟩ := List.mem_flatMap.1 h1
      split at hj2
      · rename_i o ho
        obtain ⟨e, he, rfl⟩ := List.mem_map.1 hj2
        obtain ⟨he1, he2⟩ := List.mem_filter.1 he
        exact hc x (h x hx) o ho e he1 he2
      · cases hj2
def firstWaits (o : Oper) : List Nat := (o.after.toList.filter fun e => Region.binds .any e).map (·.on)
def isLast (ops : Array Oper) (m : Nat) (o : Oper) : Bool := (List.range ops.size).all fun i => Nat.beq i m || (waits ops 12 (firstWaits o)).contains i
theorem any_fin (m : Nat) {o : Oper} (ho : orderly ops = true) (hm : ops[m]? = some o) (hl : isLast ops m o = true) (hml : ℓ.contains m = false) (hall : allListed ops (m :: ℓ) = true)
    (h : opX P n ops m o (fun v D' B' L' => K (putS S o.dst v) D' B' L') (sel (o.looksAt ops) S) D B L) : AnyW C k n ops I ℓ K S D B L := by
  have hml' : m ∉ ℓ := by simpa using hml
  have hall' : ∀ i, i < ops.size → i = m ∨ i ∈ ℓ := fun i hi => by
    have := List.all_eq_true.1 hall i (List.mem_range.2 hi)
    simpa using this
  intro T ex pend π hs
  induction hs generalizing T pend with
  | @nil ex hex =>
    intro hcl hsub hcov hpd hord hn hpa hag hI hA
    exact absurd (hsub m (hex m (lt_of_some hm))) hml'
  | @cons ex π m' o' hm' hx he hs ih =>
    intro hcl hsub hcov hpd hord hn hpa hag hI hA
    have hcl' := hcl.cons hm' he
    by_cases hmm : m' = m
    · subst hmm
      rw [hm] at hm'; cases hm'
      have hexall : ∀ i, i < ops.size → i ≠ m' → i ∈ ex := fun i hi hne => by
        have h1 := List.all_eq_true.1 hl i (List.mem_range.2 hi)
        have h2 : i ∈ waits ops 12 (firstWaits o) := by
          rcases Bool.or_eq_true_iff.1 h1 with h1 | h1
          · exact absurd (Nat.eq_of_beq_eq_true h1) hne
          · simpa using h1
        refine waits_in hcl 12 _ (fun j hj => ?_) i h2
        obtain ⟨e, he1, rfl⟩ := List.mem_map.1 hj
        obtain ⟨h3, h4⟩ := List.mem_filter.1 he1
        exact he e h3 h4
      have hp0 : pend = [] := by
        cases pend with
        | nil => rfl
        | cons p r =>
          have hpk := hpd p (List.mem_cons_self ..)
          by_cases hpm : p.i = m'
          · exact absurd (hpm ▸ hpk.listed) hml'
          · exact absurd (hexall p.i (lt_of_some hpk.at_) hpm) hpk.notEx
      subst hp0
      have hπ : π = [] := by
        cases hs with
        | nil _ => rfl
        | @cons _ π' m2 o2 h2 hx2 he2 hs2 =>
          exfalso
          by_cases e : m2 = m'
          · exact hx2 (e ▸ List.mem_cons_self ..)
          · exact hx2 (List.mem_cons_of_mem _ (hexall m2 (lt_of_some h2) e))
      subst hπ
      have hsel : Ag T (sel (o.looksAt ops) S) := fun i v hv => hag i v (sel_get hv).2
      refine h.2 C [] k T hm hn hsel fun v D' B' L' hle hK => ?_
      exact hA _ D' B' L' _ hle hK (by rw [putT_size, hn]) (Ag.putT (T := T) hag hn h.1 v)
    · have hml2 : m' ∈ ℓ := (hall' m' (lt_of_some hm')).resolve_left hmm
      rcases hcov m' hml2 with h' | ⟨p, hp, rfl⟩
      · exact absurd h' hx
      · obtain ⟨p1, p2, rfl⟩ := List.append_of_mem hp
        have hpk := hpd p hp
        have hpo : p.o = o' := by have := hpk.at_; rw [hm'] at this; exact (Option.some.inj this).symm
        obtain ⟨o1, o2, o3⟩ := orderedMid hord
        have hconf : ∀ q, q ∈ p1 → conf ops q.o p.o = false ∧ inDom ops q := fun q hq => by
          have hqk := hpd q (List.mem_append.2 (.inl hq))
          refine ⟨?_, hqk.dom⟩
          cases hc : conf ops q.o p.o with
          | false => rfl
          | true =>
            rcases orderly_spec ho hqk.at_ hpk.at_ (o1 q hq).2 hc with h | h
            · rw [(o1 q hq).1] at h; cases h
            · exact absurd (hasEdge_in h (hpo ▸ he)) hqk.notEx
        obtain ⟨a1, a2, a3⟩ := pend_mid hpk.dom p1 p2 T hconf hpa
        refine (hpk.quiet D B L hI).2 C π k T hpk.at_ hn a1 ?_
        rintro v D' B' L' hle ⟨rfl, rfl, rfl, rfl⟩
        refine ih _ (p1 ++ p2) hcl' (fun i hi => ?_) (fun i hi => ?_) (fun q hq => ?_) o3 (by rw [putT_size, hn]) a3 (by rw [a2]; exact hag) hI hA
        · rcases List.mem_cons.1 hi with rfl | hi
          · exact hml2
          · exact hsub i hi
        · rcases hcov i hi with h | ⟨q, hq, rfl⟩
          · exact .inl (List.mem_cons_of_mem _ h)
          · rcases List.mem_append.1 hq with hq | hq
            · exact .inr ⟨q, List.mem_append.2 (.inl hq), rfl⟩
            · rcases List.mem_cons.1 hq with rfl | hq
              · exact .inl (List.mem_cons_self ..)
              · exact .inr ⟨q, List.mem_append.2 (.inr hq), rfl⟩
        · have hq' : q ∈ p1 ++ p :: p2 := by
            rcases List.mem_append.1 hq with hq | hq
            · exact List.mem_append.2 (.inl hq)
            · exact List.mem_append.2 (.inr (List.mem_cons_of_mem _ hq))
          have hqk := hpd q hq'
          refine ⟨hqk.at_, fun hmem => ?_, hqk.listed, hqk.edges, hqk.dom, hqk.quiet, hqk.pure⟩
          rcases List.mem_cons.1 hmem with h | h
          · rcases List.mem_append.1 hq with hq | hq
            · exact (o1 q hq).2 h
            · exact o2 q hq h.symm
          · exact hqk.notEx h
theorem w_draw {id : Nat} {l : List Oper} {Q : Exit → Post4} (I : Kn → List Cells → Prop) (hm : P.follows .mixedOrders = true) (hd : edgesDown l.toArray = true) (hI : I B L) (h : ∀ (C : Cx P) (k : List Item), AnyW C k n l.toArray I [] (Q .normal) S D B L) : wpS P n (.region id l.toArray true) Q S D B L := fun C k T hn hT hA => by
  refine C.X.step rfl fun w s => ⟨_, _, _, B, L.flatten ++ C.F, st_region_draw, by simp, ⟨Kn.le.refl B, ⟨s.ro, s.own, s.nodup, s.apart⟩, Nat.le_refl _, fun _ _ _ => rfl, fun b o hb => .inl (by rw [hb]; rfl), fun p hp => .inl ⟨p, hp, rfl⟩, fun _ => rfl, rfl, rfl, rfl⟩, ?_⟩
  exact h C k T [] [] _ (sched_of hm hd _) (fun i hi => by cases hi) (fun i hi => by cases hi) (fun i hi => by cases hi) (fun p hp => by cases hp) trivial hn trivial hT hI fun S' D' B' L' T' hle hq hn' hT' =>
    C.X.ctl rfl (fun w => st_region_end) (hA .normal S' D' B' L' T' hle hq hn' hT')
end
end Go.BL
namespace Go.BL
set_option linter.unusedVariables false
set_option linter.unusedSimpArgs false
set_option linter.unusedSectionVars false
section
variable {P : PJ} {C : Cx P} {k : List Item} {n : Nat} {Q : Exit → Post4} {S : Env} {D : List Deferred} {B : Kn} {L : List Cells}
theorem w_seq_bool {id : Nat} {l : List Oper} {y : Code} (d : Nat) (e : Bool) (ks : List Nat) (h : runW P n l.toArray 0 l (fun S₂ D₂ B₂ L₂ => D₂ = D ∧ B₂ = B ∧ L₂ = L ∧ get S₂ d = some (.bool e) ∧ Sub (sel ks S) S₂) S D B L)
    (h' : wpS P n y Q ((d, .bool e) :: sel ks S) D B L) : wpS P n (.seq (.region id l.toArray false) y) Q S D B L :=
  w_cut (fun S₂ D₂ B₂ L₂ => D₂ = D ∧ B₂ = B ∧ L₂ = L ∧ get S₂ d = some (.bool e) ∧ Sub (sel ks S) S₂) (w_region h) fun S₂ D₂ B₂ L₂ _ ⟨h1, h2, h3, h4, h5⟩ => by
    subst h1; subst h2; subst h3
    exact wKp ((d, .bool e) :: sel ks S) ⟨h4, h5⟩ h'
theorem w_seq_boolD {id : Nat} {l : List Oper} {y : Code} (d : Nat) (e : Bool) (ks : List Nat) (I : Kn → List Cells → Prop) (hm : P.follows .mixedOrders = true) (hd : edgesDown l.toArray = true) (hI : I B L)
    (h : ∀ (C : Cx P) (k : List Item), AnyW C k n l.toArray I [] (fun S₂ D₂ B₂ L₂ => D₂ = D ∧ B₂ = B ∧ L₂ = L ∧ get S₂ d = some (.bool e) ∧ Sub (sel ks S) S₂) S D B L)
    (h' : wpS P n y Q ((d, .bool e) :: sel ks S) D B L) : wpS P n (.seq (.region id l.toArray true) y) Q S D B L :=
  w_cut (fun S₂ D₂ B₂ L₂ => D₂ = D ∧ B₂ = B ∧ L₂ = L ∧ get S₂ d = some (.bool e) ∧ Sub (sel ks S) S₂) (w_draw I hm hd hI h) fun S₂ D₂ B₂ L₂ _ ⟨h1, h2, h3, h4, h5⟩ => by
    subst h1; subst h2; subst h3
    exact wKp ((d, .bool e) :: sel ks S) ⟨h4, h5⟩ h'
theorem leafB {S₂ : Env} {d : Nat} {x e : Bool} (hx : get S₂ d = some (.bool x)) (he : x = e) : get S₂ d = some (.bool e) := by rw [hx, he]
theorem a_split {ops : Array Oper} {I : Kn → List Cells → Prop} {ℓ : List Nat} {K : Post4} {d : Nat} {t : Bool} (hb : get S d = some (.bool t)) (h1 : t = true → AnyW C k n ops I ℓ K ((d, .bool true) :: S) D B L) (h2 : t = false → AnyW C k n ops I ℓ K ((d, .bool false) :: S) D B L) : AnyW C k n ops I ℓ K S D B L := by
  have key : ∀ (S' : Env), (∀ i v, get S' i = some v → get S i = some v) → AnyW C k n ops I ℓ K S' D B L → AnyW C k n ops I ℓ K S D B L :=
    fun S' hs h T ex pend π a1 a0 a2 a3 a4 a5 a6 a7 a8 a9 hA => h T ex pend π a1 a0 a2 a3 a4 a5 a6 a7 (fun i v hv => a8 i v (hs i v hv)) a9 hA
  have get_same : ∀ (u : Bool), t = u → ∀ i v, get ((d, Value.bool u) :: S) i = some v → get S i = some v := by
    intro u hu i v hv
    simp only [get] at hv
    cases hbe : Nat.beq d i with
    | true =>
      rw [hbe] at hv
      simp only [cond_true, Option.some.injEq] at hv
      have := Nat.eq_of_beq_eq_true hbe
      subst this; subst hu; rw [hb, ← hv]
    | false => rw [hbe] at hv; exact hv
  cases t with
  | true => exact key _ (get_same true rfl) (h1 rfl)
  | false => exact key _ (get_same false rfl) (h2 rfl)
@[reducible] def same (B : Kn) (L : List Cells) : Kn → List Cells → Prop := fun B' L' => B' = B ∧ L' = L
theorem q_of {ops : Array Oper} {i : Nat} {o : Oper} {v : Value} {ρ : Env} (h : ∀ D, opX P n ops i o (fun v' D' B' L' => v' = v ∧ D' = D ∧ B' = B ∧ L' = L) ρ D B L) : quiet P n ops (same B L) i o v ρ := by
  rintro D _ _ ⟨rfl, rfl⟩; exact h D
end
end Go.BL
namespace Go.BL
set_option linter.unusedVariables false
set_option linter.unusedSimpArgs false
set_option linter.unusedSectionVars false
def keepsL : List Nat → List Cells → List Cells → Prop
  | [], _, _ => True
  | j :: js, L, L' => L'[j]? = L[j]? ∧ keepsL js L L'
@[reducible] def keeps (B : Kn) (js : List Nat) (L : List Cells) : Kn → List Cells → Prop := fun B' L' => B.le B' ∧ keepsL js L L'
theorem keepsL.refl : ∀ (js : List Nat) (L : List Cells), keepsL js L L
  | [], _ => trivial
  | _ :: js, L => ⟨rfl, keepsL.refl js L⟩
section
variable {P : PJ} {C : Cx P} {k : List Item} {n : Nat} {B : Kn} {L : List Cells}
theorem q_ofI {ops : Array Oper} {I : Kn → List Cells → Prop} {i : Nat} {o : Oper} {v : Value} {ρ : Env} (h : ∀ D B L, I B L → opX P n ops i o (fun v' D' B' L' => v' = v ∧ D' = D ∧ B' = B ∧ L' = L) ρ D B L) : quiet P n ops I i o v ρ := h
end
end Go.BL
namespace Go.BL
set_option linter.unusedVariables false
set_option linter.unusedSimpArgs false
set_option linter.unusedSectionVars false
open Go.Conc (G)
set_option linter.unusedVariables false
def VecL (l : Cells) (p : Option Addr) (n c : Nat) (T : TypeId) (sz : Nat) (vs : List Value) : Prop :=
  vs.length = n * sz ∧ ((p = none ∧ n = 0 ∧ c = 0 ∧ l = []) ∨ ∃ (b : Nat) (arr : List Value), p = some ⟨b, 0, none⟩ ∧ arr.length = c * sz ∧ arr.take (n * sz) = vs ∧ l = box1 b arr T ∧ n ≤ c)
theorem VecL.nil (T : TypeId) (sz : Nat) : VecL [] none 0 0 T sz [] := ⟨by simp, .inl ⟨rfl, rfl, rfl, rfl⟩⟩
theorem VecL.lit {b : Nat} {arr : List Value} {T : TypeId} {sz n : Nat} (h : arr.length = n * sz) : VecL (box1 b arr T) (some ⟨b, 0, none⟩) n n T sz arr :=
  ⟨h, .inr ⟨b, arr, rfl, h, by rw [← h]; simp, rfl, Nat.le_refl _⟩⟩
theorem growBy_le (m : Nat) : ∀ (r c : Nat), 256 ≤ c → c ≤ 2 * m → Builtin.growBy m r c ≤ 2 * m
  | 0, c, _, h => h
  | r + 1, c, h0, h => by
    simp only [Builtin.growBy]
    split
    · exact h
    · exact growBy_le m r _ (by omega) (by omega)
theorem nextslicecap_le {need cap : Nat} (h : cap < need) : Builtin.nextslicecap need cap ≤ 2 * need := by
  unfold Builtin.nextslicecap
  split
  · omega
  · split
    · omega
    · exact growBy_le need 4 cap (by omega) (by omega)
def SrcAt (B : Kn) (L : Cells) (q : Option Addr) (ws : List Value) : Prop := match q with
  | none => ws = []
  | some a => ∀ j v, ws[j]? = some v → CellAt B L (a.add j) v
theorem SrcAt.app {B : Kn} {L F : Cells} {q : Option Addr} {ws : List Value} (h : SrcAt B L q ws) : SrcAt B (L ++ F) q ws := by
  cases q with
  | none => exact h
  | some a => exact fun j v hj => (h j v hj).app
theorem hb_firstCells {P : PJ} {B : Kn} {L : Cells} {q : Option Addr} {ws : List Value} {sz m c : Nat} (hs : SrcAt B L q ws) (hl : ws.length = m * sz) {Q : Array Value → Kn → Cells → Prop} (h : Q ws.toArray B L) : hb P (Builtin.firstCells sz m (.slice q m c)) Q B L := by
  cases q with
  | none =>
    obtain rfl : ws = [] := hs
    exact h
  | some a =>
    simp only [Builtin.firstCells, loadCells]
    rw [← hl]
    exact hb_loadCellsFrom ws 0 #[] (fun j v hj => by simpa using hs j v hj) (by simpa using h)
theorem setAt_length : ∀ (l : List Value) (i : Nat) (vs : List Value), (setAt l i vs).length = l.length
  | [], i, [] => by cases i <;> rfl
  | [], i, v :: vs => by cases i <;> rfl
  | x :: l, 0, [] => rfl
  | x :: l, i + 1, [] => rfl
  | x :: l, 0, v :: vs => by simp [setAt, setAt_length l 0 vs]
  | x :: l, i + 1, v :: vs => by simp [setAt, setAt_length l i (v :: vs)]
theorem setAt_take : ∀ (l : List Value) (i : Nat) (vs : List Value), i + vs.length ≤ l.length → (setAt l i vs).take (i + vs.length) = l.take i ++ vs
  | l, i, [], h => by simp [setAt_nil]
  | [], i, v :: vs, h => by simp at h
  | x :: l, 0, v :: vs, h => by
    have := setAt_take l 0 vs (by simpa using h)
    simp only [Nat.zero_add] at this
    simp [setAt, this]
  | x :: l, i + 1, v :: vs, h => by
    have := setAt_take l i (v :: vs) (by simp only [List.length_cons] at h ⊢; omega)
    simp only [setAt, List.take_succ_cons, List.cons_append, List.length_cons] at this ⊢
    rw [show i + 1 + (vs.length + 1) = (i + (vs.length + 1)) + 1 from by omega, List.take_succ_cons, this]
section
variable {P : PJ} {n : Nat} {ops : Array Oper} {i : Nat} {K : PostV} {S : Env} {D : List Deferred} {B : Kn} {L : List Cells}
variable {dst : Option Tmp} {ty : TypeId} {pos : String} {after : Array Edge} {g : Option (Nat × Bool)}
def elemOk (P : Program) (t e : TypeId) (sz by_ : Nat) : Bool := match P.underlying t, P.info? e with
  | some (.slice e'), some i => e' == e && i.size == sz && i.bytes == by_ && Nat.blt 0 by_ && (match i.zero with | some z => z.cells.size == sz | none => false)
  | _, _ => false
theorem hb_askRoom {k : Nat} {Q : Unit → Kn → Cells → Prop} {B : Kn} {L : Cells} (h : Q () B L) : hb P (askRoom k) Q B L := by
  unfold askRoom
  split
  · exact ⟨rfl, h⟩
  · exact h
theorem zeroCells_size (z : Array Value) (k : Nat) : (Builtin.zeroCells z k).size = k * z.size := by simp [Builtin.zeroCells]
theorem w_append {t u e : TypeId} {x y : Operand} {sz by_ m c d c2 : Nat} {p q : Option Addr} {vs ws : List Value} {l : Cells} (j : Nat) (hj : L[j]? = some l) (hv : VecL l p m c e sz vs) (hg : guardOk ops S g = some true) (hd : dstOk n dst = true)
    (he : elemOk P t e sz by_ = true) (hu : (match P.underlying u with | some (.slice _) => true | _ => false) = true) (hx : ev S x = some (.slice p m c)) (hy : ev S y = some (.slice q d c2)) (hs : SrcAt B L.flatten q ws) (hl : ws.length = d * sz) (hone : ws.all oneC = true) (hb1 : (m + d) * by_ ≤ 140737488355328)
    (h : ∀ l' p' c', VecL l' p' (m + d) c' e sz (vs ++ ws) → K (.slice p' (m + d) c') D B (L.set j l')) : opX P n ops i ⟨dst, .call ⟨.builtin .append, #[x, y], #[t, u]⟩, ty, pos, after, g⟩ K S D B L :=
  opX_hb hg hd fun ρ hρ F => by
    unfold elemOk at he
    split at he
    · rename_i e' inf hut hie
      simp only [Bool.and_eq_true, beq_iff_eq] at he
      obtain ⟨⟨⟨⟨rfl, hsz⟩, hby⟩, hpos⟩, hz⟩ := he
      cases hzo : inf.zero with
      | none => rw [hzo] at hz; cases hz
      | some z =>
        rw [hzo] at hz
        have hz' : z.cells.size = sz := by simpa using hz
        have hsi : sizeIs P e' = some sz := by simp [sizeIs, hie, hsz]
        have hzi : zeroOf P e' = some z := by simp [zeroOf, hie, hzo]
        obtain ⟨du, hdu, hnoint⟩ : ∃ du, P.underlying u = some du ∧ (match du with | .slice _ => true | _ => false) = true := by
          cases hq : P.underlying u with
          | none => rw [hq] at hu; cases hu
          | some du => exact ⟨du, rfl, by rw [hq] at hu; cases du <;> simp_all⟩
        obtain ⟨e2, rfl⟩ : ∃ e2, du = .slice e2 := by cases du <;> first | exact ⟨_, rfl⟩ | cases hnoint
        obtain ⟨rr, hp1, _⟩ := set_perm F [] hj
        have hset : ∀ l', ((L.set j l').flatten ++ F).Perm (l' ++ rr) := fun l' => by
          obtain ⟨r2, a1, a2⟩ := set_perm F l' hj
          have : rr.Perm r2 := (List.perm_append_left_iff l).1 (hp1.symm.trans a1)
          exact a2.trans (List.Perm.append_left l' this.symm)
        obtain ⟨hvl, hcase⟩ := hv
        simp only [execOp, resolve, hb_bind, hb_pure, invoke, builtin, Builtin.append_, List.map_toArray, List.map_cons, List.map_nil, hρ x _ hx, hρ y _ hy, List.getElem?_toArray, List.getElem?_cons_zero, List.getElem?_cons_succ, hb_underlying hut, hb_underlying hdu, hb_sizeOf hsi, Bool.false_eq_true, if_false, Builtin.lenOf, Bool.not_false, if_true]
        by_cases hfit : m + d ≤ c
        · rw [if_pos hfit]
          simp only [hb_bind]
          refine hb_firstCells hs.app hl ?_
          rcases hcase with ⟨rfl, rfl, rfl, rfl⟩ | ⟨b, arr, rfl, ha, ht, rfl, hmc⟩
          · simp only [hb_pure]
            obtain rfl : d = 0 := by omega
            have hw : ws = [] := List.eq_nil_of_length_eq_zero (by simpa using hl)
            have hvn : vs = [] := List.eq_nil_of_length_eq_zero (by simpa using hvl)
            refine ⟨L, .of (.refl _), ?_⟩
            have := h [] none 0 ⟨by simp [hw, hvn], .inl ⟨rfl, rfl, rfl, rfl⟩⟩
            rwa [set_self hj] at this
          · simp only [hb_bind]
            have hoff : (Addr.add ⟨b, 0, none⟩ (m * sz)).off = m * sz := by unfold Addr.add; split <;> simp_all
            have hblk : (Addr.add ⟨b, 0, none⟩ (m * sz)).block = b := by unfold Addr.add; split <;> rfl
            have hspt : (Addr.add ⟨b, 0, none⟩ (m * sz)).spot = none := by unfold Addr.add; split <;> rfl
            have hlen : m * sz + ws.length ≤ arr.length := by rw [ha, hl, ← Nat.add_mul]; exact Nat.mul_le_mul_right sz hfit
            refine hb_storeCells (T := e') (L₁ := rr) hspt ws 0 arr _ hone (by rw [hblk]; exact hp1) (by rw [hoff, Nat.add_zero]; exact hlen) fun L' hp => ?_
            simp only [hb_pure]
            rw [hblk, hoff, Nat.add_zero] at hp
            refine ⟨L.set j (box1 b (setAt arr (m * sz) ws) e'), (Sup.of (hp.trans (hset (box1 b (setAt arr (m * sz) ws) e')).symm)), h _ _ _ ⟨?_, .inr ⟨b, _, rfl, by rw [setAt_length, ha], ?_, rfl, hfit⟩⟩⟩
            · rw [List.length_append, hvl, hl, Nat.add_mul]
            · rw [Nat.add_mul, ← hl, setAt_take _ _ _ hlen, ht]
        · rw [if_neg hfit]
          have hcap : c < m + d := by omega
          have hbig : ¬ (Builtin.nextslicecap (m + d) c * by_ > 2 ^ 48) := by
            have h1 := nextslicecap_le hcap
            have h2 : Builtin.nextslicecap (m + d) c * by_ ≤ 2 * (m + d) * by_ := Nat.mul_le_mul_right _ h1
            have h3 : 2 * (m + d) * by_ = 2 * ((m + d) * by_) := by rw [Nat.mul_assoc]
            omega
          have hby0 : inf.bytes ≠ 0 := by rw [hby]; have := hpos; simp at this; omega
          have hby1 : by_ ≠ 0 := by rw [← hby]; exact hby0
          simp only [hb_bind, hb_typeInfo hie, hby, hbig, if_false, false_or, hby1, and_false]
          intro nc hf1 hf2
          obtain ⟨tt, rfl⟩ := hf2 rfl
          have hnc : m + d ≤ Question.cut (.appendCap (m + d) c e') tt := by simp only [Question.cut]; omega
          generalize Question.cut (.appendCap (m + d) c e') tt = nc at *
          simp only [hb_bind, hb_spure, hb_typeInfo hie]
          refine hb_askRoom ?_
          have hold : SrcAt B (L.flatten ++ F) p vs := by
            rcases hcase with ⟨rfl, rfl, rfl, rfl⟩ | ⟨b, arr, rfl, ha, ht, rfl, hmc⟩
            · exact List.eq_nil_of_length_eq_zero (by simpa using hvl)
            · intro k v hk
              have hv' : arr[k]? = some v := by
                rw [← ht, List.getElem?_take] at hk
                split at hk
                · exact hk
                · cases hk
              rw [Addr.add_off _ _ rfl, Nat.zero_add]
              exact ⟨rfl, arr.toArray, e', (0, 0), .inr (List.mem_append.2 (.inl (List.mem_flatten.2 ⟨_, List.mem_of_getElem? hj, List.mem_cons_self ..⟩))), by simpa using hv'⟩
          rw [hb_bind]
          refine hb_firstCells hold hvl ?_
          rw [hb_bind]
          refine hb_firstCells hs.app hl ?_
          rw [hb_bind, hb_zeroValue hzi, hb_bind]
          refine ⟨rfl, fun b _ _ => ?_⟩
          have hzs : (Builtin.zeroCells z.cells (nc - (m + d))).size = (nc - (m + d)) * sz := by rw [zeroCells_size, hz']
          have harr : vs.toArray ++ ws.toArray ++ Builtin.zeroCells z.cells (nc - (m + d)) = (vs ++ ws ++ (Builtin.zeroCells z.cells (nc - (m + d))).toList).toArray := by
            apply Array.ext'; simp
          simp only [hb_spure, hb_pure]
          rw [harr]
          let r0 : List Value := (Builtin.zeroCells z.cells (nc - (m + d))).toList
          have hr0 : r0.length = (nc - (m + d)) * sz := by simp only [r0, Array.length_toList]; exact hzs
          refine ⟨L.set j (box1 b (vs ++ ws ++ r0) e'), ⟨l, ?_⟩, h _ _ _ ⟨?_, .inr ⟨b, vs ++ ws ++ r0, rfl, ?_, ?_, rfl, hnc⟩⟩⟩
          · refine (List.Perm.cons _ hp1).trans (List.Perm.trans ?_ (List.Perm.append_right l (hset (box1 b (vs ++ ws ++ r0) e')).symm))
            show ((b, _) :: (l ++ rr)).Perm (((b, _) :: rr) ++ l)
            exact List.Perm.cons _ List.perm_append_comm
          · rw [List.length_append, hvl, hl, Nat.add_mul]
          · rw [List.length_append, List.length_append, hvl, hl, hr0, ← Nat.add_mul, ← Nat.add_mul, Nat.add_sub_cancel' hnc]
          · rw [List.take_append_of_le_length (by rw [List.length_append, hvl, hl, Nat.add_mul]; exact Nat.le_refl _), List.take_of_length_le (by rw [List.length_append, hvl, hl, Nat.add_mul]; exact Nat.le_refl _)]
    · cases he
end
end Go.BL
namespace Go.BL
set_option linter.unusedVariables false
set_option linter.unusedSimpArgs false
set_option linter.unusedSectionVars false
open Go.Conc (G)
set_option linter.unusedVariables false
def fillL (pl : Nat → Option (Nat × Nat)) : List Value → List (Nat × Value) → Option (List Value)
  | l, [] => some l
  | l, (i, v) :: r => match pl i with
    | some (off, sz) => bif Nat.beq v.cells.toList.length sz && Nat.ble (off + sz) l.length then fillL pl (setAt l off v.cells.toList) r else none
    | none => none
theorem fold_set (off : Nat) : ∀ (cs : List Value) (k : Nat) (a : Array Value), ((cs.zipIdx k).foldl (fun a (x : Value × Nat) => a.setIfInBounds (off + x.2) x.1) a).toList = setAt a.toList (off + k) cs
  | [], k, a => by simp [setAt_nil]
  | c :: cs, k, a => by
    rw [List.zipIdx_cons, List.foldl_cons, fold_set off cs (k + 1)]
    rw [setAt_cons]
    simp [Nat.add_assoc]
theorem fill_spec (pl : Nat → Option (Nat × Nat)) : ∀ (parts : List (Nat × Value)) (a : Array Value) (l' : List Value), fillL pl a.toList parts = some l' → Instr.fill pl a parts = some l'.toArray
  | [], a, l', h => by
    simp only [fillL, Option.some.injEq] at h
    subst h
    simp [Instr.fill]
  | (i, v) :: r, a, l', h => by
    simp only [fillL] at h
    split at h
    · rename_i off sz hpl
      cases hc : (Nat.beq v.cells.toList.length sz && Nat.ble (off + sz) a.toList.length) with
      | false => rw [hc] at h; cases h
      | true =>
        rw [hc] at h
        simp only [cond_true] at h
        rw [Bool.and_eq_true] at hc
        have h1 : v.cells.size = sz := by have := Nat.eq_of_beq_eq_true hc.1; simpa using this
        have h2 : off + sz ≤ a.size := by have := Nat.le_of_ble_eq_true hc.2; simpa using this
        simp only [Instr.fill, hpl, h1, ne_eq, not_true_eq_false, decide_false, Bool.false_or]
        rw [if_neg (by simp; omega)]
        have hf := fold_set off v.cells.toList 0 a
        have e : (v.cells.zipIdx.foldl (fun cs (x : Value × Nat) => cs.setIfInBounds (off + x.2) x.1) a).toList = setAt a.toList off v.cells.toList := by
          rw [← Array.foldl_toList, Array.toList_zipIdx]
          simpa using hf
        refine fill_spec pl r _ l' ?_
        rw [← h]
        exact congrArg (fun z => fillL pl z r) e
    · cases h
def placesOf (P : Program) (t : TypeId) : Option (List (Nat × Nat)) :=
  match P.underlying t with
  | some (.struct fs) => fs.toList.mapM fun f => (P.info? f.type).map fun i => (f.offset, i.size)
  | _ => none
section
variable {P : PJ} {n : Nat} {ops : Array Oper} {i : Nat} {K : PostV} {S : Env} {D : List Deferred} {B : Kn} {L : List Cells}
variable {dst : Option Tmp} {ty : TypeId} {pos : String} {after : Array Edge} {g : Option (Nat × Bool)}
theorem hb_mapSize {Q : List (Nat × Nat) → Kn → Cells → Prop} {B : Kn} {L : Cells} : ∀ (fs : List Field) (pl : List (Nat × Nat)), fs.mapM (fun f => (P.info? f.type).map fun i => (f.offset, i.size)) = some pl → Q pl B L →
    hb P (fs.mapM fun f => do pure (f.offset, ← sizeOf f.type)) Q B L := by
  intro fs
  induction fs generalizing Q with
  | nil => intro pl h q; simp only [List.mapM_nil, Option.pure_def, Option.some.injEq] at h; subst h; rw [List.mapM_nil]; exact q
  | cons f fs ih =>
    intro pl h q
    simp only [List.mapM_cons, Option.bind_eq_bind, Option.bind_eq_some_iff, Option.map_eq_some_iff, Option.pure_def, Option.some.injEq] at h
    obtain ⟨p, ⟨inf, hi, rfl⟩, r, hr, rfl⟩ := h
    have hs : sizeIs P f.type = some inf.size := by simp [sizeIs, hi]
    rw [List.mapM_cons, hb_bind]
    simp only [hb_bind, hb_sizeOf hs, hb_pure]
    exact ih r hr q
theorem zip_parts (ρ : Operand → Value) : ∀ (parts : List (Nat × Operand)), (parts.toArray.map fun (x : Nat × Operand) => (x.1, ρ x.2)).toList = (parts.map (·.1)).zip ((parts.map (·.2)).map ρ) := by
  intro parts
  rw [List.map_toArray]
  induction parts with
  | nil => rfl
  | cons p r ih => exact congrArg (List.cons (p.1, ρ p.2)) ih
theorem flatten_len (sz : Nat) : ∀ (vs : List Value), vs.all (fun v => Nat.beq v.cells.toList.length sz) = true → (vs.map fun v => v.cells.toList).flatten.length = vs.length * sz
  | [], _ => by simp
  | v :: vs, h => by
    simp only [List.all_cons, Bool.and_eq_true] at h
    rw [List.map_cons, List.flatten_cons, List.length_append, flatten_len sz vs h.2, Nat.eq_of_beq_eq_true h.1, List.length_cons, Nat.succ_mul, Nat.add_comm]
theorem w_build {t : TypeId} {parts : List (Nat × Operand)} {z : Value} {pl : List (Nat × Nat)} {vs : List Value} (zl l' : List Value) (hg : guardOk ops S g = some true) (hd : dstOk n dst = true)
    (hpl : placesOf P t = some pl) (hz : zeroOf P t = some z) (hzl : z.cells.toList = zl) (ha : evs S (parts.map (·.2)) = some vs) (hf : fillL (fun i => pl[i]?) zl ((parts.map (·.1)).zip vs) = some l')
    (h : K (.agg l'.toArray) D B L) : opX P n ops i ⟨dst, .build t parts.toArray, ty, pos, after, g⟩ K S D B L :=
  opX_pure hg hd (fun ρ hρ Q F q => by
    unfold placesOf at hpl
    split at hpl
    · rename_i fs hu
      have hmap : (parts.toArray.map fun (x : Nat × Operand) => (x.1, ρ x.2)).toList = (parts.map (·.1)).zip vs := by
        rw [← resolve_args hρ ha]
        exact zip_parts ρ parts
      simp only [execOp, Instr.build, hb_bind, hb_zeroValue hz, hb_underlying hu, Array.mapM_eq_mapM_toList, hb_map]
      refine hb_mapSize fs.toList pl hpl ?_
      have hfill : Instr.fill (fun i => pl.toArray[i]?) z.cells ((parts.map (·.1)).zip vs) = some l'.toArray := by
        refine fill_spec _ _ _ l' ?_
        rw [hzl]
        simpa using hf
      rw [hmap, hfill]
      exact q
    · cases hpl) h
theorem wBS {t e : TypeId} {len sz : Nat} {parts : List (Nat × Operand)} {z : Value} {vs : List Value} (l' : List Value) (hg : guardOk ops S g = some true) (hd : dstOk n dst = true)
    (hu : P.underlying t = some (.slice e)) (hsz : sizeIs P e = some sz) (hz : zeroOf P e = some z) (hbig : Nat.ble (len * sz) 1024 = true) (hidx : parts.map (·.1) = List.range len) (ha : evs S (parts.map (·.2)) = some vs) (hall : vs.all (fun v => Nat.beq v.cells.toList.length sz) = true) (hl' : (vs.map fun v => v.cells.toList).flatten = l')
    (h : ∀ b, K (.slice (some ⟨b, 0, none⟩) len len) D B (L ++ [box1 b l' e])) : opX P n ops i ⟨dst, .buildSlice t len parts.toArray, ty, pos, after, g⟩ K S D B L :=
  opX_hb hg hd fun ρ hρ F => by
    have hmap : (parts.toArray.map fun (x : Nat × Operand) => (x.1, ρ x.2)).toList = (List.range len).zip vs := by
      rw [← hidx, ← resolve_args hρ ha]
      exact zip_parts ρ parts
    have hbig' : ¬ (len * sz > 2 ^ 24) := by have := Nat.le_of_ble_eq_true hbig; omega
    have hvl : vs.length = len := by
      have h1 := congrArg List.length hidx
      have h2 := congrArg List.length (resolve_args hρ ha)
      simp only [List.length_map, List.length_range] at h1 h2
      omega
    have hfillL : ∀ (vs : List Value) (k : Nat) (l : List Value), vs.all (fun v => Nat.beq v.cells.toList.length sz) = true → (k + vs.length) * sz ≤ l.length →
        fillL (fun i => some (i * sz, sz)) l ((List.range' k vs.length).zip vs) = some (setAt l (k * sz) (vs.map fun v => v.cells.toList).flatten) := by
      intro vs
      induction vs with
      | nil => intro k l _ _; simp [fillL, setAt_nil]
      | cons v vs ih =>
        intro k l hall hl
        simp only [List.all_cons, Bool.and_eq_true] at hall
        have e1 := Nat.eq_of_beq_eq_true hall.1
        have hle : k * sz + sz ≤ l.length := by
          rw [← Nat.succ_mul]
          exact Nat.le_trans (Nat.mul_le_mul_right sz (by simp only [List.length_cons]; omega)) hl
        simp only [List.length_cons, List.range'_succ, List.zip_cons_cons, fillL, hall.1, Bool.true_and]
        rw [show Nat.ble (k * sz + sz) l.length = true from Nat.ble_eq_true_of_le hle]
        simp only [cond_true]
        rw [ih (k + 1) _ hall.2 (by rw [setAt_length]; simp only [List.length_cons] at hl; rw [show k + 1 + vs.length = k + (vs.length + 1) from by omega]; exact hl)]
        rw [List.map_cons, List.flatten_cons]
        congr 1
        have : ∀ (a : List Value) (l : List Value) (o : Nat) (r : List Value), setAt l o (a ++ r) = setAt (setAt l o a) (o + a.length) r := by
          intro a
          induction a with
          | nil => intro l o r; simp [setAt_nil]
          | cons x a ih2 =>
            intro l o r
            rw [List.cons_append, setAt_cons, ih2, setAt_cons, List.length_cons]
            congr 1
            omega
        rw [this, e1, Nat.succ_mul]
    have key : ∀ za : Array Value, za.toList.length = len * sz → Instr.fill (fun i => some (i * sz, sz)) za ((List.range len).zip vs) = some l'.toArray := by
      intro za hza
      refine fill_spec _ _ _ l' ?_
      have := hfillL vs 0 za.toList hall (by rw [Nat.zero_add, hvl, hza]; exact Nat.le_refl _)
      rw [List.range_eq_range', ← hvl, this, Nat.zero_mul]
      congr 1
      rw [hl']
      have hl2 : l'.length = za.toList.length := by
        rw [← hl', hza, flatten_len sz vs hall, hvl]
      have ht := setAt_take za.toList 0 l' (by omega)
      rw [List.take_of_length_le (by rw [setAt_length]; omega)] at ht
      simpa using ht
    simp only [execOp, Instr.buildSlice, hb_bind, hb_underlying hu, hb_sizeOf hsz, hbig', if_false, hb_pure, hmap]
    have hend : ∀ (z0 : Sem Value) (za : Array Value), za.toList.length = len * sz → hb P (match Instr.fill (fun i => some (i * sz, sz)) za ((List.range len).zip vs) with
        | some cells => do pure (Value.slice (some (← newRow e cells)) len len)
        | _ => z0) (fun v B' L' => ∃ L1, Sup L' (L1.flatten ++ F) ∧ K v D B' L1) B (L.flatten ++ F) := fun z0 za hza => by
      rw [key za hza]
      simp only [hb_bind, hb_pure]
      refine ⟨rfl, fun b _ _ => ?_⟩
      exact ⟨L ++ [box1 b l' e], .of (flat_snoc L (box1 b l' e) F), h b⟩
    by_cases h0 : len * sz = 0
    · rw [if_pos h0]
      exact hend _ _ (by simp)
    · rw [if_neg h0]
      simp only [hb_bind, hb_zeroValue hz, hb_pure]
      exact hend _ _ (by simp)
end
end Go.BL
namespace Go.BL
set_option linter.unusedVariables false
set_option linter.unusedSimpArgs false
set_option linter.unusedSectionVars false
open Go.Conc (G)
set_option linter.unusedVariables false
section
variable {P : PJ} {n : Nat} {ops : Array Oper} {i : Nat} {K : PostV} {S : Env} {D : List Deferred} {B : Kn} {L : List Cells}
variable {dst : Option Tmp} {ty : TypeId} {pos : String} {after : Array Edge} {g : Option (Nat × Bool)}
theorem w_convI {s d : TypeId} {x : Operand} {k k' : IntKind} {a r : Int} (hg : guardOk ops S g = some true) (hd : dstOk n dst = true) (hu : P.underlying s = some (.int k)) (hu' : P.underlying d = some (.int k')) (hx : ev S x = some (.int k a)) (hr : k'.wrap a = r) (h : K (.int k' r) D B L) :
    opX P n ops i ⟨dst, .convert s d x, ty, pos, after, g⟩ K S D B L :=
  opX_pure hg hd (fun ρ hρ Q F q => by
    subst hr
    simp only [execOp, convert, hρ x _ hx, hb_bind, hb_underlying hu, hb_underlying hu', Conv.intToInt, hb_pure]; exact q) h
theorem ofInt_small {w : Nat} {a : Int} (h0 : 0 ≤ a) (h1 : a < 2 ^ w) : (BitVec.ofInt w a).toNat = a.toNat := by
  obtain ⟨m, rfl⟩ := Int.eq_ofNat_of_zero_le h0
  have hm : m < 2 ^ w := by exact_mod_cast h1
  simp [BitVec.toNat_ofInt]
  exact Nat.mod_eq_of_lt hm
theorem w_xor {t u : TypeId} {x y : Operand} {a b : Int} (hg : guardOk ops S g = some true) (hd : dstOk n dst = true) (hx : ev S x = some (.int .i64 a)) (hy : ev S y = some (.int .i64 b)) (ha : 0 ≤ a) (ha' : a < 4611686018427387904) (hb' : 0 ≤ b) (hb2 : b < 4611686018427387904)
    (h : ∀ r : Int, 0 ≤ r → r < 4611686018427387904 → K (.int .i64 r) D B L) : opX P n ops i ⟨dst, .binOp .xor t x y u, ty, pos, after, g⟩ K S D B L := by
  have hra : (BitVec.ofInt (IntKind.i64).bits a).toNat = a.toNat := ofInt_small ha (by simp [IntKind.bits]; omega)
  have hrb : (BitVec.ofInt (IntKind.i64).bits b).toNat = b.toNat := ofInt_small hb' (by simp [IntKind.bits]; omega)
  have hx2 : (BitVec.ofInt (IntKind.i64).bits a ^^^ BitVec.ofInt (IntKind.i64).bits b).toNat < 4611686018427387904 := by
    rw [BitVec.toNat_xor, hra, hrb]
    exact Nat.xor_lt_two_pow (n := 62) (by omega) (by omega)
  refine opX_pure hg hd (v := .int .i64 ((BitVec.ofInt (IntKind.i64).bits a ^^^ BitVec.ofInt (IntKind.i64).bits b).toNat : Int)) (fun ρ hρ Q F q => ?_) (h _ (by omega) (by omega))
  have hw : IntKind.wrap .i64 ((BitVec.ofInt (IntKind.i64).bits a ^^^ BitVec.ofInt (IntKind.i64).bits b).toNat : Int) = ((BitVec.ofInt (IntKind.i64).bits a ^^^ BitVec.ofInt (IntKind.i64).bits b).toNat : Int) := wrI64 (by omega) (by omega)
  simp only [execOp, hρ x _ hx, hρ y _ hy, hb_bind, hb_eqGuard, binOp, ne_eq, not_true_eq_false, if_false, Op.intBits, hb_pure, hw]
  exact q
end
section
variable {P : PJ} {n : Nat} {ops : Array Oper} {i : Nat} {K : PostV} {S : Env} {D : List Deferred} {B : Kn} {L : List Cells}
variable {dst : Option Tmp} {ty : TypeId} {pos : String} {after : Array Edge} {g : Option (Nat × Bool)}
def eqIs (P : Program) (t : TypeId) (a b : Value) (r : Bool) : Prop := ∀ (B : Kn) (L : Cells) (Q : Bool → Kn → Cells → Prop), Q r B L → hb P (Op.equal t a b) Q B L
def eqPlain (a b : Value) : Bool := match a, b with
  | .nilIface, .nilIface => false
  | .agg _, .agg _ => false
  | .int _ _, .int _ _ => false
  | .float _ _, .float _ _ => false
  | .complex _ _ _, .complex _ _ _ => false
  | .string _, .string _ => false
  | _, _ => true
theorem eqBool {t : TypeId} {a b : Bool} (hu : P.underlying t = some .bool) : eqIs P t (.bool a) (.bool b) (decide (a = b)) := fun B L Q q => by
  have e : (a == b) = decide (a = b) := by cases a <;> cases b <;> rfl
  show hb P (Op.equalIn (9999 + 1) t _ _) Q B L
  rw [Op.equalIn, hb_bind, hb_underlying hu]
  simp only [hb_pure, e]; exact q
theorem binOp_eql {t : TypeId} {a b : Value} (h : eqPlain a b = true ∨ ∃ x y, a = .agg x ∧ b = .agg y) : binOp .eql t a b = (do pure (.bool (← Op.equal t a b))) := by
  rcases h with h | ⟨x, y, rfl, rfl⟩
  · cases a <;> cases b <;> first | rfl | cases h
  · rfl
theorem binOp_neq {t : TypeId} {a b : Value} (h : eqPlain a b = true ∨ ∃ x y, a = .agg x ∧ b = .agg y) : binOp .neq t a b = (do pure (.bool (!(← Op.equal t a b)))) := by
  rcases h with h | ⟨x, y, rfl, rfl⟩
  · cases a <;> cases b <;> first | rfl | cases h
  · rfl
theorem hb_eqGuardP {op : BinOp} {t : TypeId} {x y : Operand} {a b : Value} {Q : Unit → Kn → Cells → Prop} {L : Cells} (h : eqPlain a b = true) : hb P (eqGuard op t x y a b) Q B L = Q () B L := by
  refine hb_eqGuard ?_
  cases a <;> cases b <;> first | rfl | cases h
theorem w_eqlE {t u : TypeId} {x y : Operand} {a b : Value} {r : Bool} (hg : guardOk ops S g = some true) (hd : dstOk n dst = true) (hx : ev S x = some a) (hy : ev S y = some b) (hp : eqPlain a b = true) (he : eqIs P t a b r) (h : K (.bool r) D B L) : opX P n ops i ⟨dst, .binOp .eql t x y u, ty, pos, after, g⟩ K S D B L :=
  opX_pure hg hd (fun ρ hρ Q F q => by
    simp only [execOp, hρ x _ hx, hρ y _ hy, hb_bind, hb_eqGuardP hp, binOp_eql (.inl hp), hb_pure]
    exact he _ _ (fun r B' L' => Q (.value (.bool r)) B' L') q) h
theorem w_neqE {t u : TypeId} {x y : Operand} {a b : Value} {r : Bool} (hg : guardOk ops S g = some true) (hd : dstOk n dst = true) (hx : ev S x = some a) (hy : ev S y = some b) (hp : eqPlain a b = true) (he : eqIs P t a b r) (h : K (.bool (!r)) D B L) : opX P n ops i ⟨dst, .binOp .neq t x y u, ty, pos, after, g⟩ K S D B L :=
  opX_pure hg hd (fun ρ hρ Q F q => by
    simp only [execOp, hρ x _ hx, hρ y _ hy, hb_bind, hb_eqGuardP hp, binOp_neq (.inl hp), hb_pure]
    exact he _ _ (fun r B' L' => Q (.value (.bool (!r))) B' L') q) h
end
def Ex1 (P : PJ) (f : FuncId) (vs : List Value) (B : Kn) (s : Cells) (Q : Value → Cells → Prop) : Prop := CallsB P f vs B [s] fun v' B' Ls => B' = B ∧ ∃ s', Ls = [s'] ∧ Q v' s'
def New1 (P : PJ) (f : FuncId) (vs : List Value) (B : Kn) (Q : Value → Cells → Prop) : Prop := CallsB P f vs B [] fun v' B' Ls => B' = B ∧ ∃ s', Ls = [s'] ∧ Q v' s'
section
variable {P : PJ} {n : Nat} {ops : Array Oper} {i : Nat} {K : PostV} {S : Env} {D : List Deferred} {B : Kn} {L : List Cells}
variable {dst : Option Tmp} {ty : TypeId} {pos : String} {after : Array Edge} {g : Option (Nat × Bool)}
theorem w_ex1 {f : FuncId} {xs : List Operand} {vs : List Value} {ats : Array TypeId} {Q : Value → Cells → Prop} (j : Nat) {s : Cells} (hj : L[j]? = some s) (hg : guardOk ops S g = some true) (hd : dstOk n dst = true) (he : enters P f = true) (ha : evs S xs = some vs) (hc : Ex1 P f vs B s Q)
    (h : ∀ v s', Q v s' → K v D B (L.set j s')) : opX P n ops i ⟨dst, .call ⟨.value (.func f), xs.toArray, ats⟩, ty, pos, after, g⟩ K S D B L :=
  w_call1 j hj hg hd he ha hc fun v' B' Ls' hle ⟨h2, s', h3, h4⟩ => by subst h2; subst h3; exact ⟨s', [], rfl, by rw [List.append_nil]; exact h v' s' h4⟩
theorem w_new1 {f : FuncId} {xs : List Operand} {vs : List Value} {ats : Array TypeId} {Q : Value → Cells → Prop} (hg : guardOk ops S g = some true) (hd : dstOk n dst = true) (he : enters P f = true) (ha : evs S xs = some vs) (hc : New1 P f vs B Q)
    (h : ∀ v s', Q v s' → K v D B (L ++ [s'])) : opX P n ops i ⟨dst, .call ⟨.value (.func f), xs.toArray, ats⟩, ty, pos, after, g⟩ K S D B L :=
  w_call hg hd he ha hc fun v' B' Ls' hle ⟨h2, s', h3, h4⟩ => by subst h2; subst h3; exact h v' s' h4
end
def pickAll : List Cells → List Nat → Option (List Cells × List Cells)
  | L, [] => some ([], L)
  | L, j :: js => match L[j]? with
    | some s => (pickAll (L.set j []) js).map fun x => (s :: x.1, x.2)
    | none => none
def putAll : List Cells → List Nat → List Cells → List Cells
  | r, _, [] => r
  | r, [], l => r ++ l
  | r, j :: js, s :: l => putAll (r.set j s) js l
theorem pickAll_perm : ∀ (js : List Nat) (L ss r : List Cells), pickAll L js = some (ss, r) → L.flatten.Perm (ss.flatten ++ r.flatten)
  | [], L, ss, r, h => by
    simp only [pickAll, Option.some.injEq, Prod.mk.injEq] at h
    obtain ⟨rfl, rfl⟩ := h
    simp
  | j :: js, L, ss, r, h => by
    simp only [pickAll] at h
    split at h
    · rename_i s hj
      simp only [Option.map_eq_some_iff, Prod.mk.injEq] at h
      obtain ⟨⟨x, y⟩, h1, rfl, rfl⟩ := h
      have h2 := pickAll_perm js _ _ _ h1
      have h3 := pick_perm hj
      simp only [List.flatten_cons, List.flatten_nil, List.append_nil] at h3
      rw [List.flatten_cons, List.append_assoc]
      exact h3.trans (List.Perm.append_left _ h2)
    · cases h
theorem pickAll_len : ∀ (js : List Nat) (L ss r : List Cells), pickAll L js = some (ss, r) → ∀ j, L[j]? = some [] ∨ j ∈ js → r[j]? = some []
  | [], L, ss, r, h, j, hj => by
    simp only [pickAll, Option.some.injEq, Prod.mk.injEq] at h
    obtain ⟨rfl, rfl⟩ := h
    rcases hj with hj | hj
    · exact hj
    · cases hj
  | k :: js, L, ss, r, h, j, hj => by
    simp only [pickAll] at h
    split at h
    · rename_i s hk
      simp only [Option.map_eq_some_iff, Prod.mk.injEq] at h
      obtain ⟨⟨x, y⟩, h1, rfl, rfl⟩ := h
      refine pickAll_len js _ _ _ h1 j ?_
      rcases hj with hj | hj
      · left
        rw [List.getElem?_set]
        split
        · rename_i e; subst e
          have := (List.getElem?_eq_some_iff.1 hk).1
          simp [this]
        · exact hj
      · rcases List.mem_cons.1 hj with rfl | hj
        · left
          have := (List.getElem?_eq_some_iff.1 hk).1
          simp [this]
        · exact .inr hj
    · cases h
theorem putAll_perm : ∀ (l : List Cells) (r : List Cells) (js : List Nat), js.Nodup → (∀ j, j ∈ js → r[j]? = some []) → (l.flatten ++ r.flatten).Perm (putAll r js l).flatten
  | [], r, js, _, _ => by simp [putAll]
  | s :: l, r, [], _, _ => by
    simp only [putAll, List.flatten_append]
    exact List.perm_append_comm
  | s :: l, r, j :: js, hn, he => by
    rw [putAll]
    rw [List.nodup_cons] at hn
    have h1 := putAll_perm l (r.set j s) js hn.2 fun k hk => by
      rw [List.getElem?_set, if_neg (fun e => hn.1 (by rw [e]; exact hk))]
      exact he k (List.mem_cons_of_mem _ hk)
    have hj := he j (List.mem_cons_self ..)
    have hlt := (List.getElem?_eq_some_iff.1 hj).1
    have h2 : (r.set j s)[j]? = some s := by simp [hlt]
    have h3 := pick_perm h2
    rw [List.set_set] at h3
    have h4 : r.set j [] = r := set_self hj
    rw [h4] at h3
    refine List.Perm.trans ?_ h1
    rw [List.flatten_cons, List.append_assoc]
    simp only [List.flatten_cons, List.flatten_nil, List.append_nil] at h3
    refine List.Perm.trans ?_ (List.Perm.append_left _ h3.symm)
    rw [← List.append_assoc, ← List.append_assoc]
    exact List.Perm.append_right _ List.perm_append_comm
def nodupB : List Nat → Bool
  | [] => true
  | j :: js => !js.contains j && nodupB js
theorem nodupB_spec : ∀ {js : List Nat}, nodupB js = true → js.Nodup
  | [], _ => List.nodup_nil
  | j :: js, h => by
    simp only [nodupB, Bool.and_eq_true, Bool.not_eq_true'] at h
    refine List.nodup_cons.2 ⟨fun hm => ?_, nodupB_spec h.2⟩
    have : js.contains j = true := by simpa using hm
    rw [this] at h; cases h.1
section
variable {P : PJ} {n : Nat} {ops : Array Oper} {i : Nat} {K : PostV} {S : Env} {D : List Deferred} {B : Kn} {L : List Cells}
variable {dst : Option Tmp} {ty : TypeId} {pos : String} {after : Array Edge} {g : Option (Nat × Bool)}
theorem w_callN {f : FuncId} {xs : List Operand} {vs : List Value} {ats : Array TypeId} {Post : Value → Kn → List Cells → Prop} (js : List Nat) {ss r : List Cells} (hp : pickAll L js = some (ss, r)) (hn : nodupB js = true) (hg : guardOk ops S g = some true) (hd : dstOk n dst = true) (he : enters P f = true) (ha : evs S xs = some vs) (hc : CallsB P f vs B ss Post)
    (h : ∀ v B' Ls', B.le B' → Post v B' Ls' → K v D B' (putAll r js Ls')) : opX P n ops i ⟨dst, .call ⟨.value (.func f), xs.toArray, ats⟩, ty, pos, after, g⟩ K S D B L :=
  opX_enter (o := ⟨dst, .call ⟨.value (.func f), xs.toArray, ats⟩, ty, pos, after, g⟩) (vs := vs) hg (fun ρ hρ Q F q => by
      have := call_sem (P := P) (B := B) (L := L) (dst := dst) (ty := ty) (pos := pos) (after := after) (g := g) (x := .func f) (first := #[]) (cap := #[]) (ats := ats) he rfl ha ρ hρ Q F
      exact this (by simpa using q)) hd (Ls := ss) (Lk := r) (pickAll_perm js L ss r hp) hc
    fun v B' Ls' hle hq => ⟨putAll r js Ls', putAll_perm Ls' r js (nodupB_spec hn) (fun j hj => pickAll_len js L ss r hp j (.inr hj)), h v B' Ls' hle hq⟩
end
theorem atElem {B : Kn} {L : List Cells} {b i : Nat} {v : Value} {l : List Value} {T : TypeId} (j : Nat) (hj : L[j]? = some (box1 b l T)) (hv : l[i]? = some v) : At B L ((⟨b, 0, none⟩ : Addr).add i) v := by
  rw [Addr.add_off _ _ rfl, Nat.zero_add]
  exact atL j hj rfl hv
theorem atMul1 {B : Kn} {L : List Cells} {a : Addr} {i : Nat} {v : Value} (h : At B L (a.add i) v) : At B L (a.add (i * 1)) v := by rw [Nat.mul_one]; exact h
theorem w_sel {P : PJ} {n : Nat} {Q : Exit → Post4} {S : Env} {D : List Deferred} {B : Kn} {L : List Cells} {c : Code} (js : List Nat) {ss r : List Cells} (hp : pickAll L js = some (ss, r)) (h : wpS P n c Q S D B ss) : wpS P n c Q S D B L := fun C k T hn hT hA => by
  have h1 := (pickAll_perm js L ss r hp).append_right C.F
  refine C.X.drop (r := ss.flatten ++ C.F) (gl := r.flatten) (h1.trans ?_) (h C k T hn hT hA)
  rw [List.append_assoc, List.append_assoc]
  exact List.Perm.append_left _ List.perm_append_comm
theorem SrcAt.box {B : Kn} {L : List Cells} {b : Nat} {arr : List Value} {T : TypeId} (j : Nat) (hj : L[j]? = some (box1 b arr T)) : SrcAt B L.flatten (some ⟨b, 0, none⟩) arr := fun k v hk => by
  have := atElem (B := B) (i := k) j hj hk
  exact this
theorem VecL.at {B : Kn} {L : List Cells} {l : Cells} {p : Option Addr} {m c sz i : Nat} {T : TypeId} {vs : List Value} {v : Value} (h : VecL l p m c T sz vs) (j : Nat) (hj : L[j]? = some l) (hv : vs[i]? = some v) : ∃ a, p = some a ∧ a.spot = none ∧ At B L (a.add i) v := by
  obtain ⟨h1, ⟨rfl, rfl, rfl, rfl⟩ | ⟨b, arr, rfl, h2, h3, rfl, h4⟩⟩ := h
  · have : vs = [] := List.eq_nil_of_length_eq_zero (by simpa using h1)
    rw [this] at hv; simp at hv
  · refine ⟨_, rfl, rfl, atElem j hj ?_⟩
    rw [← h3, List.getElem?_take] at hv
    split at hv
    · exact hv
    · cases hv
theorem endN {P : PJ} {S : Env} {B : Kn} {L : List Cells} {rs : List ResultVar} {Post : Value → Kn → List Cells → Prop} (e : Exit) (he : e = .ret ∨ e = .normal) (vs : List Value) (js : List Nat) {ss r : List Cells} (hp : pickAll L js = some (ss, r)) (hr : resAll P S B L rs vs) (hq : Post (resVal vs) B ss) : bodyQ P rs Post e S [] B L :=
  ⟨he, rfl, vs, ss, hr, ⟨r.flatten, pickAll_perm js L ss r hp⟩, hq⟩
def BytesAt (B : Kn) (q : Option Addr) (m : Nat) : Prop := ∀ j, j < m → ∃ (a : Addr) (c : UInt8), q = some a ∧ a.spot = none ∧ CellAt B [] (a.add j) (.int .u8 c.toNat)
theorem BytesAt.get {B : Kn} {q : Option Addr} {m : Nat} (h : BytesAt B q m) (hm : 0 < m) : ∃ a, q = some a ∧ ∀ j, j < m → ∃ c : UInt8, ∀ L, At B L (a.add (j * 1)) (.int .u8 c.toNat) := by
  obtain ⟨a, _, rfl, hs, _⟩ := h 0 hm
  refine ⟨a, rfl, fun j hj => ?_⟩
  obtain ⟨a', c, e, _, hc⟩ := h j hj
  cases e
  exact ⟨c, fun L => by rw [Nat.mul_one]; exact CellAt.app (F := L.flatten) hc⟩
theorem BytesAt.at {B : Kn} {q : Option Addr} {m : Nat} (h : BytesAt B q m) (hm : 0 < m) : ∃ a, q = some a ∧ ∀ ix : Int, 0 ≤ ix → ix < m → ∃ z : Nat, z < 256 ∧ ∀ L, At B L (a.add (ix.toNat * 1)) (.int .u8 z) := by
  obtain ⟨a, rfl, hc⟩ := h.get hm
  refine ⟨a, rfl, fun ix h0 h1 => ?_⟩
  obtain ⟨c, hc⟩ := hc ix.toNat (by omega)
  exact ⟨c.toNat, c.toNat_lt, hc⟩
theorem BytesAt.take {B : Kn} {q : Option Addr} {m k c : Nat} (h : BytesAt B q m) (hk : k ≤ m) : BytesAt B (if c = 0 then q else q.map (·.add (0 * 1))) (k - 0) := by
  intro j hj
  obtain ⟨a, x, rfl, hs, hx⟩ := h j (by omega)
  refine ⟨a, x, ?_, hs, hx⟩
  split <;> simp [Addr.add]
end Go.BL
namespace Go.BL
set_option linter.unusedVariables false
set_option linter.unusedSimpArgs false
set_option linter.unusedSectionVars false
open Go.Conc (G)
set_option linter.unusedVariables false
section
variable {P : PJ}
def eqIn (P : Program) (d : Nat) (t : TypeId) (a b : Value) (r : Bool) : Prop := ∀ (B : Kn) (L : Cells) (Q : Bool → Kn → Cells → Prop), Q r B L → hb P (Op.equalIn d t a b) Q B L
theorem eqIn_str {d : Nat} {t : TypeId} {a b : List UInt8} (hu : P.underlying t = some .string) : eqIn P (d + 1) t (str a) (str b) (decide (a = b)) := fun B L Q q => by
  have e : ((⟨a.toArray⟩ : ByteArray) == ⟨b.toArray⟩) = decide (a = b) := by
    show ((⟨a⟩ : Array UInt8) == ⟨b⟩) = _
    rw [Bool.eq_iff_iff]; simp
  rw [Op.equalIn, hb_bind, hb_underlying hu]
  simp only [str, hb_pure]
  first | exact e ▸ q | (rw [e]; exact q)
theorem eqIn_int {d : Nat} {t : TypeId} {k k' : IntKind} {a b : Int} (hu : P.underlying t = some (.int k')) : eqIn P (d + 1) t (.int k a) (.int k b) (decide (a = b)) := fun B L Q q => by
  have e : (a == b) = decide (a = b) := by rw [Bool.eq_iff_iff]; simp
  rw [Op.equalIn, hb_bind, hb_underlying hu]
  simp only [if_true, hb_pure, e]; exact q
def flatOk (P : Program) (t : TypeId) (ts : List (Nat × TypeId)) : Bool :=
  match P.underlying t with
  | some (.struct fs) => fs.toList.all (fun f => f.name != "_" && (lk P f.type == some none)) && (fs.toList.map (fun f => (f.offset, f.type)) == ts) && !P.stoodInHeld t && !P.eqGuardType P.depth t
  | _ => false
def FlatE (P : Program) (d : Nat) (xs ys : Array Value) : List (Nat × TypeId) → List Bool → Prop
  | [], [] => True
  | (o, t) :: fs, r :: rs => (∃ a b, xs[o]? = some a ∧ ys[o]? = some b ∧ eqIn P d t a b r) ∧ FlatE P d xs ys fs rs
  | _, _ => False
theorem hb_part {t : TypeId} {cs : Array Value} {o : Nat} {a : Value} (hl : lk P t = some none) (ha : cs[o]? = some a) {Q : Value → Kn → Cells → Prop} {B : Kn} {L : Cells} : hb P (part t cs o) Q B L = Q a B L := by
  unfold part
  rw [hb_bind, lk_none hl]
  simp only [Bool.false_eq_true, if_false, ha, hb_pure]
theorem eqIn_flat {d : Nat} {t : TypeId} {ts : List (Nat × TypeId)} {xs ys : Array Value} {rs : List Bool} (ht : flatOk P t ts = true) (h : FlatE P d xs ys ts rs) : eqIn P (d + 1) t (.agg xs) (.agg ys) (rs.all id) := fun B L Q q => by
  unfold flatOk at ht
  split at ht
  · rename_i fs hu
    simp only [Bool.and_eq_true, Bool.not_eq_true', beq_iff_eq] at ht
    obtain ⟨⟨⟨h1, h2⟩, h3⟩, h4⟩ := ht
    rw [Op.equalIn, hb_bind, hb_underlying hu]
    simp only [hb_bind, hb_program, h3, Bool.false_eq_true, if_false]
    rw [← Array.forIn_toList]
    subst h2
    clear hu h3 h4
    generalize fs.toList = l at h h1 ⊢
    induction l generalizing rs with
    | nil =>
      cases rs with
      | nil => simpa [hb_pure] using q
      | cons r rs => exact h.elim
    | cons f l ih =>
      cases rs with
      | nil => exact h.elim
      | cons r rs =>
        simp only [List.map_cons, FlatE] at h
        obtain ⟨⟨a, b, ha, hb', he⟩, ht⟩ := h
        simp only [List.all_cons, Bool.and_eq_true, bne_iff_ne, beq_iff_eq] at h1
        obtain ⟨⟨hn, hl⟩, h1'⟩ := h1
        simp only [List.forIn_cons, hb_bind, ne_eq, hn, not_false_eq_true, if_true, hb_part hl ha, hb_part hl hb']
        apply he
        cases r with
        | true =>
          simp only [Bool.not_true, Bool.false_eq_true, if_false, hb_pure]
          exact ih (by simpa using q) ht h1'
        | false =>
          simp only [Bool.not_false, if_true, hb_pure]
          simpa using q
  · cases ht
theorem hb_eqGuardF {op : BinOp} {t : TypeId} {ts : List (Nat × TypeId)} {x y : Operand} {a b : Array Value} {Q : Unit → Kn → Cells → Prop} {B : Kn} {L : Cells} (ht : flatOk P t ts = true) : hb P (eqGuard op t x y (.agg a) (.agg b)) Q B L = Q () B L := by
  have h4 : P.eqGuardType P.depth t = false := by
    unfold flatOk at ht
    split at ht
    · simp only [Bool.and_eq_true, Bool.not_eq_true'] at ht
      exact ht.2
    · cases ht
  cases op <;> simp [eqGuard, hb_bind, hb_program, h4, hb_pure]
end
section
variable {P : PJ} {n : Nat} {ops : Array Oper} {i : Nat} {K : PostV} {S : Env} {D : List Deferred} {B : Kn} {L : List Cells}
variable {dst : Option Tmp} {ty : TypeId} {pos : String} {after : Array Edge} {g : Option (Nat × Bool)}
theorem w_neqF {t u : TypeId} {ts : List (Nat × TypeId)} {x y : Operand} {a b : Array Value} {rs : List Bool} (hg : guardOk ops S g = some true) (hd : dstOk n dst = true) (hx : ev S x = some (.agg a)) (hy : ev S y = some (.agg b)) (ht : flatOk P t ts = true) (he : FlatE P 9999 a b ts rs) (h : K (.bool (!rs.all id)) D B L) : opX P n ops i ⟨dst, .binOp .neq t x y u, ty, pos, after, g⟩ K S D B L :=
  opX_pure hg hd (fun ρ hρ Q F q => by
    simp only [execOp, hρ x _ hx, hρ y _ hy, hb_bind, hb_eqGuardF ht, binOp_neq (.inr ⟨_, _, rfl, rfl⟩), hb_pure]
    exact eqIn_flat ht he _ _ (fun r B' L' => Q (.value (.bool (!r))) B' L') q) h
end
end Go.BL
namespace Go.BL
set_option linter.unusedVariables false
set_option linter.unusedSimpArgs false
set_option linter.unusedSectionVars false
open Go.Conc (G)
set_option linter.unusedVariables false
def loneL (P : Program) (Stop : Frame → List Frame → World → Kn → Cells → Prop) : Lg (.lone P) where
  join := fun h => h.elim
  main := true
  R := fun g B L => ∀ w, Sat B L w → g = G g.frame g.callers ∧ ∃ fr cs w' B' L', Steps P (lone g.frame g.callers w) (lone fr cs w') ∧ Ok B L w B' L' w' ∧ Stop fr cs w' B' L'
  conv := fun {g B B' L L'} hle hs hb hl h w s => by
    obtain ⟨h0, fr, cs, w', B₂, L₂, h1, h2, h3⟩ := h w (hs w s)
    refine ⟨h0, fr, cs, w', B₂, L₂, h1, ⟨hle.trans h2.le, h2.sat, h2.size, fun b hb' hn => h2.keep b hb' fun p hp he => ?_, fun b o hbo => ?_, fun p hp => ?_, h2.fz, h2.tape, h2.os, h2.output⟩, h3⟩
    · obtain ⟨q, hq, e⟩ := hl p hp
      exact hn q hq (e.trans he)
    · rcases h2.newB b o hbo with hx | ⟨p, hp, rfl⟩ | hx
      · obtain ⟨o', ho'⟩ := Option.isSome_iff_exists.1 hx
        rcases hb b o' ho' with hy | hy
        · exact .inl hy
        · exact .inr (.inl hy)
      · obtain ⟨q, hq, e⟩ := hl p hp
        exact .inr (.inl ⟨q, hq, e⟩)
      · exact .inr (.inr hx)
    · rcases h2.newL p hp with ⟨q, hq, e⟩ | hx
      · obtain ⟨r, hr, e'⟩ := hl q hq
        exact .inl ⟨r, hr, e'.trans e⟩
      · exact .inr hx
  step := fun {g B L} hg h w s => by
    obtain ⟨g', w₁, es, B₁, L₁, h1, _, h3, h4⟩ := h w s
    obtain ⟨hg', fr, cs, w₂, B₂, L₂, h5, h6, h7⟩ := h4 w₁ h3.sat
    refine ⟨hg, fr, cs, w₂, B₂, L₂, Steps.head (step_lone_go ?_) h5, h3.trans h6, h7⟩
    have e1 : (G g.frame g.callers) = { frame := g.frame, callers := g.callers, status := .running, dying := none } := rfl
    rw [← e1, ← hg, h1]
    simp only [GStep.bare]
    rw [hg']
    rfl
def allOf (w : World) : Kn := ⟨fun b => w.heap[b]?⟩
theorem allSat (w : World) : Sat (allOf w) [] w := ⟨fun _ _ h => h, (fun _ h => by cases h), by simp, (fun _ h => by cases h)⟩
theorem grown_of {w w' : World} {B' : Kn} {L' : Cells} (h : Ok (allOf w) [] w B' L' w') : Go.RowKit.Grown w w' := by
  refine ⟨⟨h.os, h.output, fun i hi => ?_⟩, h.fz, h.size⟩
  rw [h.keep i hi (fun _ hp => by cases hp)]
  cases w.heap[i]? with
  | none => trivial
  | some o => cases o <;> first | rfl | exact .inr ⟨rfl, rfl⟩ | exact ⟨rfl, rfl, rfl, fun _ _ => rfl⟩
def Kept (w w' : World) : Prop := (∀ b, b < w.heap.size → w'.heap[b]? = w.heap[b]?) ∧ Go.RowKit.Grown w w'
theorem kept_of {w w' : World} {B' : Kn} {L' : Cells} (h : Ok (allOf w) [] w B' L' w') : Kept w w' :=
  ⟨fun b hb => h.keep b hb (fun _ hp => by cases hp), grown_of h⟩
theorem Kept.same {w w' : World} (h : Kept w w') {p : MemPlace} (hp : p.block < w.heap.size) : w.sameAt w' p := by
  cases p with
  | cell b off =>
    have := h.1 b hp
    simp only [World.sameAt, World.cell?, this]
  | map b => exact h.1 b hp
theorem Sat.left {B : Kn} {L L' : Cells} {w : World} (s : Sat B (L ++ L') w) : Sat B L w := by
  refine ⟨s.ro, fun p hp => s.own p (List.mem_append.2 (.inl hp)), ?_, fun p hp => s.apart p (List.mem_append.2 (.inl hp))⟩
  have := s.nodup
  rw [List.map_append] at this
  exact (List.nodup_append.1 this).1
theorem calls_of {P : Program} {f : FuncId} {fn : Func} {code : Code} {t : Tmp} (n : Nat) (hf : P.funcs[f]? = some fn) (hbd : fn.body = some code) (hn : fn.ntmps = n) (hrs : fn.results.toList = [.tmp t]) {args : List Value} (ha : args.length ≤ n) {Post : Value → Kn → List Cells → Prop} {w : World}
    (h : wpS (.lone P) n code (bodyQ (.lone P) [.tmp t] Post) (argEnv args 0) [] (allOf w) []) : Calls P f args.toArray w (fun e w' => ∃ v, e = .returned v ∧ Kept w w' ∧ ∃ B' Ls', Sat B' Ls'.flatten w' ∧ Post v B' Ls') := by
  intro cs
  let b0 : Frame := { fn := f, tmps := #[], todo := [], defers := [], mode := .run, kind := .normal }
  let T0 : Array Value := args.toArray ++ Array.replicate (n - args.length) undef
  have hen : Frame.enter P f args.toArray .normal = fat b0 T0 [] [.code code] := by
    simp [Frame.enter, fat, hf, hbd, hn, b0, T0]
  have hT : Ag T0 (argEnv args 0) := fun i v hv => by
    obtain ⟨_, h2⟩ := argEnv_get args 0 i v hv
    have hlt := lt_of_some (a := args.toArray) (i := i) (x := v) (by simpa using h2)
    simp only [T0]
    rw [Array.getElem?_append_left hlt]
    simpa using h2
  let Stop : Frame → List Frame → World → Kn → Cells → Prop := fun fr cs' w' B' L' => cs' = cs ∧ fr.fn = f ∧ ∃ v Ls', fr.leaving P w' (.returned v) ∧ Post v B' Ls' ∧ Sat B' Ls'.flatten w'
  have key := h ⟨loneL P Stop, b0, cs, [], by simp [b0]⟩ [] T0 (by simp [T0]; omega) hT fun e S' D' B' L' T' hle hq hn' hT' => by
    obtain ⟨he, rfl, vs, Lr, hr, ⟨gl, hp⟩, hq⟩ := hq
    have fin : ∀ fr : Frame, fr.fn = f → fr.mode = .returning → fr.defers = [] → fr.kind = .normal → fr.tmps = T' → (loneL P Stop).R (G fr cs) B' (L'.flatten ++ []) := fun fr f1 f2 f3 f4 f5 w₁ s₁ => by
      refine ⟨rfl, fr, cs, w₁, B', L'.flatten ++ [], Steps.refl _ _, Ok.refl s₁, rfl, f1, resVal vs, Lr, ?_, hq, ?_⟩
      · refine ⟨f2, f3, f4, fn, by rw [f1]; exact hf, ?_⟩
        match vs, hr with
        | [v], ⟨h1, _⟩ =>
          have hr2 : fn.results = #[.tmp t] := by apply Array.ext'; rw [hrs]
          have h2 := hT' t v h1
          simp [results, hr2, f5, resVal, Sem.run, Array.getD_eq_getD_getElem?, h2, Pure.pure, Bind.bind, Sem.bind, Functor.map]
      · exact (s₁.perm (by rw [List.append_nil]; exact hp)).left
    rcases he with rfl | rfl
    · refine ⟨rfl, fun todo => ?_⟩
      exact fin _ rfl rfl rfl rfl rfl
    · exact (loneL P Stop).ctl rfl (fun w => st_end rfl) (fin _ rfl rfl rfl rfl rfl)
  rw [hen]
  obtain ⟨_, fr, cs', w', B', L', h1, h2, rfl, h3, v, Ls', h4, h5, h6⟩ := key w (by simpa using allSat w)
  refine ⟨.returned v, w', fr, ⟨v, rfl, kept_of (by simpa using h2), B', Ls', h6, h5⟩, h1, h3, h4⟩
end Go.BL
namespace Go.BL
set_option linter.unusedVariables false
set_option linter.unusedSimpArgs false
set_option linter.unusedSectionVars false
open Go.ChangeShapes Go.WideShapes Go.ChangeAt Go.RowKit
set_option linter.unusedVariables false
section
variable {H : Type} {enc : TypeId × Value → H} {P : Program}
theorem cellAt_of {W : World} {a : Addr} {v : Value} (h : W.cell? a = some v) : CellAt (allOf W) [] a v := by
  simp only [World.cell?] at h
  split at h
  · rename_i c T fr hb
    split at h
    · cases h
    · rename_i hs
      exact ⟨by simpa using hs, c, T, fr, .inl hb, h⟩
  · cases h
theorem open_bytes {W : World} {t e : TypeId} {v : Value} {d : DataW H} {ps : List MemPlace} {r : Reach} {b0 : Nat} {W0 : World} (hval : Value.okWide P W0 r b0 t v) (ht : P.underlying t = some (.slice e)) (he : P.underlying e = some (.int .u8)) (hc : P.cellsOf e = 1)
    (h : DataW.Trod enc P W 0 (fun _ => true) true t v d ps) : ∃ (q : Option Addr) (m cp : Nat), v = .slice q m cp ∧ m ≤ cp ∧ BytesAt (allOf W) q m := by
  obtain ⟨n, hn⟩ := h
  obtain ⟨a0, l0, c0, rfl⟩ := okWide_slice ht hval
  rcases open_ints ht he hc hn with ⟨hcs, _⟩ | ⟨a, len, cap, zs, hcs, _, hl, _, hz, _, hcell, hw⟩
  · simp only [Value.cells, List.cons.injEq, and_true] at hcs
    rw [hcs]
    exact ⟨none, 0, 0, rfl, Nat.le_refl _, fun j hj => absurd hj (Nat.not_lt_zero _)⟩
  · simp only [Value.cells, List.cons.injEq, and_true] at hcs
    rw [hcs]
    refine ⟨some a, len, cap, rfl, hl, fun j hj => ?_⟩
    have hjz : j < zs.length := by rw [hz]; simp; omega
    have h1 := hcell j hjz
    have h0 := cellAt_of (hcell 0 (by omega))
    have hsp : a.spot = none := by
      have := h0.1
      simpa [Addr.add] using this
    have hmem : zs.getD j 0 ∈ zs := by
      rw [List.getD_eq_getElem?_getD, List.getElem?_eq_getElem hjz]
      exact List.getElem_mem hjz
    have hb := bounds_u8 (hw _ hmem)
    refine ⟨a, UInt8.ofNat (zs.getD j 0).toNat, rfl, hsp, ?_⟩
    have e : ((UInt8.ofNat (zs.getD j 0).toNat).toNat : Int) = zs.getD j 0 := by
      rw [UInt8.toNat_ofNat']
      omega
    rw [e]
    exact cellAt_of h1
theorem same_all (hl : laidOutB P = true) {W W' : World} (hk : Kept W W') {sp' : Nat → Bool} : ∀ {ts : List TypeId} {vs : List Value} {ds : List (DataW H)} {ps : List MemPlace}, (ts.all fun t => P.readableRec t && decide (t < P.types.size)) = true →
    DataW.TrodAll enc P W 0 (fun _ => true) true ts vs ds ps → (∀ p ∈ ps, p.block < W.heap.size) → (∀ p ∈ ps, sp' p.block = true) → DataW.TrodAll enc P W' 0 sp' true ts vs ds ps
  | [], [], [], _, _, h, _, _ => h
  | t :: ts, _ :: _, _ :: _, _, hts, ⟨p, q, h1, h2, e⟩, hlt, hs => by
    simp only [List.all_cons, Bool.and_eq_true, decide_eq_true_eq] at hts
    exact ⟨p, q, WideElems.Trod_stays hl hts.1.1 hts.1.2 h1 (fun x hx => hk.same (hlt x (by rw [e]; exact List.mem_append_left _ hx))) (fun x hx => hs x (by rw [e]; exact List.mem_append_left _ hx)),
      same_all hl hk hts.2 h2 (fun x hx => hlt x (by rw [e]; exact List.mem_append_right _ hx)) (fun x hx => hs x (by rw [e]; exact List.mem_append_right _ hx)), e⟩
theorem law_post {f : Func} {s : ChangeSpec} {apart fresh handsOn again : Bool} {W W' : World} {args : Array Value} {ds gs : List (DataW H)} {before : List MemPlace} {tb : TypeId}
    (hl : laidOutB P = true) (hts : (f.params.toList.all fun t => P.readableRec t && decide (t < P.types.size)) = true) (hres : f.resultTypes.toList = [tb]) (hb : P.underlying tb = some .bool) (hvars : s.vars = [])
    (hW : DataW.Whole enc P f.params.toList s.vars apart W args.toList ds gs before) (hfn : ∀ ds' gs', gs' = [] → ds'.length = f.params.toList.length → s.fn H (ds' ++ gs') = { results := [.lit (.bool true)], args := ds' })
    (hk : Kept W W') : s.post enc P f apart fresh handsOn again W args (.bool true) W' := by
  have hlt := hW.lt
  have hW' := hW
  obtain ⟨p, q, hA0, hV, rfl, hfz, hnd⟩ := hW
  rw [hvars] at hV
  obtain ⟨rfl, rfl⟩ := trodVars_none hV
  have hlen := (trodAll_length hA0).2
  have hf2 := hfn ds [] rfl hlen
  have hr2 : f.resultTypes = #[tb] := by apply Array.ext'; rw [hres]
  refine post_of_same (pa := p) (pv := []) hW' (fun b sp hd => ?_) (fun sp hsp => ?_) (fun sp _ => ?_) rfl (hk.2.frame _) hk.2.2.1 ?_
  · rw [hf2, hr2]
    exact trodAll_cons_mk (shut_bool hb _) trodAll_mk0
  · rw [hf2]
    exact same_all hl hk hts hA0 (fun x hx => hlt x (List.mem_append_left _ hx)) (fun x hx => hsp x (List.mem_append_left _ hx))
  · rw [hf2, hvars]
    exact rfl
  · intro j t r h1 h2
    rw [hr2] at h1 h2
    cases j with
    | zero =>
      simp only [List.getElem?_toArray, List.getElem?_cons_zero, Option.some.injEq] at h1
      simp [Value.resultList] at h2
      subst h1; subst h2
      exact okWide_bool_mk hb _
    | succ j => simp at h1
end
end Go.BL
namespace Go.BL
set_option linter.unusedVariables false
set_option linter.unusedSimpArgs false
set_option linter.unusedSectionVars false
open Go.Conc (G)
set_option linter.unusedVariables false
abbrev Rel (α : Type) := Kn → List Value → α → Prop
def Mono {α : Type} (R : Rel α) : Prop := ∀ {B B' : Kn}, B.le B' → ∀ {row : List Value} {x : α}, R B row x → R B' row x
def Flat {α : Type} (C : α → List Value) : Rel α := fun _ row x => row = C x
theorem Flat.mono {α : Type} {C : α → List Value} : Mono (Flat C) := fun _ _ _ h => h
def RowsR {α : Type} (B : Kn) (q : Option Addr) (w : Nat) (R : Rel α) (xs : List α) : Prop :=
  ∀ i x, xs[i]? = some x → ∃ b o row, q = some ⟨b, o, none⟩ ∧ R B row x ∧ ∀ j u, row[j]? = some u → CellAt B [] ⟨b, o + i * w + j, none⟩ u
theorem HasO.mono {B B' : Kn} {L : Cells} {b : Nat} {o : Obj} (hle : B.le B') (h : HasO B L b o) : HasO B' L b o := h.imp (hle b o) id
theorem CellAt.mono {B B' : Kn} {L : Cells} {a : Addr} {v : Value} (hle : B.le B') (h : CellAt B L a v) : CellAt B' L a v :=
  let ⟨h1, cs, T, fr, h2, h3⟩ := h; ⟨h1, cs, T, fr, h2.mono hle, h3⟩
theorem RowsR.mono {α : Type} {B B' : Kn} {q : Option Addr} {w : Nat} {R : Rel α} {xs : List α} (hR : Mono R) (hle : B.le B') (h : RowsR B q w R xs) : RowsR B' q w R xs := fun i x hi => by
  obtain ⟨b, o, row, h1, h2, h3⟩ := h i x hi
  exact ⟨b, o, row, h1, hR hle h2, fun j u hj => (h3 j u hj).mono hle⟩
theorem RowsR.nil {α : Type} {B : Kn} {q : Option Addr} {w : Nat} {R : Rel α} : RowsR B q w R ([] : List α) := fun i x h => by simp at h
theorem RowsR.take {α : Type} {B : Kn} {q : Option Addr} {w : Nat} {R : Rel α} {xs : List α} (h : RowsR B q w R xs) (k : Nat) : RowsR B q w R (xs.take k) := fun i x hi => by
  rw [List.getElem?_take] at hi
  split at hi
  · exact h i x hi
  · cases hi
theorem RowsR.drop {α : Type} {B : Kn} {q : Option Addr} {w : Nat} {R : Rel α} {xs : List α} (h : RowsR B q w R xs) (k : Nat) : RowsR B (q.map (·.add (k * w))) w R (xs.drop k) := fun i x hi => by
  rw [List.getElem?_drop] at hi
  obtain ⟨b, o, row, rfl, h2, h3⟩ := h _ x hi
  refine ⟨b, o + k * w, row, by simp [Addr.add_off], h2, fun j u hj => ?_⟩
  have := h3 j u hj
  rw [Nat.add_mul] at this
  rwa [show o + k * w + i * w + j = o + (k * w + i * w) + j from by omega]
theorem RowsR.cut {α : Type} {B : Kn} {q : Option Addr} {w a b c : Nat} {R : Rel α} {xs : List α} (h : RowsR B q w R xs) (hb : b ≤ xs.length) (hc : xs.length ≤ c) : RowsR B (if c = a then q else q.map (·.add (a * w))) w R ((xs.take b).drop a) := by
  by_cases e : c = a
  · rw [if_pos e, List.drop_eq_nil_of_le (by rw [List.length_take]; omega)]
    exact .nil
  · rw [if_neg e]
    exact (h.take b).drop a
def RowAt' (B : Kn) (b o : Nat) (row : List Value) : Prop := ∀ (L : List Cells) (j : Nat) (u : Value), row[j]? = some u → At B L ⟨b, o + j, none⟩ u
theorem rowK {B : Kn} {L : List Cells} {b o : Nat} {row vs : List Value} {a : Addr} (hc : RowAt' B b o row) (off : Nat) (ha : a = ⟨b, o + off, none⟩) (hv : (row.drop off).take vs.length = vs) : RowAt B L a vs := by
  intro i v hi
  subst ha
  rw [Addr.add_off _ _ rfl]
  have hlt : i < vs.length := (List.getElem?_eq_some_iff.1 hi).1
  have : row[off + i]? = some v := by
    have e := congrArg (fun l => l[i]?) hv
    simp only [List.getElem?_take, if_pos hlt, List.getElem?_drop] at e
    rw [e, hi]
  have := hc L _ v this
  rwa [show o + (off + i) = o + off + i from by omega] at this
section
variable {P : PJ} {C : Cx P} {k : List Item} {n : Nat} {ops : Array Oper} {i : Nat} {K : PostV} {S : Env} {D : List Deferred} {B : Kn} {L : List Cells}
variable {dst : Option Tmp} {ty : TypeId} {pos : String} {after : Array Edge} {g : Option (Nat × Bool)}
variable {α : Type} {R : Rel α} {xs : List α} {z : α}
end
inductive All2 {α : Type} (R : List Value → α → Prop) : List (List Value) → List α → Prop
  | nil : All2 R [] []
  | cons {row : List Value} {x : α} {rows : List (List Value)} {xs : List α} : R row x → All2 R rows xs → All2 R (row :: rows) (x :: xs)
theorem All2.len {α : Type} {R : List Value → α → Prop} {rows : List (List Value)} {xs : List α} (h : All2 R rows xs) : rows.length = xs.length := by
  induction h with
  | nil => rfl
  | cons _ _ ih => simp [ih]
theorem All2.mono {α : Type} {R R' : List Value → α → Prop} {rows : List (List Value)} {xs : List α} (hR : ∀ row x, R row x → R' row x) (h : All2 R rows xs) : All2 R' rows xs := by
  induction h with
  | nil => exact .nil
  | cons h1 _ ih => exact .cons (hR _ _ h1) ih
theorem All2.app {α : Type} {R : List Value → α → Prop} {rows rows' : List (List Value)} {xs xs' : List α} (h : All2 R rows xs) (h' : All2 R rows' xs') : All2 R (rows ++ rows') (xs ++ xs') := by
  induction h with
  | nil => exact h'
  | cons h1 _ ih => exact .cons h1 ih
theorem All2.get {α : Type} {R : List Value → α → Prop} {rows : List (List Value)} {xs : List α} (h : All2 R rows xs) : ∀ {i : Nat} {x : α}, xs[i]? = some x → ∃ row, rows[i]? = some row ∧ R row x := by
  induction h with
  | nil => intro i x hx; simp at hx
  | cons h1 _ ih =>
    intro i x hx
    cases i with
    | zero => simp only [List.getElem?_cons_zero, Option.some.injEq] at hx; subst hx; exact ⟨_, rfl, h1⟩
    | succ i => exact ih (by simpa using hx)
theorem All2.set {α : Type} {R : List Value → α → Prop} {rows : List (List Value)} {xs : List α} (h : All2 R rows xs) {row : List Value} {x : α} (hr : R row x) : ∀ i, All2 R (rows.set i row) (xs.set i x) := by
  induction h with
  | nil => intro i; exact .nil
  | cons h1 h2 ih =>
    intro i
    cases i with
    | zero => exact .cons hr h2
    | succ i => exact .cons h1 (ih i)
def wide (w : Nat) (rows : List (List Value)) : Prop := ∀ row, row ∈ rows → row.length = w
theorem wide_flat {w : Nat} : ∀ {rows : List (List Value)}, wide w rows → rows.flatten.length = rows.length * w
  | [], _ => by simp
  | row :: rows, h => by
    rw [List.flatten_cons, List.length_append, wide_flat (rows := rows) (fun r hr => h r (List.mem_cons_of_mem _ hr)), h row (List.mem_cons_self ..), List.length_cons, Nat.succ_mul, Nat.add_comm]
theorem wide_get {w : Nat} : ∀ {rows : List (List Value)}, wide w rows → ∀ {i j : Nat} {row : List Value} {u : Value}, rows[i]? = some row → row[j]? = some u → rows.flatten[i * w + j]? = some u
  | [], _, i, j, row, u, h, _ => by simp at h
  | r :: rows, hw, 0, j, row, u, h, hj => by
    simp only [List.getElem?_cons_zero, Option.some.injEq] at h
    subst h
    have hlt := (List.getElem?_eq_some_iff.1 hj).1
    rw [Nat.zero_mul, Nat.zero_add, List.flatten_cons, List.getElem?_append_left hlt]; exact hj
  | r :: rows, hw, i + 1, j, row, u, h, hj => by
    have e := hw r (List.mem_cons_self ..)
    rw [List.flatten_cons, List.getElem?_append_right (by rw [e, Nat.succ_mul]; omega), e]
    have := wide_get (rows := rows) (fun r hr => hw r (List.mem_cons_of_mem _ hr)) (i := i) (j := j) (by simpa using h) hj
    rw [← this]
    congr 1
    rw [Nat.succ_mul]; omega
def VecR {α : Type} (B : Kn) (l : Cells) (p : Option Addr) (c : Nat) (T : TypeId) (w : Nat) (R : Rel α) (xs : List α) : Prop :=
  ∃ rows, All2 (R B) rows xs ∧ wide w rows ∧ VecL l p xs.length c T w rows.flatten
theorem VecR.mono {α : Type} {B B' : Kn} {l : Cells} {p : Option Addr} {c : Nat} {T : TypeId} {w : Nat} {R : Rel α} {xs : List α} (hR : Mono R) (hle : B.le B') (h : VecR B l p c T w R xs) : VecR B' l p c T w R xs :=
  let ⟨rows, h1, h2, h3⟩ := h; ⟨rows, h1.mono fun _ _ => hR hle, h2, h3⟩
theorem VecR.nil {α : Type} {B : Kn} {T : TypeId} {w : Nat} {R : Rel α} : VecR B [] none 0 T w R ([] : List α) := ⟨[], .nil, (fun _ h => by cases h), VecL.nil T w⟩
theorem VecR.lit0 {α : Type} {B : Kn} {b : Nat} {T : TypeId} {w : Nat} {R : Rel α} : VecR B (box1 b [] T) (some ⟨b, 0, none⟩) 0 T w R ([] : List α) := ⟨[], .nil, (fun _ h => by cases h), VecL.lit (by simp)⟩
theorem VecR.cap {α : Type} {B : Kn} {l : Cells} {p : Option Addr} {c : Nat} {T : TypeId} {w : Nat} {R : Rel α} {xs : List α} (h : VecR B l p c T w R xs) : xs.length ≤ c := by
  obtain ⟨rows, _, _, _, ⟨_, h0, _, _⟩ | ⟨b, arr, _, _, _, _, hm⟩⟩ := h
  · omega
  · exact hm
theorem VecR.lit {α : Type} {B : Kn} {b : Nat} {T : TypeId} {w : Nat} {R : Rel α} {xs : List α} {rows : List (List Value)} (h : All2 (R B) rows xs) (hw : wide w rows) : VecR B (box1 b rows.flatten T) (some ⟨b, 0, none⟩) xs.length T w R xs :=
  ⟨rows, h, hw, VecL.lit (by rw [wide_flat hw, h.len])⟩
theorem VecR.rows {α : Type} {B B' : Kn} {l : Cells} {p : Option Addr} {c : Nat} {T : TypeId} {w : Nat} {R : Rel α} {xs : List α} (h : VecR B l p c T w R xs) (hR : Mono R) (hle : B.le B') (hm : ∀ q, q ∈ l → B'.mem q.1 = some q.2) : RowsR B' p w R xs := by
  obtain ⟨rows, h1, h2, h3, ⟨rfl, hn, _, rfl⟩ | ⟨b, arr, rfl, ha, ht, rfl, hmc⟩⟩ := h
  · have : xs = [] := List.eq_nil_of_length_eq_zero hn
    subst this; exact .nil
  · intro i x hi
    obtain ⟨row, hr1, hr2⟩ := h1.get hi
    refine ⟨b, 0, row, rfl, hR hle hr2, fun j u hj => ?_⟩
    have hu := wide_get h2 hr1 hj
    rw [← ht, List.getElem?_take] at hu
    split at hu
    · refine ⟨rfl, arr.toArray, T, (0, 0), .inl (hm (b, _) (List.mem_singleton.2 rfl)), ?_⟩
      rw [Nat.zero_add]; simpa using hu
    · cases hu
theorem VecR.row {α : Type} {B : Kn} {l : Cells} {p : Option Addr} {c : Nat} {T : TypeId} {w : Nat} {R : Rel α} {xs : List α} (h : VecR B l p c T w R xs) {i : Nat} {x : α} (hi : xs[i]? = some x) :
    ∃ b row, p = some ⟨b, 0, none⟩ ∧ R B row x ∧ row.length = w ∧ ∀ {B' : Kn} (L : List Cells) (k : Nat), L[k]? = some l → ∀ j u, row[j]? = some u → At B' L ⟨b, i * w + j, none⟩ u := by
  obtain ⟨rows, h1, h2, h3, ⟨rfl, hn, _, rfl⟩ | ⟨b, arr, rfl, ha, ht, rfl, hmc⟩⟩ := h
  · have : xs = [] := List.eq_nil_of_length_eq_zero hn
    subst this; simp at hi
  · obtain ⟨row, hr1, hr2⟩ := h1.get hi
    refine ⟨b, row, rfl, hr2, h2 row (List.mem_of_getElem? hr1), fun {B'} L k hk j u hj => ?_⟩
    have hu := wide_get h2 hr1 hj
    rw [← ht, List.getElem?_take] at hu
    split at hu
    · exact atL k hk rfl hu
    · cases hu
section
variable {P : PJ} {C : Cx P} {k : List Item} {n : Nat} {ops : Array Oper} {i : Nat} {K : PostV} {S : Env} {D : List Deferred} {B : Kn} {L : List Cells}
variable {dst : Option Tmp} {ty : TypeId} {pos : String} {after : Array Edge} {g : Option (Nat × Bool)}
variable {α : Type} {R : Rel α} {xs ys : List α} {z : α}
theorem w_app1 {BV : Kn} {t u e : TypeId} {x y : Operand} {sz by_ m c c2 : Nat} {p q : Option Addr} {row : List Value} {l : Cells} (j : Nat) (hj : L[j]? = some l) (hv : VecR BV l p c e sz R xs) (hm : m = xs.length) (hg : guardOk ops S g = some true) (hd : dstOk n dst = true)
    (he : elemOk P t e sz by_ = true) (hu : (match P.underlying u with | some (.slice _) => true | _ => false) = true) (hx : ev S x = some (.slice p m c)) (hy : ev S y = some (.slice q 1 c2)) (hs : SrcAt B L.flatten q row) (hone : row.all oneC = true) (hrl : row.length = sz) (hr : R BV row z) (hb1 : (xs.length + 1) * by_ ≤ 140737488355328)
    (h : ∀ l' p' c', VecR BV l' p' c' e sz R (xs ++ [z]) → K (.slice p' (xs ++ [z]).length c') D B (L.set j l')) : opX P n ops i ⟨dst, .call ⟨.builtin .append, #[x, y], #[t, u]⟩, ty, pos, after, g⟩ K S D B L := by
  subst hm
  obtain ⟨rows, h1, h2, h3⟩ := hv
  refine w_append j hj h3 hg hd he hu hx hy hs (by rw [hrl, Nat.one_mul]) hone hb1 fun l' p' c' hv' => ?_
  have := h l' p' c' ⟨rows ++ [row], h1.app (.cons hr .nil), ?_, ?_⟩
  · rwa [List.length_append] at this
  · intro r hr'
    rcases List.mem_append.1 hr' with hr' | hr'
    · exact h2 r hr'
    · rw [List.mem_singleton.1 hr']; exact hrl
  · rw [List.length_append, List.flatten_append]; simpa using hv'
theorem w_appR {t u e : TypeId} {x y : Operand} {sz by_ m d c c2 : Nat} {p q : Option Addr} {l : Cells} (j : Nat) (hj : L[j]? = some l) (hv : VecR B l p c e sz R xs) (hm : m = xs.length) (hg : guardOk ops S g = some true) (hd : dstOk n dst = true)
    (he : elemOk P t e sz by_ = true) (hu : (match P.underlying u with | some (.slice _) => true | _ => false) = true) (hx : ev S x = some (.slice p m c)) (hy : ev S y = some (.slice q d c2)) (hdl : d = ys.length) (hs : RowsR B q sz R ys) (hone : ∀ row y, R B row y → row.all oneC = true ∧ row.length = sz) (hpos : Nat.blt 0 sz = true) (hb1 : (xs.length + ys.length) * by_ ≤ 140737488355328)
    (h : ∀ l' p' c', VecR B l' p' c' e sz R (xs ++ ys) → K (.slice p' (xs ++ ys).length c') D B (L.set j l')) : opX P n ops i ⟨dst, .call ⟨.builtin .append, #[x, y], #[t, u]⟩, ty, pos, after, g⟩ K S D B L := by
  subst hm; subst hdl
  obtain ⟨rows, h1, h2, h3⟩ := hv
  obtain ⟨rows', g1, g2, g3, g4⟩ : ∃ rows', All2 (R B) rows' ys ∧ wide sz rows' ∧ rows'.flatten.all oneC = true ∧ SrcAt B L.flatten q rows'.flatten := by
    have hrow : ∀ i : Fin ys.length, ∃ row, R B row ys[i] ∧ ∃ b o, q = some ⟨b, o, none⟩ ∧ ∀ j u, row[j]? = some u → CellAt B [] ⟨b, o + i * sz + j, none⟩ u := fun i => by
      obtain ⟨b, o, row, a1, a2, a3⟩ := hs i ys[i] (by simp)
      exact ⟨row, a2, b, o, a1, a3⟩
    let f : Fin ys.length → List Value := fun i => Classical.choose (hrow i)
    have hf : ∀ i, R B (f i) ys[i] ∧ ∃ b o, q = some ⟨b, o, none⟩ ∧ ∀ j u, (f i)[j]? = some u → CellAt B [] ⟨b, o + i * sz + j, none⟩ u := fun i => Classical.choose_spec (hrow i)
    have hall : ∀ (k : Nat) (zs : List α) (hz : ∀ j x, zs[j]? = some x → ys[k + j]? = some x), ∃ rs, All2 (R B) rs zs ∧ ∀ j row, rs[j]? = some row → ∃ hk : k + j < ys.length, row = f ⟨k + j, hk⟩ := by
      intro k zs
      induction zs generalizing k with
      | nil => intro _; exact ⟨[], .nil, fun j row h => by simp at h⟩
      | cons x zs ih =>
        intro hz
        obtain ⟨rs, a1, a2⟩ := ih (k + 1) (fun j y hy => by have := hz (j + 1) y (by simpa using hy); rwa [show k + (j + 1) = k + 1 + j from by omega] at this)
        have h0 := hz 0 x (by simp)
        obtain ⟨hk, hxe⟩ := List.getElem?_eq_some_iff.1 h0
        have hfk := (hf ⟨k + 0, hk⟩).1
        simp only [Fin.getElem_fin] at hfk
        rw [hxe] at hfk
        refine ⟨f ⟨k + 0, hk⟩ :: rs, .cons hfk a1, fun j row hj => ?_⟩
        cases j with
        | zero => simp only [List.getElem?_cons_zero, Option.some.injEq] at hj; exact ⟨hk, hj.symm⟩
        | succ j =>
          obtain ⟨hk2, e⟩ := a2 j row (by simpa using hj)
          refine ⟨by omega, ?_⟩
          rw [e]
          congr 2
          omega
    obtain ⟨rs, a1, a2⟩ := hall 0 ys (fun j x hx => by rwa [Nat.zero_add])
    have a2' : ∀ j row, rs[j]? = some row → ∃ hk : j < ys.length, row = f ⟨j, hk⟩ := fun j row hj => by
      obtain ⟨hk, e⟩ := a2 j row hj
      refine ⟨by omega, ?_⟩
      rw [e]; congr 2; omega
    have hw : wide sz rs := fun row hr => by
      obtain ⟨j, hj⟩ := List.mem_iff_getElem?.1 hr
      obtain ⟨hk, rfl⟩ := a2' j row hj
      exact (hone _ _ (hf ⟨j, hk⟩).1).2
    refine ⟨rs, a1, hw, ?_, ?_⟩
    · rw [List.all_flatten, List.all_eq_true]
      intro row hr
      obtain ⟨j, hj⟩ := List.mem_iff_getElem?.1 hr
      obtain ⟨hk, rfl⟩ := a2' j row hj
      exact (hone _ _ (hf ⟨j, hk⟩).1).1
    · have hsz : 0 < sz := by simpa using hpos
      cases hys : ys with
      | nil =>
        have : rs = [] := List.eq_nil_of_length_eq_zero (by rw [a1.len, hys]; rfl)
        subst this
        cases q with
        | none => rfl
        | some a => intro j v hj; simp at hj
      | cons y0 ys0 =>
        have hl0 : 0 < ys.length := by rw [hys]; simp
        obtain ⟨_, b, o, rfl, _⟩ := hf ⟨0, hl0⟩
        intro k v hk
        have hkl : k < rs.length * sz := by rw [← wide_flat hw]; exact (List.getElem?_eq_some_iff.1 hk).1
        have hir : k / sz < rs.length := Nat.div_lt_of_lt_mul (by rw [Nat.mul_comm]; exact hkl)
        have hrow2 : rs[k / sz]? = some rs[k / sz] := List.getElem?_eq_getElem hir
        have hjl : k % sz < (rs[k / sz]).length := by rw [hw _ (List.getElem_mem hir)]; exact Nat.mod_lt _ hsz
        have hg2 := wide_get hw hrow2 (List.getElem?_eq_getElem hjl)
        rw [Nat.mul_comm (k / sz) sz, Nat.div_add_mod] at hg2
        rw [hk] at hg2
        obtain ⟨hk3, e3⟩ := a2' _ _ hrow2
        obtain ⟨_, b', o', eb, hc⟩ := hf ⟨k / sz, hk3⟩
        cases eb
        have := hc (k % sz) v (by rw [← e3, List.getElem?_eq_getElem hjl]; exact hg2.symm)
        rw [Addr.add_off _ _ rfl]
        simp only [] at this
        rw [Nat.add_assoc, Nat.mul_comm (k / sz) sz, Nat.div_add_mod] at this
        exact CellAt.app (F := L.flatten) this
  refine w_append j hj h3 hg hd he hu hx hy g4 (by rw [wide_flat g2, g1.len]) g3 hb1 fun l' p' c' hv' => ?_
  have := h l' p' c' ⟨rows ++ rows', h1.app g1, ?_, ?_⟩
  · rwa [List.length_append] at this
  · intro r hr'
    rcases List.mem_append.1 hr' with hr' | hr'
    · exact h2 r hr'
    · exact g2 r hr'
  · rw [List.length_append, List.flatten_append]; exact hv'
end
end Go.BL
namespace Go.BL
set_option linter.unusedVariables false
set_option linter.unusedSimpArgs false
set_option linter.unusedSectionVars false
open Go.Conc (G)
theorem RowsR.base {α : Type} {B : Kn} {q : Option Addr} {w : Nat} {R : Rel α} {xs : List α} (h : RowsR B q w R xs) {i : Nat} {z : α} (hz : xs[i]? = some z) : ∃ b o, q = some ⟨b, o, none⟩ := by
  obtain ⟨b, o, _, h1, _⟩ := h i z hz; exact ⟨b, o, h1⟩
theorem RowsR.elem {α : Type} {B : Kn} {b o w : Nat} {R : Rel α} {xs : List α} (h : RowsR B (some ⟨b, o, none⟩) w R xs) {i : Nat} {z : α} (hz : xs[i]? = some z) : ∃ row, R B row z ∧ RowAt' B b (o + i * w) row := by
  obtain ⟨b', o', row, h1, h2, h3⟩ := h i z hz
  cases h1
  exact ⟨row, h2, fun L j u hj => CellAt.app (F := L.flatten) (h3 j u hj)⟩
theorem getLt {α : Type} {xs : List α} {i : Nat} (h : i < xs.length) : ∃ z, xs[i]? = some z := ⟨_, List.getElem?_eq_getElem h⟩
theorem getI {α : Type} {xs : List α} {i : Int} (h0 : 0 ≤ i) (h : i < xs.length) : ∃ z, xs[i.toNat]? = some z := getLt (by omega)
theorem RowAt'.mono {B B' : Kn} {b o : Nat} {row : List Value} (hle : B.le B') (h : RowAt' B b o row) : RowAt' B' b o row := fun L j u hj => (h L j u hj).mono hle
def setAll : List Cells → List Nat → List Cells → List Cells
  | L, [], _ => L
  | L, _, [] => L
  | L, j :: js, s :: ss => setAll (L.set j s) js ss
theorem sub_sel : ∀ (ks : List Nat) (S : Env), Sub (sel ks S) S
  | [], _ => trivial
  | k :: ks, S => by
    simp only [sel]
    cases h : get S k with
    | none => exact sub_sel ks S
    | some v => exact ⟨h, sub_sel ks S⟩
theorem sub_app : ∀ {V S0 S : Env}, Sub V S → Sub S0 S → Sub (V ++ S0) S
  | [], _, _, _, h => h
  | _ :: _, _, _, h, h' => ⟨h.1, sub_app h.2 h'⟩
section
variable {P : PJ} {C : Cx P} {k : List Item} {n : Nat} {ops : Array Oper} {i : Nat} {K : PostV} {S : Env} {D : List Deferred} {B : Kn} {L : List Cells} {Q : Exit → Post4}
variable {dst : Option Tmp} {ty : TypeId} {pos : String} {after : Array Edge} {g : Option (Nat × Bool)}
def rndE {α : Type} (St : α → Env) (Lo : α → List Cells) (Iv : α → Kn → Prop) (μ : α → Nat) (D : List Deferred) (x : α) (Q : Exit → Post4) : Exit → Post4
  | .normal => fun S' D' B' L' => ∃ x', μ x' < μ x ∧ Iv x' B' ∧ Sub (St x') S' ∧ (∃ gl, L'.flatten.Perm ((Lo x').flatten ++ gl)) ∧ D' = D
  | e => Q e
theorem w_loopE {c : Code} {α : Type} (ks : List Nat) (V : α → Env) (js : List Nat) (M : α → List Cells) (Iv : α → Kn → Prop) (μ : α → Nat) (x₀ : α) (hS : Sub (V x₀) S) (hL : L = setAll L js (M x₀)) (hI : Iv x₀ B)
    (round : ∀ x B', B.le B' → Iv x B' → wpS P n c (rndE (fun x => V x ++ sel ks S) (fun x => setAll L js (M x)) Iv μ D x Q) (V x ++ sel ks S) D B' (setAll L js (M x))) : wpS P n (.loop c) Q S D B L := fun C k T hn hT hA => by
  have hS' : Sub (V x₀ ++ sel ks S) S := sub_app hS (sub_sel ks S)
  have key : ∀ m x B' T, μ x = m → B.le B' → Iv x B' → T.size = n → Ag T (V x ++ sel ks S) → C.X.R (G (fat C.b T D (.code c :: .inLoop c :: k)) C.cs) B' ((setAll L js (M x)).flatten ++ C.F) := by
    intro m
    induction m using Nat.strongRecOn with
    | _ m ih =>
      intro x B' T hm hle hI hn hT
      refine round x B' hle hI C (.inLoop c :: k) T hn hT fun e S' D' B'' L' T' hle' hq hn' hT' => ?_
      cases e with
      | normal =>
        obtain ⟨x', hlt, hI', hs', ⟨gl, hp⟩, rfl⟩ := hq
        refine C.X.ctl rfl (fun w => st_inLoop) ?_
        refine C.X.drop (r := (setAll L js (M x')).flatten ++ C.F) (gl := gl) ((hp.append_right C.F).trans ?_) (ih (μ x') (hm ▸ hlt) x' B'' T' rfl (hle.trans hle') hI' hn' (hT'.sub hs'))
        rw [List.append_assoc, List.append_assoc]
        exact List.Perm.append_left _ List.perm_append_comm
      | exit id => exact After.push rfl (by simp) (hA (.exit id) S' D' B'' L' T' (hle.trans hle') hq hn' hT')
      | ret => exact After.push (x := .inLoop c) rfl (by simp) (hA .ret S' D' B'' L' T' (hle.trans hle') hq hn' hT')
      | goto l => exact hA (.goto l) S' D' B'' L' T' (hle.trans hle') hq hn' hT'
      | panic ch => exact hA (.panic ch) S' D' B'' L' T' (hle.trans hle') hq hn' hT'
      | outgrown => exact hA .outgrown S' D' B'' L' T' (hle.trans hle') hq hn' hT'
  refine C.X.ctl rfl (fun w => st_loop) ?_
  have := key _ x₀ B T rfl (Kn.le.refl B) hI hn (hT.sub hS')
  rwa [← hL] at this
theorem rndE_r {α : Type} {St : α → Env} {Lo : α → List Cells} {Iv : α → Kn → Prop} {μ : α → Nat} {D' : List Deferred} {x : α} (h : Q .ret S D B L) : rndE St Lo Iv μ D' x Q .ret S D B L := h
theorem rndE_x {α : Type} {St : α → Env} {Lo : α → List Cells} {Iv : α → Kn → Prop} {μ : α → Nat} {D' : List Deferred} {x : α} {id : Nat} (h : Q (.exit id) S D B L) : rndE St Lo Iv μ D' x Q (.exit id) S D B L := h
theorem rndE_n {α : Type} {St : α → Env} {Lo : α → List Cells} {Iv : α → Kn → Prop} {μ : α → Nat} {x : α} (x' : α) (js : List Nat) {r : List Cells} (hm : μ x' < μ x) (hi : Iv x' B) (hs : Sub (St x') S) (hl : pickAll L js = some (Lo x', r)) : rndE St Lo Iv μ D x Q .normal S D B L :=
  ⟨x', hm, hi, hs, ⟨r.flatten, pickAll_perm js L _ r hl⟩, rfl⟩
theorem w_cutV {t e : TypeId} {x : Operand} {lo hi : Option Operand} {p : Option Addr} {len cap sz : Nat} {a b : Nat} {v : Value} (hv : Value.slice (if cap = a then p else p.map (·.add (a * sz))) (b - a) (cap - a) = v) (hab : a ≤ b) (hb' : b ≤ cap) (hg : guardOk ops S g = some true) (hd : dstOk n dst = true) (hu : P.underlying t = some (.slice e)) (hsz : sizeIs P e = some sz)
    (hx : ev S x = some (.slice p len cap)) (hlo : match lo with | none => a = 0 | some o => ∃ k, ∃ z : Int, ev S o = some (.int k z) ∧ z = a) (hhi : match hi with | none => b = len | some o => ∃ k, ∃ z : Int, ev S o = some (.int k z) ∧ z = b)
    (h : K v D B L) : opX P n ops i ⟨dst, .slice t x lo hi none, ty, pos, after, g⟩ K S D B L :=
  w_sliceV hg hd hu hsz hx hlo hhi hab hb' (by rw [hv]; exact h)
theorem w_ixB {t e : TypeId} {x y : Operand} {k : IntKind} {b o len cap sz : Nat} {ix : Int} (hg : guardOk ops S g = some true) (hd : dstOk n dst = true) (hu : P.underlying t = some (.slice e)) (hsz : sizeIs P e = some sz)
    (hx : ev S x = some (.slice (some ⟨b, o, none⟩) len cap)) (hy : ev S y = some (.int k ix)) (h0 : 0 ≤ ix) (h1 : ix < len) (h : K (ptr ⟨b, o + ix.toNat * sz, none⟩) D B L) : opX P n ops i ⟨dst, .indexAddr t x y, ty, pos, after, g⟩ K S D B L :=
  w_indexAddr hg hd hu hsz hx hy h0 h1 (by rw [Addr.add_off _ _ rfl]; exact h)
theorem w_callP {f : FuncId} {xs : List Operand} {vs : List Value} {ats : Array TypeId} {Post : Value → Kn → Prop} (hg : guardOk ops S g = some true) (hd : dstOk n dst = true) (he : enters P f = true) (ha : evs S xs = some vs) (hc : CallsB P f vs B [] (fun v B' Ls => Ls = [] ∧ Post v B'))
    (h : ∀ v B', B.le B' → Post v B' → K v D B' L) : opX P n ops i ⟨dst, .call ⟨.value (.func f), xs.toArray, ats⟩, ty, pos, after, g⟩ K S D B L :=
  w_call hg hd he ha hc fun v B' Ls hle ⟨h1, h2⟩ => by subst h1; rw [List.append_nil]; exact h v B' hle h2
end
end Go.BL
namespace Go.BL
set_option linter.unusedVariables false
set_option linter.unusedSimpArgs false
set_option linter.unusedSectionVars false
open Go.Conc (G)
structure SlK {α : Type} (B : Kn) (q : Option Addr) (cp w : Nat) (R : Rel α) (xs : List α) : Prop where
  rows : RowsR B q w R xs
  cap : xs.length ≤ cp
  len : xs.length ≤ 2000000
theorem SlK.mono {α : Type} {B B' : Kn} {q : Option Addr} {cp w : Nat} {R : Rel α} {xs : List α} (h : SlK B q cp w R xs) (hR : Mono R) (hle : B.le B') : SlK B' q cp w R xs := ⟨h.rows.mono hR hle, h.cap, h.len⟩
theorem SlK.base {α : Type} {B : Kn} {q : Option Addr} {cp w : Nat} {R : Rel α} {xs : List α} (h : SlK B q cp w R xs) {i : Nat} {z : α} (hz : xs[i]? = some z) : ∃ b o, q = some ⟨b, o, none⟩ := h.rows.base hz
theorem SlK.elem {α : Type} {B : Kn} {b o cp w : Nat} {R : Rel α} {xs : List α} (h : SlK B (some ⟨b, o, none⟩) cp w R xs) {i : Nat} {z : α} (hz : xs[i]? = some z) : ∃ row, R B row z ∧ RowAt' B b (o + i * w) row := h.rows.elem hz
theorem SlK.nil {α : Type} {B : Kn} {q : Option Addr} {cp w : Nat} {R : Rel α} : SlK B q cp w R ([] : List α) := ⟨.nil, Nat.zero_le _, Nat.zero_le _⟩
section
variable {P : PJ} {C : Cx P} {k : List Item} {n : Nat} {ops : Array Oper} {i : Nat} {K : PostV} {S : Env} {D : List Deferred} {B : Kn} {L : List Cells} {Q : Exit → Post4}
variable {dst : Option Tmp} {ty : TypeId} {pos : String} {after : Array Edge} {g : Option (Nat × Bool)}
end
theorem w_pubK {P : PJ} {n : Nat} {Q : Exit → Post4} {S : Env} {D : List Deferred} {B : Kn} {L : List Cells} {c : Code} {α : Type} {R : Rel α} {xs : List α} {l : Cells} {p : Option Addr} {cp : Nat} {T : TypeId} {w : Nat} (j : Nat) (hj : L[j]? = some l) (hv : VecR B l p cp T w R xs) (hR : Mono R) (hl : xs.length ≤ 2000000)
    (h : ∀ B', B.le B' → SlK B' p cp w R xs → wpS P n c Q S D B' (L.set j [])) : wpS P n c Q S D B L :=
  w_pub j hj fun B' hle hm => h B' hle ⟨hv.rows hR hle hm, hv.cap, hl⟩
end Go.BL
namespace Go.BL
set_option linter.unusedVariables false
set_option linter.unusedSimpArgs false
set_option linter.unusedSectionVars false
theorem SlK.cutE {α : Type} {B : Kn} {q : Option Addr} {cp w : Nat} {R : Rel α} {xs : List α} (h : SlK B q cp w R xs) (a b : Nat) (hab : a ≤ b) (hb : b ≤ xs.length) : b ≤ cp ∧ ∃ q' cp', Value.slice (if cp = a then q else q.map (·.add (a * w))) (b - a) (cp - a) = .slice q' ((xs.take b).drop a).length cp' ∧ SlK B q' cp' w R ((xs.take b).drop a) := by
  have e1 : ((xs.take b).drop a).length = b - a := by rw [List.length_drop, List.length_take]; omega
  have hc := h.cap
  have hl := h.len
  exact ⟨by omega, _, _, by rw [e1], h.rows.cut hb h.cap, by omega, by omega⟩
end Go.BL
namespace Go.BL
set_option linter.unusedVariables false
set_option linter.unusedSimpArgs false
set_option linter.unusedSectionVars false
open Go.Conc (G)
section
variable {P : PJ} {C : Cx P} {k : List Item} {n : Nat} {ops : Array Oper} {i : Nat} {K : PostV} {S : Env} {D : List Deferred} {B : Kn} {L : List Cells} {Q : Exit → Post4}
variable {dst : Option Tmp} {ty : TypeId} {pos : String} {after : Array Edge} {g : Option (Nat × Bool)}
variable {α : Type} {R : Rel α} {xs : List α}
theorem w_appN {BV : Kn} {t u e : TypeId} {x y : Operand} {sz by_ m d c c2 : Nat} {p q : Option Addr} {rows : List (List Value)} {ys : List α} {l : Cells} (j : Nat) (hj : L[j]? = some l) (hv : VecR BV l p c e sz R xs) (hm : m = xs.length) (hg : guardOk ops S g = some true) (hd : dstOk n dst = true)
    (he : elemOk P t e sz by_ = true) (hu : (match P.underlying u with | some (.slice _) => true | _ => false) = true) (hx : ev S x = some (.slice p m c)) (hy : ev S y = some (.slice q d c2)) (hdl : d = ys.length) (hs : SrcAt B L.flatten q rows.flatten) (hone : rows.flatten.all oneC = true) (hw : wide sz rows) (hr : All2 (R BV) rows ys) (hb1 : (xs.length + ys.length) * by_ ≤ 140737488355328)
    (h : ∀ l' p' c', VecR BV l' p' c' e sz R (xs ++ ys) → K (.slice p' (xs ++ ys).length c') D B (L.set j l')) : opX P n ops i ⟨dst, .call ⟨.builtin .append, #[x, y], #[t, u]⟩, ty, pos, after, g⟩ K S D B L := by
  subst hm; subst hdl
  obtain ⟨rows0, h1, h2, h3⟩ := hv
  refine w_append j hj h3 hg hd he hu hx hy hs (by rw [wide_flat hw, hr.len]) hone hb1 fun l' p' c' hv' => ?_
  have := h l' p' c' ⟨rows0 ++ rows, h1.app hr, ?_, ?_⟩
  · rwa [List.length_append] at this
  · intro r hr'
    rcases List.mem_append.1 hr' with hr' | hr'
    · exact h2 r hr'
    · exact hw r hr'
  · rw [List.length_append, List.flatten_append]; exact hv'
end
theorem VecL.take {l : Cells} {p : Option Addr} {n c k : Nat} {T : TypeId} {sz : Nat} {vs : List Value} (h : VecL l p n c T sz vs) (hk : k ≤ n) : VecL l p k c T sz (vs.take (k * sz)) := by
  obtain ⟨h1, h2⟩ := h
  have hks : k * sz ≤ n * sz := Nat.mul_le_mul_right sz hk
  refine ⟨by rw [List.length_take, h1]; exact Nat.min_eq_left hks, ?_⟩
  rcases h2 with ⟨rfl, rfl, rfl, rfl⟩ | ⟨b, arr, rfl, h2, h3, rfl, h4⟩
  · exact .inl ⟨rfl, by omega, rfl, rfl⟩
  · refine .inr ⟨b, arr, rfl, h2, ?_, rfl, by omega⟩
    rw [← h3, List.take_take, Nat.min_eq_left hks]
theorem All2.take {α : Type} {R : List Value → α → Prop} {rows : List (List Value)} {xs : List α} (h : All2 R rows xs) : ∀ k, All2 R (rows.take k) (xs.take k) := by
  induction h with
  | nil => intro k; simp; exact .nil
  | cons h1 _ ih =>
    intro k
    cases k with
    | zero => exact .nil
    | succ k => exact .cons h1 (ih k)
theorem flatten_take {w : Nat} : ∀ {rows : List (List Value)}, wide w rows → ∀ k, (rows.take k).flatten = rows.flatten.take (k * w)
  | [], _, k => by simp
  | r :: rows, h, 0 => by simp
  | r :: rows, h, k + 1 => by
    have e := h r (List.mem_cons_self ..)
    rw [List.take_succ_cons, List.flatten_cons, List.flatten_cons, flatten_take (fun r hr => h r (List.mem_cons_of_mem _ hr)) k, show (k + 1) * w = r.length + k * w from by rw [e, Nat.succ_mul, Nat.add_comm], List.take_length_add_append]
theorem VecR.take {α : Type} {B : Kn} {l : Cells} {p : Option Addr} {c : Nat} {T : TypeId} {w : Nat} {R : Rel α} {xs : List α} (h : VecR B l p c T w R xs) {k : Nat} (hk : k ≤ xs.length) : VecR B l p c T w R (xs.take k) := by
  obtain ⟨rows, h1, h2, h3⟩ := h
  refine ⟨rows.take k, h1.take k, fun r hr => h2 r (List.mem_of_mem_take hr), ?_⟩
  rw [flatten_take h2]
  have := h3.take hk
  rwa [show (xs.take k).length = k from by rw [List.length_take]; omega]
end Go.BL
namespace Go.BL
set_option linter.unusedVariables false
set_option linter.unusedSimpArgs false
set_option linter.unusedSectionVars false
open Go.Conc (G)
section
variable {P : PJ} {C : Cx P} {k : List Item} {n : Nat} {ops : Array Oper} {i : Nat} {S : Env} {D : List Deferred} {B : Kn} {L : List Cells} {Q : Exit → Post4}
variable {α : Type} {R : Rel α} {xs : List α} {l : Cells} {p : Option Addr} {cp : Nat} {T : TypeId} {w : Nat}
theorem r_pubK {o : Oper} {K : Post4} (j : Nat) (hj : L[j]? = some l) (hv : VecR B l p cp T w R xs) (hR : Mono R) (hl : xs.length ≤ 2000000)
    (h : ∀ B', B.le B' → SlK B' p cp w R xs → opW P n ops i o K S D B' (L.set j [])) : opW P n ops i o K S D B L := fun C todo k T ho hn hT hA => by
  obtain ⟨r, h1, h2⟩ := set_perm C.F [] hj
  exact C.X.publish rfl h1 fun B' hle hm => C.X.perm (by simpa using h2.symm) (h B' hle ⟨hv.rows hR hle hm, hv.cap, hl⟩ C todo k T ho hn hT fun S' D' B'' L' T' hle' hq => hA S' D' B'' L' T' (hle.trans hle') hq)
theorem a_pubK {I : Kn → List Cells → Prop} {ℓ : List Nat} {K : Post4} (j : Nat) (hj : L[j]? = some l) (hv : VecR B l p cp T w R xs) (hR : Mono R) (hl : xs.length ≤ 2000000) (hI' : ∀ B', B.le B' → I B' (L.set j []))
    (h : ∀ B', B.le B' → SlK B' p cp w R xs → AnyW C k n ops I ℓ K S D B' (L.set j [])) : AnyW C k n ops I ℓ K S D B L := fun T ex pend π a1 a2 a3 a4 a5 a6 a7 a8 a9 hI hA => by
  obtain ⟨r, h1, h2⟩ := set_perm C.F [] hj
  exact C.X.publish rfl h1 fun B' hle hm => C.X.perm (by simpa using h2.symm) (h B' hle ⟨hv.rows hR hle hm, hv.cap, hl⟩ T ex pend π a1 a2 a3 a4 a5 a6 a7 a8 a9 (hI' B' hle) fun S' D' B'' L' T' hle' hq => hA S' D' B'' L' T' (hle.trans hle') hq)
end
end Go.BL
namespace Go.BL
set_option linter.unusedVariables false
set_option linter.unusedSimpArgs false
set_option linter.unusedSectionVars false
set_option linter.unusedVariables false
abbrev Str := List UInt8
def StrR : Rel Str := fun _ row x => row = [str x] ∧ x.length ≤ 2000000
theorem StrR.mono : Mono StrR := fun _ _ _ h => h
theorem StrR.one {B : Kn} : ∀ row y, StrR B row y → row.all oneC = true ∧ row.length = 1 := by rintro _ y ⟨rfl, _⟩; exact ⟨rfl, rfl⟩
def IntR : Rel Int := fun _ row x => row = [.int .i64 x]
theorem IntR.mono : Mono IntR := fun _ _ _ h => h
theorem IntR.one {B : Kn} : ∀ row y, IntR B row y → row.all oneC = true ∧ row.length = 1 := by rintro _ y rfl; exact ⟨rfl, rfl⟩
structure DUser where
  name : Str
  pass : Str
  quota : Int
deriving DecidableEq
def UserR : Rel DUser := fun _ row x => row = [str x.name, str x.pass, .int .i64 x.quota] ∧ x.name.length ≤ 2000000 ∧ x.pass.length ≤ 2000000
theorem UserR.mono : Mono UserR := fun _ _ _ h => h
theorem UserR.one {B : Kn} : ∀ row y, UserR B row y → row.all oneC = true ∧ row.length = 3 := by rintro _ y ⟨rfl, _⟩; exact ⟨rfl, rfl⟩
structure DGrant where
  user : Str
  rights : Int
deriving DecidableEq
def GrantR : Rel DGrant := fun _ row x => row = [str x.user, .int .i64 x.rights] ∧ x.user.length ≤ 2000000
theorem GrantR.mono : Mono GrantR := fun _ _ _ h => h
theorem GrantR.one {B : Kn} : ∀ row y, GrantR B row y → row.all oneC = true ∧ row.length = 2 := by rintro _ y ⟨rfl, _⟩; exact ⟨rfl, rfl⟩
structure DMail where
  uid : Int
  flags : Int
  text : Str
deriving DecidableEq
def MailR : Rel DMail := fun _ row x => row = [.int .i64 x.uid, .int .i64 x.flags, str x.text] ∧ x.text.length ≤ 2000000
theorem MailR.mono : Mono MailR := fun _ _ _ h => h
theorem MailR.one {B : Kn} : ∀ row y, MailR B row y → row.all oneC = true ∧ row.length = 3 := by rintro _ y ⟨rfl, _⟩; exact ⟨rfl, rfl⟩
structure DSpan where
  low : Int
  high : Int
deriving DecidableEq
def SpanR : Rel DSpan := fun _ row x => row = [.int .i64 x.low, .int .i64 x.high]
theorem SpanR.mono : Mono SpanR := fun _ _ _ h => h
theorem SpanR.one {B : Kn} : ∀ row y, SpanR B row y → row.all oneC = true ∧ row.length = 2 := by rintro _ y rfl; exact ⟨rfl, rfl⟩
structure DItem where
  id : Int
  fr : Str
  text : Str
  left : List Str
deriving DecidableEq
def ItemR : Rel DItem := fun B row x => ∃ q cp, row = [.int .i64 x.id, str x.fr, str x.text, .slice q x.left.length cp] ∧ SlK B q cp 1 StrR x.left ∧ x.fr.length ≤ 2000000 ∧ x.text.length ≤ 2000000
theorem ItemR.mono : Mono ItemR := by rintro B B' hle row x ⟨q, cp, h1, h2, h3, h4⟩; exact ⟨q, cp, h1, h2.mono StrR.mono hle, h3, h4⟩
theorem ItemR.one {B : Kn} : ∀ row y, ItemR B row y → row.all oneC = true ∧ row.length = 4 := by rintro _ y ⟨_, _, rfl, _⟩; exact ⟨rfl, rfl⟩
structure DQueue where
  next : Int
  items : List DItem
deriving DecidableEq
structure DLetter where
  fr : Str
  to_ : List Str
  text : Str
deriving DecidableEq
structure DBox where
  next : Int
  mail : List DMail
deriving DecidableEq
structure DFolder where
  owner : Str
  name : Str
  grants : List DGrant
  next : Int
  mail : List DMail
deriving DecidableEq
def FolderR : Rel DFolder := fun B row x => ∃ q cp q' cp', row = [str x.owner, str x.name, .slice q x.grants.length cp, .int .i64 x.next, .slice q' x.mail.length cp'] ∧ SlK B q cp 2 GrantR x.grants ∧ SlK B q' cp' 3 MailR x.mail ∧ x.owner.length ≤ 2000000 ∧ x.name.length ≤ 2000000
theorem FolderR.mono : Mono FolderR := by rintro B B' hle row x ⟨q, cp, q', cp', h1, h2, h3, h4⟩; exact ⟨q, cp, q', cp', h1, h2.mono GrantR.mono hle, h3.mono MailR.mono hle, h4⟩
theorem FolderR.one {B : Kn} : ∀ row y, FolderR B row y → row.all oneC = true ∧ row.length = 5 := by rintro _ y ⟨_, _, _, _, rfl, _⟩; exact ⟨rfl, rfl⟩
structure DHost where
  domain : Str
  users : List DUser
  folders : List DFolder
  queue : DQueue
deriving DecidableEq
end Go.BL
namespace Go.BL
set_option linter.unusedVariables false
set_option linter.unusedSimpArgs false
set_option linter.unusedSectionVars false
end Go.BL
namespace Go.BL
set_option linter.unusedVariables false
set_option linter.unusedSimpArgs false
set_option linter.unusedSectionVars false
end Go.BL
namespace Go.BL
set_option linter.unusedVariables false
set_option linter.unusedSimpArgs false
set_option linter.unusedSectionVars false
open Go.Conc (G)
set_option linter.unusedVariables false
end Go.BL
namespace Go.BL
set_option linter.unusedVariables false
set_option linter.unusedSimpArgs false
set_option linter.unusedSectionVars false
open Go.Conc (G)
def AnyK {α : Type} (R : Rel α) : Prop := ∀ {B B' : Kn} {row : List Value} {x : α}, R B row x → R B' row x
theorem StrR.any : AnyK StrR := fun h => h
theorem IntR.any : AnyK IntR := fun h => h
theorem UserR.any : AnyK UserR := fun h => h
theorem GrantR.any : AnyK GrantR := fun h => h
theorem MailR.any : AnyK MailR := fun h => h
theorem SpanR.any : AnyK SpanR := fun h => h
section
variable {P : PJ} {C : Cx P} {k : List Item} {n : Nat} {ops : Array Oper} {i : Nat} {S : Env} {D : List Deferred} {B BV B0 : Kn} {L : List Cells} {Q : Exit → Post4}
variable {α : Type} {R : Rel α} {xs : List α} {l : Cells} {p : Option Addr} {cp : Nat} {T : TypeId} {w : Nat}
def midP (E : α → Env) (Sg : α → List Cells) (F : α → Kn → Prop) (D : List Deferred) : Post4 := fun S' D' B' L' => D' = D ∧ ∃ x, F x B' ∧ Sub (E x) S' ∧ ∃ js r, pickAll L' js = some (Sg x, r)
theorem mid_leaf {E : α → Env} {Sg : α → List Cells} {F : α → Kn → Prop} (g : α) (js : List Nat) {r : List Cells} (hF : F g B) (hs : Sub (E g) S) (hp : pickAll L js = some (Sg g, r)) : thn (midP E Sg F D) Q .normal S D B L := ⟨rfl, g, hF, hs, js, r, hp⟩
end
end Go.BL
namespace Go.BL
set_option linter.unusedVariables false
set_option linter.unusedSimpArgs false
set_option linter.unusedSectionVars false
open Go.Conc (G)
theorem VecR.lend {α : Type} {B : Kn} {l : Cells} {p : Option Addr} {c : Nat} {T : TypeId} {w : Nat} {R : Rel α} {xs : List α} (h : VecR B l p c T w R xs) (hR : Mono R) (hm : ∀ q, q ∈ l → (B.add l).mem q.1 = some q.2) (hl : xs.length ≤ 2000000) : SlK (B.add l) p c w R xs := ⟨h.rows hR (Kn.le_add B l) hm, h.cap, hl⟩
end Go.BL
namespace Go.BL
set_option linter.unusedVariables false
set_option linter.unusedSimpArgs false
set_option linter.unusedSectionVars false
open Go.Conc (G)
section
variable {P : PJ} {C : Cx P} {k : List Item} {n : Nat} {ops : Array Oper} {i : Nat} {K : PostV} {S : Env} {D : List Deferred} {B : Kn} {L : List Cells} {Q : Exit → Post4}
variable {dst : Option Tmp} {ty : TypeId} {pos : String} {after : Array Edge} {g : Option (Nat × Bool)}
theorem w_ixP {t e : TypeId} {x y : Operand} {k : IntKind} {p : Option Addr} {b len cap sz : Nat} {ix : Int} (hp : p = some ⟨b, 0, none⟩) (hg : guardOk ops S g = some true) (hd : dstOk n dst = true) (hu : P.underlying t = some (.slice e)) (hsz : sizeIs P e = some sz)
    (hx : ev S x = some (.slice p len cap)) (hy : ev S y = some (.int k ix)) (h0 : 0 ≤ ix) (h1 : ix < len) (h : K (ptr ⟨b, ix.toNat * sz, none⟩) D B L) : opX P n ops i ⟨dst, .indexAddr t x y, ty, pos, after, g⟩ K S D B L := by
  subst hp
  exact w_indexAddr hg hd hu hsz hx hy h0 h1 (by rw [Addr.add_off _ _ rfl, Nat.zero_add]; exact h)
theorem w_midF {α : Type} {x y : Code} (ks : List Nat) (V : α → Env) (N : α → List Cells) (F : α → Kn → Prop)
    (h : wpS P n x (thn (midP (fun g => V g ++ sel ks S) N F D) Q) S D B L)
    (h' : ∀ g B', B.le B' → F g B' → wpS P n y Q (V g ++ sel ks S) D B' (N g)) : wpS P n (.seq x y) Q S D B L :=
  w_cut _ h fun S' D' B' L' hle ⟨hD, g, hF, hs, jj, r, hp⟩ => by
    subst hD
    exact wKp _ hs (w_sel jj hp (h' g B' hle hF))
end
end Go.BL
namespace Go.BL
set_option linter.unusedVariables false
set_option linter.unusedSimpArgs false
set_option linter.unusedSectionVars false
open Go.Conc (G)
theorem VecR.ints {B : Kn} {b : Nat} {T : TypeId} {ls : List Int} : VecR B (box1 b (ls.map int) T) (some ⟨b, 0, none⟩) ls.length T 1 IntR ls := by
  have e : ls.map int = (ls.map fun x => [int x]).flatten := by induction ls with
    | nil => rfl
    | cons x r ih => simp [ih]
  rw [e]
  refine VecR.lit ?_ (fun row hr => by obtain ⟨x, _, rfl⟩ := List.mem_map.1 hr; rfl)
  clear e
  induction ls with
  | nil => exact .nil
  | cons x r ih => exact .cons rfl ih
theorem setAt_right : ∀ (a b : List Value) (k : Nat) (us : List Value), setAt (a ++ b) (a.length + k) us = a ++ setAt b k us
  | [], b, k, us => by simp
  | x :: a, b, k, us => by
    cases us with
    | nil => simp [setAt_nil]
    | cons u us =>
      have := setAt_right a b k (u :: us)
      rw [List.length_cons, show a.length + 1 + k = (a.length + k) + 1 from by omega]
      simp only [List.cons_append, setAt]
      rw [this]
theorem setAt_left : ∀ (a b : List Value) (k : Nat) (us : List Value), k + us.length ≤ a.length → setAt (a ++ b) k us = setAt a k us ++ b
  | a, b, k, [], _ => by simp [setAt_nil]
  | [], b, k, u :: us, h => by simp at h
  | x :: a, b, 0, u :: us, h => by
    have := setAt_left a b 0 us (by simpa using h)
    simp [setAt, this]
  | x :: a, b, k + 1, u :: us, h => by
    have := setAt_left a b k (u :: us) (by simp only [List.length_cons] at h ⊢; omega)
    simp only [setAt, List.cons_append, this]
theorem setAt_take2 (l : List Value) (i k : Nat) (us : List Value) (h : i + us.length ≤ k) (hk : k ≤ l.length) : (setAt l i us).take k = setAt (l.take k) i us := by
  have e : l = l.take k ++ l.drop k := (List.take_append_drop k l).symm
  have hl : (l.take k).length = k := by rw [List.length_take]; omega
  conv => lhs; rw [e, setAt_left _ _ _ _ (by rw [hl]; exact h)]
  rw [List.take_append_of_le_length (by rw [setAt_length, hl]; exact Nat.le_refl _), List.take_of_length_le (by rw [setAt_length, hl]; exact Nat.le_refl _)]
theorem setAt_flat {w : Nat} {us : List Value} : ∀ {rows : List (List Value)} {i off : Nat} {row : List Value}, wide w rows → rows[i]? = some row → off + us.length ≤ w → setAt rows.flatten (i * w + off) us = (rows.set i (setAt row off us)).flatten
  | [], i, off, row, _, h, _ => by simp at h
  | r :: rows, 0, off, row, hw, h, ho => by
    simp only [List.getElem?_cons_zero, Option.some.injEq] at h
    subst h
    have e := hw r (List.mem_cons_self ..)
    rw [Nat.zero_mul, Nat.zero_add, List.flatten_cons, setAt_left _ _ _ _ (by rw [e]; exact ho), List.set_cons_zero, List.flatten_cons]
  | r :: rows, i + 1, off, row, hw, h, ho => by
    have e := hw r (List.mem_cons_self ..)
    have := setAt_flat (rows := rows) (i := i) (off := off) (fun r hr => hw r (List.mem_cons_of_mem _ hr)) (by simpa using h) ho
    rw [show (i + 1) * w + off = r.length + (i * w + off) from by rw [e, Nat.succ_mul]; omega, List.flatten_cons, setAt_right, this, List.set_cons_succ, List.flatten_cons]
section
variable {P : PJ} {C : Cx P} {k : List Item} {n : Nat} {ops : Array Oper} {i : Nat} {K : PostV} {S : Env} {D : List Deferred} {B BV : Kn} {L : List Cells} {Q : Exit → Post4}
variable {dst : Option Tmp} {ty : TypeId} {pos : String} {after : Array Edge} {g : Option (Nat × Bool)}
theorem w_stO {t T : TypeId} {x y : Operand} {v : Value} {α : Type} {R : Rel α} {xs : List α} {z : α} (z' : α) (us : List Value) {l : Cells} {p : Option Addr} {cp sz k off b : Nat} (j : Nat) (hv : VecR BV l p cp T sz R xs) (hp : p = some ⟨b, 0, none⟩) (hz : xs[k]? = some z) (hg : guardOk ops S g = some true) (hd : dstOk n dst = true) (hsz : sizeIs P t = some us.length)
    (hx : ev S x = some (ptr ⟨b, k * sz + off, none⟩)) (hy : ev S y = some v) (hvc : v.cells = us.toArray) (ho : us.all oneC = true) (hj : L[j]? = some l) (hoff : Nat.ble (off + us.length) sz = true) (hrow : ∀ row, R BV row z → R BV (setAt row off us) z')
    (h : ∀ l', VecR BV l' p cp T sz R (xs.set k z') → K undef D B (L.set j l')) : opX P n ops i ⟨dst, .store t x y, ty, pos, after, g⟩ K S D B L := by
  obtain ⟨rows, h1, h2, h3, ⟨rfl, _, _, _⟩ | ⟨b', arr, rfl, ha, ht, rfl, hmc⟩⟩ := hv
  · cases hp
  · cases hp
    obtain ⟨row, hr1, hr2⟩ := h1.get hz
    have hoff' := Nat.le_of_ble_eq_true hoff
    have hk : k < xs.length := (List.getElem?_eq_some_iff.1 hz).1
    have hb1 : k * sz + off + us.length ≤ xs.length * sz := by
      have : (k + 1) * sz ≤ xs.length * sz := Nat.mul_le_mul_right sz hk
      rw [Nat.succ_mul] at this; omega
    have hb2 : xs.length * sz ≤ arr.length := by rw [ha]; exact Nat.mul_le_mul_right sz hmc
    refine w_store us j (setAt arr (k * sz + off) us) hg hd hsz hx hy hvc ho (r := []) hj rfl (Nat.ble_eq_true_of_le (by simpa using (by omega : k * sz + off + us.length ≤ arr.length))) rfl (h _ ?_)
    refine ⟨rows.set k (setAt row off us), h1.set (hrow row hr2) k, fun r hr => ?_, ?_⟩
    · rcases List.mem_or_eq_of_mem_set hr with hr | rfl
      · exact h2 r hr
      · rw [setAt_length]; exact h2 row (List.mem_of_getElem? hr1)
    · have e := setAt_flat (us := us) h2 hr1 hoff'
      refine ⟨?_, .inr ⟨b, _, rfl, by rw [setAt_length]; exact ha, ?_, rfl, by rw [List.length_set]; exact hmc⟩⟩
      · rw [← e, setAt_length, List.length_set]; exact h3
      · rw [List.length_set, setAt_take2 _ _ _ _ hb1 hb2, ht, e]
end
end Go.BL
namespace Go.BL
set_option linter.unusedVariables false
set_option linter.unusedSimpArgs false
set_option linter.unusedSectionVars false
open Go.Conc (G)
set_option linter.unusedVariables false
section
variable {P : PJ} {B : Kn} {L L₁ : Cells} {l : Nat} {lp : Loop}
end
section moves
variable {P : PJ} {X : Lg P} {b : Frame} {T : Array Value} {D : List Deferred} {k : List Item} {cs : List Frame} {B : Kn} {L L₁ : Cells} {l : Nat} {lp : Loop}
end moves
end Go.BL
namespace Go.BL
set_option linter.unusedVariables false
set_option linter.unusedSimpArgs false
set_option linter.unusedSectionVars false
open Go.Conc (G)
section
variable {P : PJ} {n : Nat} {ops : Array Oper} {i : Nat} {K : PostV} {S : Env} {D : List Deferred} {B : Kn} {L : List Cells} {Q : Exit → Post4}
variable {dst : Option Tmp} {ty : TypeId} {pos : String} {after : Array Edge} {g : Option (Nat × Bool)}
end
end Go.BL
namespace Go.BL
set_option linter.unusedVariables false
set_option linter.unusedSimpArgs false
set_option linter.unusedSectionVars false
open Go.Conc (G)
set_option linter.unusedVariables false
def Kn.none : Kn := ⟨fun _ => Option.none⟩
abbrev RelO (α : Type) := List Value → α → Cells → Prop
inductive All3 {α : Type} (R : RelO α) : List (List Value) → List α → Cells → Prop
  | nil : All3 R [] [] []
  | cons {row : List Value} {x : α} {ins rest : Cells} {rows : List (List Value)} {xs : List α} : R row x ins → All3 R rows xs rest → All3 R (row :: rows) (x :: xs) (ins ++ rest)
theorem All3.len {α : Type} {R : RelO α} {rows : List (List Value)} {xs : List α} {s : Cells} (h : All3 R rows xs s) : rows.length = xs.length := by
  induction h with
  | nil => rfl
  | cons _ _ ih => simp [ih]
def VecD {α : Type} (l : Cells) (p : Option Addr) (c : Nat) (T : TypeId) (w : Nat) (R : RelO α) (xs : List α) : Prop :=
  ∃ rows blk ins, All3 R rows xs ins ∧ wide w rows ∧ l.Perm (blk ++ ins) ∧ VecL blk p xs.length c T w rows.flatten
theorem VecD.lit0 {α : Type} {b : Nat} {T : TypeId} {w : Nat} {R : RelO α} : VecD (box1 b [] T) (some ⟨b, 0, Option.none⟩) 0 T w R ([] : List α) := ⟨[], _, [], .nil, (fun _ h => by cases h), by simp, VecL.lit (by simp)⟩
theorem VecD.nil {α : Type} {T : TypeId} {w : Nat} {R : RelO α} : VecD [] Option.none 0 T w R ([] : List α) := ⟨[], [], [], .nil, (fun _ h => by cases h), by simp, VecL.nil T w⟩
theorem VecD.cap {α : Type} {l : Cells} {p : Option Addr} {c : Nat} {T : TypeId} {w : Nat} {R : RelO α} {xs : List α} (h : VecD l p c T w R xs) : xs.length ≤ c := by
  obtain ⟨rows, blk, ins, _, _, _, _, ⟨_, h0, _, _⟩ | ⟨b, arr, _, _, _, _, hm⟩⟩ := h
  · omega
  · exact hm
abbrev VecStr (T : TypeId) (s : Cells) (q : Option Addr) (c : Nat) (ls : List Str) : Prop := VecR Kn.none s q c T 1 StrR ls
def ItemO (T : TypeId) : RelO DItem := fun row x ins => ∃ q c, row = [.int .i64 x.id, str x.fr, str x.text, .slice q x.left.length c] ∧ VecStr T ins q c x.left ∧ x.fr.length ≤ 2000000 ∧ x.text.length ≤ 2000000 ∧ x.left.length ≤ 2000000
def ListD (T Tn : TypeId) : Value → List DItem → Cells → Prop
  | v, [], s => v = .pointer Option.none ∧ s = []
  | v, x :: xs, s => ∃ b row nx ins rest, v = ptr ⟨b, 0, Option.none⟩ ∧ s.Perm (box1 b (row ++ [nx]) Tn ++ (ins ++ rest)) ∧ ItemO T row x ins ∧ ListD T Tn nx xs rest
section
variable {P : PJ} {n : Nat} {ops : Array Oper} {i : Nat} {K : PostV} {S : Env} {D : List Deferred} {B : Kn} {L : List Cells} {Q : Exit → Post4}
variable {dst : Option Tmp} {ty : TypeId} {pos : String} {after : Array Edge} {g : Option (Nat × Bool)}
end
end Go.BL
namespace Go.BL
set_option linter.unusedVariables false
set_option linter.unusedSimpArgs false
set_option linter.unusedSectionVars false
open Go.Conc (G)
section
variable {P : PJ} {n : Nat} {ops : Array Oper} {i : Nat} {K : PostV} {S : Env} {D : List Deferred} {B : Kn} {L : List Cells} {Q : Exit → Post4}
variable {dst : Option Tmp} {ty : TypeId} {pos : String} {after : Array Edge} {g : Option (Nat × Bool)}
end
end Go.BL
namespace Go.BL
set_option linter.unusedVariables false
set_option linter.unusedSimpArgs false
set_option linter.unusedSectionVars false
open Go.Conc (G)
theorem ListD.ptr {T Tn : TypeId} {v : Value} {xs : List DItem} {s : Cells} (h : ListD T Tn v xs s) : ∃ p, v = .pointer p := by
  cases xs with
  | nil => exact ⟨_, h.1⟩
  | cons x xs => obtain ⟨b, _, _, _, _, rfl, _⟩ := h; exact ⟨_, rfl⟩
theorem ListD.more {T Tn : TypeId} {p : Option Addr} {xs : List DItem} {s : Cells} (h : ListD T Tn (.pointer p) xs s) (hp : p.isNone = false) : ∃ y ys b q c np ins rest, p = some ⟨b, 0, Option.none⟩ ∧ xs = y :: ys ∧ s.Perm (box1 b [.int .i64 y.id, str y.fr, str y.text, .slice q y.left.length c, .pointer np] Tn ++ [ins, rest].flatten) ∧ VecStr T ins q c y.left ∧ y.fr.length ≤ 2000000 ∧ y.text.length ≤ 2000000 ∧ y.left.length ≤ 2000000 ∧ ListD T Tn (.pointer np) ys rest := by
  cases xs with
  | nil => cases h.1; cases hp
  | cons y ys =>
    obtain ⟨b, row, nx, ins, rest, h1, h2, ⟨q, c, rfl, h4, h5, h6, h7⟩, h8⟩ := h
    obtain ⟨np, rfl⟩ := h8.ptr
    cases h1
    exact ⟨y, ys, b, q, c, np, ins, rest, rfl, rfl, by simpa using h2, h4, h5, h6, h7, h8⟩
theorem ListD.done {T Tn : TypeId} {p : Option Addr} {xs : List DItem} {s : Cells} (h : ListD T Tn (.pointer p) xs s) (hp : p.isNone = true) : xs = [] := by
  cases xs with
  | nil => rfl
  | cons y ys => obtain ⟨b, row, nx, ins, rest, h1, _⟩ := h; cases h1; cases hp
end Go.BL
namespace Go.BL
set_option linter.unusedVariables false
set_option linter.unusedSimpArgs false
set_option linter.unusedSectionVars false
open Go.Conc (G)
set_option linter.unusedVariables false
section
variable {P : PJ}
end
section
variable {P : PJ} {n : Nat} {ops : Array Oper} {i : Nat} {K : PostV} {S : Env} {D : List Deferred} {B : Kn} {L : List Cells}
variable {dst : Option Tmp} {ty : TypeId} {pos : String} {after : Array Edge} {g : Option (Nat × Bool)}
end
end Go.BL
namespace Go.BL
set_option linter.unusedVariables false
set_option linter.unusedSimpArgs false
set_option linter.unusedSectionVars false
open Go.Conc (G)
set_option linter.unusedVariables false
theorem permC {a b : Cells} (h : ∀ (f : Cells → Nat) (g : Nat × Obj → Nat), f [] = 0 → (∀ x y, f (x ++ y) = f x + f y) → (∀ x l, f (x :: l) = g x + f l) → f a = f b) : a.Perm b := by
  classical
  rw [List.perm_iff_count]
  intro x
  exact h (fun l => l.count x) (fun y => if y == x then 1 else 0) (by simp) (fun l m => by simp [List.count_append]) (fun y l => by rw [List.count_cons, Nat.add_comm])
section
variable {P : PJ} {n : Nat} {ops : Array Oper} {i : Nat} {K : PostV} {S : Env} {D : List Deferred} {B : Kn} {L : List Cells} {Q : Exit → Post4}
variable {dst : Option Tmp} {ty : TypeId} {pos : String} {after : Array Edge} {g : Option (Nat × Bool)}
end
def LinkD (T Tn Tb : TypeId) (b9 bl o : Nat) (cs : List Value) (Tc : TypeId) (rest : Cells) (pre : List DItem) : Prop :=
  ∀ v xs s, ListD T Tn v xs s → ∃ v0 s0, ListD T Tn v0 (pre ++ xs) s0 ∧ (box1 bl (cs.set o v) Tc ++ (rest ++ s)).Perm (box1 b9 [v0] Tb ++ s0)
theorem LinkD.step {T Tn Tb Tc : TypeId} {b9 bl o b8 : Nat} {cs row : List Value} {rest ins : Cells} {pre : List DItem} {y : DItem} {np : Value} (h : LinkD T Tn Tb b9 bl o cs Tc rest pre) (hl : row.length = 4) (hr : ItemO T row y ins) :
    LinkD T Tn Tb b9 b8 4 (row ++ [np]) Tn (rest ++ (box1 bl (cs.set o (ptr ⟨b8, 0, Option.none⟩)) Tc ++ ins)) (pre ++ [y]) := fun v xs s hs => by
  obtain ⟨v0, s0, h1, h2⟩ := h (ptr ⟨b8, 0, Option.none⟩) (y :: xs) (box1 b8 (row ++ [v]) Tn ++ (ins ++ s)) ⟨b8, row, v, ins, s, rfl, .refl _, hr, hs⟩
  refine ⟨v0, s0, by simpa using h1, ?_⟩
  have e : (row ++ [np]).set 4 v = row ++ [v] := by rw [← hl]; simp
  rw [e]
  refine List.Perm.trans ?_ h2
  exact permC fun f g h0 ha hc => by simp only [ha]; omega
structure QTk where
  pre : List DItem
  xs : List DItem
  p : Option Addr
  bl : Nat
  o : Nat
  cs : List Value
  Tc : TypeId
  rest : Cells
  cells : Cells
end Go.BL
namespace Go.BL
set_option linter.unusedVariables false
set_option linter.unusedSimpArgs false
set_option linter.unusedSectionVars false
open Go.Conc (G)
theorem All2.drop {α : Type} {R : List Value → α → Prop} {rows : List (List Value)} {xs : List α} (h : All2 R rows xs) : ∀ k, All2 R (rows.drop k) (xs.drop k) := by
  induction h with
  | nil => intro k; simp; exact .nil
  | cons h1 h2 ih =>
    intro k
    cases k with
    | zero => exact .cons h1 h2
    | succ k => exact ih k
end Go.BL
namespace Go.BL
set_option linter.unusedVariables false
set_option linter.unusedSimpArgs false
set_option linter.unusedSectionVars false
open Go.Conc (G)
end Go.BL
namespace Go.BL
set_option linter.unusedVariables false
set_option linter.unusedSimpArgs false
set_option linter.unusedSectionVars false
open Go.Conc (G)
section
variable {P : PJ} {n : Nat} {ops : Array Oper} {i : Nat} {K : PostV} {S : Env} {D : List Deferred} {B : Kn} {L : List Cells}
variable {dst : Option Tmp} {ty : TypeId} {pos : String} {after : Array Edge} {g : Option (Nat × Bool)}
end
end Go.BL
namespace Go.BL
set_option linter.unusedVariables false
set_option linter.unusedSimpArgs false
set_option linter.unusedSectionVars false
open Go.Conc (G)
set_option linter.unusedVariables false
section
variable {P : PJ} {n : Nat} {ops : Array Oper} {i : Nat} {K : PostV} {S : Env} {D : List Deferred} {B : Kn} {L : List Cells}
variable {dst : Option Tmp} {ty : TypeId} {pos : String} {after : Array Edge} {g : Option (Nat × Bool)}
end
end Go.BL
namespace Go.BL
set_option linter.unusedVariables false
set_option linter.unusedSimpArgs false
set_option linter.unusedSectionVars false
open Go.Conc (G)
section
variable {P : PJ} {n : Nat} {ops : Array Oper} {i : Nat} {K : PostV} {S : Env} {D : List Deferred} {B : Kn} {L : List Cells}
variable {dst : Option Tmp} {ty : TypeId} {pos : String} {after : Array Edge} {g : Option (Nat × Bool)}
end
section
variable {P : PJ} {n : Nat} {ops : Array Oper} {i : Nat} {K : PostV} {S : Env} {D : List Deferred} {B : Kn} {L : List Cells}
variable {dst : Option Tmp} {ty : TypeId} {pos : String} {after : Array Edge} {g : Option (Nat × Bool)}
end
end Go.BL
namespace Go.BL
set_option linter.unusedVariables false
set_option linter.unusedSimpArgs false
set_option linter.unusedSectionVars false
open Go.Conc (G)
set_option linter.unusedVariables false
section
variable {P : PJ} {n : Nat} {ops : Array Oper} {i : Nat} {K : PostV} {S : Env} {D : List Deferred} {B : Kn} {L : List Cells}
variable {dst : Option Tmp} {ty : TypeId} {pos : String} {after : Array Edge} {g : Option (Nat × Bool)}
end
section
variable {P : PJ} {C : Cx P} {n : Nat} {k : List Item} {T : Array Value} {S : Env} {D : List Deferred} {B : Kn} {L : List Cells}
end
section
variable {P : PJ} {C : Cx P} {n : Nat} {k : List Item} {T : Array Value} {S : Env} {D : List Deferred} {B : Kn} {L : List Cells}
end
end Go.BL
namespace Go.BL
set_option linter.unusedVariables false
set_option linter.unusedSimpArgs false
set_option linter.unusedSectionVars false
set_option linter.unusedVariables false
structure SlB {α : Type} (B : Kn) (q : Option Addr) (cp w : Nat) (R : Rel α) (xs : List α) : Prop where
  rows : RowsR B q w R xs
  cap : xs.length ≤ cp
  len : xs.length ≤ 140737488355328
theorem SlB.mono {α : Type} {B B' : Kn} {q : Option Addr} {cp w : Nat} {R : Rel α} {xs : List α} (h : SlB B q cp w R xs) (hR : Mono R) (hle : B.le B') : SlB B' q cp w R xs := ⟨h.rows.mono hR hle, h.cap, h.len⟩
theorem SlB.base {α : Type} {B : Kn} {q : Option Addr} {cp w : Nat} {R : Rel α} {xs : List α} (h : SlB B q cp w R xs) {i : Nat} {z : α} (hz : xs[i]? = some z) : ∃ b o, q = some ⟨b, o, none⟩ := h.rows.base hz
theorem SlB.elem {α : Type} {B : Kn} {b o cp w : Nat} {R : Rel α} {xs : List α} (h : SlB B (some ⟨b, o, none⟩) cp w R xs) {i : Nat} {z : α} (hz : xs[i]? = some z) : ∃ row, R B row z ∧ RowAt' B b (o + i * w) row := h.rows.elem hz
def StrB : Rel Str := fun _ row x => row = [str x] ∧ x.length ≤ 140737488355328
theorem StrB.mono : Mono StrB := fun _ _ _ h => h
def UserB : Rel DUser := fun _ row x => row = [str x.name, str x.pass, .int .i64 x.quota] ∧ x.name.length ≤ 140737488355328 ∧ x.pass.length ≤ 140737488355328
theorem UserB.mono : Mono UserB := fun _ _ _ h => h
def GrantB : Rel DGrant := fun _ row x => row = [str x.user, .int .i64 x.rights] ∧ x.user.length ≤ 140737488355328
theorem GrantB.mono : Mono GrantB := fun _ _ _ h => h
def MailB : Rel DMail := fun _ row x => row = [.int .i64 x.uid, .int .i64 x.flags, str x.text] ∧ x.text.length ≤ 140737488355328
theorem MailB.mono : Mono MailB := fun _ _ _ h => h
def ItemB : Rel DItem := fun B row x => ∃ q cp, row = [.int .i64 x.id, str x.fr, str x.text, .slice q x.left.length cp] ∧ SlB B q cp 1 StrB x.left ∧ x.fr.length ≤ 140737488355328 ∧ x.text.length ≤ 140737488355328
theorem ItemB.mono : Mono ItemB := by rintro B B' hle row x ⟨q, cp, h1, h2, h3, h4⟩; exact ⟨q, cp, h1, h2.mono StrB.mono hle, h3, h4⟩
def FolderB : Rel DFolder := fun B row x => ∃ q cp q' cp', row = [str x.owner, str x.name, .slice q x.grants.length cp, .int .i64 x.next, .slice q' x.mail.length cp'] ∧ SlB B q cp 2 GrantB x.grants ∧ SlB B q' cp' 3 MailB x.mail ∧ x.owner.length ≤ 140737488355328 ∧ x.name.length ≤ 140737488355328
theorem FolderB.mono : Mono FolderB := by rintro B B' hle row x ⟨q, cp, q', cp', h1, h2, h3, h4⟩; exact ⟨q, cp, q', cp', h1, h2.mono GrantB.mono hle, h3.mono MailB.mono hle, h4⟩
end Go.BL
namespace Go.BL
set_option linter.unusedVariables false
set_option linter.unusedSimpArgs false
set_option linter.unusedSectionVars false
open Go.Conc (G)
set_option linter.unusedVariables false
theorem All3.set {α : Type} {R : RelO α} {rows : List (List Value)} {xs : List α} {s : Cells} (h : All3 R rows xs s) {row : List Value} {z : α} {ins : Cells} (hz : R row z ins) : ∀ k, k < xs.length → ∃ s' gl, All3 R (rows.set k row) (xs.set k z) s' ∧ (s ++ ins).Perm (s' ++ gl) := by
  induction h with
  | nil => intro k hk; simp at hk
  | @cons row0 x ins0 rest rows xs h1 h2 ih =>
    intro k hk
    cases k with
    | zero =>
      refine ⟨ins ++ rest, ins0, .cons hz h2, ?_⟩
      exact permC fun f g h0 ha hc => by simp only [ha]; omega
    | succ k =>
      obtain ⟨s', gl, h3, h4⟩ := ih k (by simpa using hk)
      refine ⟨ins0 ++ s', gl, .cons h1 h3, ?_⟩
      rw [List.append_assoc, List.append_assoc]
      exact List.Perm.append_left _ h4
theorem VecD.ptr {α : Type} {l : Cells} {p : Option Addr} {c : Nat} {T : TypeId} {w : Nat} {R : RelO α} {xs : List α} (h : VecD l p c T w R xs) (hx : 0 < xs.length) : ∃ b, p = some ⟨b, 0, Option.none⟩ := by
  obtain ⟨rows, blk, ins, _, _, _, _, ⟨_, h0, _, _⟩ | ⟨b, arr, rfl, _⟩⟩ := h
  · omega
  · exact ⟨b, rfl⟩
section
variable {P : PJ} {n : Nat} {ops : Array Oper} {i : Nat} {K : PostV} {S : Env} {D : List Deferred} {B : Kn} {L : List Cells} {Q : Exit → Post4}
variable {dst : Option Tmp} {ty : TypeId} {pos : String} {after : Array Edge} {g : Option (Nat × Bool)}
end
section
variable {P : PJ} {n : Nat} {ops : Array Oper} {i : Nat} {K : PostV} {S : Env} {D : List Deferred} {B BV : Kn} {L : List Cells}
variable {dst : Option Tmp} {ty : TypeId} {pos : String} {after : Array Edge} {g : Option (Nat × Bool)}
end
theorem VecR.ptr {α : Type} {B : Kn} {l : Cells} {p : Option Addr} {c : Nat} {T : TypeId} {w : Nat} {R : Rel α} {xs : List α} (h : VecR B l p c T w R xs) (hx : 0 < xs.length) : ∃ b, p = some ⟨b, 0, none⟩ := by
  obtain ⟨rows, _, _, _, ⟨_, h0, _, _⟩ | ⟨b, arr, rfl, _⟩⟩ := h
  · omega
  · exact ⟨b, rfl⟩
def fill {α : Type} (xs : List α) (d : α) (k : Nat) : List α := xs.take k ++ List.replicate (xs.length - k) d
section
variable {P : PJ} {C : Cx P} {k : List Item} {n : Nat} {ops : Array Oper} {i : Nat} {S : Env} {D : List Deferred} {B BV : Kn} {L : List Cells} {Q : Exit → Post4}
variable {α : Type} {xs : List α} {l : Cells} {p : Option Addr} {cp : Nat} {T : TypeId} {w : Nat}
end
end Go.BL
namespace Go.BL
set_option linter.unusedVariables false
set_option linter.unusedSimpArgs false
set_option linter.unusedSectionVars false
open Go.ChangeShapes Go.WideShapes Go.ChangeAt Go.RowKit
set_option linter.unusedVariables false
section
variable {H : Type} (enc : TypeId × Value → H) (P : Program) (W : World)
def OpensP (t : TypeId) (p : List Value → Prop) : Prop := ∀ (fuel : Nat) (cs : List Value) (d : DataW H) (ps : List MemPlace), DataW.trod enc P W 0 (fun _ => true) true fuel t cs = some (d, ps) → (∀ m, m ∈ d.weights P t → m ≤ reachBytes) → p cs
end
section
variable {H : Type} {enc : TypeId × Value → H} {P : Program} {W : World}
theorem OpensP.mono {t : TypeId} {p p' : List Value → Prop} (h : OpensP enc P W t p) (hp : ∀ cs, p cs → p' cs) : OpensP enc P W t p' := fun fuel cs d ps ht hw => hp cs (h fuel cs d ps ht hw)
end
end Go.BL
namespace Go.BL
set_option linter.unusedVariables false
set_option linter.unusedSimpArgs false
set_option linter.unusedSectionVars false
open Go
set_option linter.unusedVariables false
set_option linter.unusedSimpArgs false
def nameB (c : UInt8) : Bool := (decide (97 ≤ c.toNat) && decide (c.toNat ≤ 122)) || (decide (48 ≤ c.toNat) && decide (c.toNat ≤ 57))
def nameOk (l : List UInt8) : Bool := l.all nameB && decide (1 ≤ l.length) && decide (l.length ≤ 8)
theorem all_stop {l : List UInt8} {k : Nat} {c : UInt8} (hc : l[k]? = some c) (h : nameB c = false) : l.all nameB = false := by
  rw [Bool.eq_false_iff]; intro ha
  have := List.all_eq_true.1 ha c (List.mem_of_getElem? hc)
  rw [h] at this; cases this
theorem all_step {l : List UInt8} {k : Nat} {c : UInt8} (hc : l[k]? = some c) (h : nameB c = true) (ha : (l.take k).all nameB = true) : (l.take (k + 1)).all nameB = true := by
  rw [List.take_add_one, hc]; simp only [Option.toList_some, List.all_append, ha, List.all_cons, h, List.all_nil]; rfl
def word (l : List UInt8) (i : Nat) : List UInt8 := (l.drop i).takeWhile nameB
def wordOk (w : List UInt8) : Bool := decide (1 ≤ w.length) && decide (w.length ≤ 8)
theorem some_true {o : Option UInt8} {f : UInt8 → Bool} (h : (match o with | some c => f c | none => false) = true) : ∃ c, o = some c ∧ f c = true := by
  cases o with
  | none => cases h
  | some c => exact ⟨c, rfl, h⟩
theorem lt_of_get {α : Type} {l : List α} {k : Nat} {c : α} (h : l[k]? = some c) : k < l.length := (List.getElem?_eq_some_iff.1 h).1
theorem takeWhile_end {p : UInt8 → Bool} : ∀ {m : List UInt8} {k : Nat}, (m.take k).all p = true → (∀ c, m[k]? = some c → p c = false) → m.takeWhile p = m.take k
  | [], k, _, _ => by simp
  | c :: m, 0, _, h => by simp [List.takeWhile, h c rfl]
  | c :: m, k + 1, ha, h => by
    simp only [List.take_succ_cons, List.all_cons, Bool.and_eq_true] at ha
    simp only [List.takeWhile, ha.1, List.take_succ_cons]
    rw [takeWhile_end ha.2 (fun c hc => h c (by simpa using hc))]
theorem word_end {l : List UInt8} {i k : Nat} (ha : ((l.drop i).take k).all nameB = true) (h : ∀ c, l[i + k]? = some c → nameB c = false) : word l i = (l.drop i).take k :=
  takeWhile_end ha (fun c hc => h c (by simpa using hc))
theorem drop_take_word {l : List UInt8} {i k : Nat} : (l.take (i + k)).drop i = (l.drop i).take k := by
  rw [List.drop_take, Nat.add_sub_cancel_left]
theorem two_eq {a b c d : Value} (h : a = c) (h' : b = d) : Value.tuple #[a, b] = Value.tuple #[c, d] := by rw [h, h']
def more : Nat → List UInt8 → Nat → Bool × Nat
  | 0, _, i => (true, i)
  | n + 1, l, i => if l[i]? = some 46 then (if wordOk (word l (i + 1)) = true then more n l (i + 1 + (word l (i + 1)).length) else (false, i + 1 + (word l (i + 1)).length)) else (true, i)
def dom (l : List UInt8) (i : Nat) : Bool × Nat := if wordOk (word l i) = true then more 2 l (i + (word l i).length) else (false, i + (word l i).length)
def domText (l : List UInt8) (i : Nat) : List UInt8 := if (dom l i).1 = true then (l.take (dom l i).2).drop i else []
def domOk (l : List UInt8) (i : Nat) : Bool := (dom l i).1 && decide ((dom l i).2 - i ≤ 20)
theorem dom_bad {l : List UInt8} {i : Nat} (h : wordOk (word l i) = false) : dom l i = (false, i + (word l i).length) := by simp [dom, h]
theorem dom_good {l : List UInt8} {i : Nat} (h : wordOk (word l i) = true) : dom l i = more 2 l (i + (word l i).length) := by simp [dom, h]
theorem word_le {l : List UInt8} {i : Nat} (h : i ≤ l.length) : i + (word l i).length ≤ l.length := by
  have := List.IsPrefix.length_le (List.takeWhile_prefix nameB (l := l.drop i))
  rw [List.length_drop] at this
  unfold word; omega
theorem more_stop {l : List UInt8} {n j : Nat} (h : ¬ l[j]? = some 46) : more n l j = (true, j) := by
  cases n with
  | zero => rfl
  | succ n => rw [more, if_neg h]
theorem more_bad {l : List UInt8} {n j : Nat} (hn : 1 ≤ n) (h : l[j]? = some 46) (hw : wordOk (word l (j + 1)) = false) : more n l j = (false, j + 1 + (word l (j + 1)).length) := by
  cases n with
  | zero => omega
  | succ n => rw [more, if_pos h, if_neg (by simp [hw])]
theorem more_good {l : List UInt8} {n j : Nat} (hn : 1 ≤ n) (h : l[j]? = some 46) (hw : wordOk (word l (j + 1)) = true) : more n l j = more (n - 1) l (j + 1 + (word l (j + 1)).length) := by
  cases n with
  | zero => omega
  | succ n => rw [more, if_pos h, if_pos hw]; rfl
theorem takeWhile_len {p : UInt8 → Bool} : ∀ l : List UInt8, (l.takeWhile p).length = l.length ↔ l.all p = true
  | [] => by simp
  | c :: l => by
    have h := takeWhile_len (p := p) l
    cases hc : p c with
    | true => simp [List.takeWhile, hc] at h ⊢; exact h
    | false => simp [List.takeWhile, hc]
theorem nameOk_word {l : List UInt8} : nameOk l = (wordOk (word l 0) && decide ((word l 0).length = l.length)) := by
  have h := takeWhile_len (p := nameB) l
  have e : word l 0 = l.takeWhile nameB := by simp [word]
  rw [Bool.eq_iff_iff]
  simp only [nameOk, wordOk, e, Bool.and_eq_true, decide_eq_true_eq]
  constructor
  · rintro ⟨⟨h1, h2⟩, h3⟩
    have := h.2 h1
    omega
  · rintro ⟨⟨h1, h2⟩, h3⟩
    exact ⟨⟨h.1 h3, by omega⟩, by omega⟩
theorem more_le {l : List UInt8} : ∀ (n j : Nat), j ≤ l.length → (more n l j).2 ≤ l.length
  | 0, j, h => h
  | n + 1, j, h => by
    rw [more]
    split
    · rename_i e
      have := lt_of_get e
      have h2 := word_le (l := l) (i := j + 1) (by omega)
      split
      · exact more_le n _ h2
      · exact h2
    · exact h
theorem dom_le {l : List UInt8} {i : Nat} (h : i ≤ l.length) : (dom l i).2 ≤ l.length := by
  unfold dom
  have h2 := word_le h
  split
  · exact more_le 2 _ h2
  · exact h2
def glue (a : List UInt8) : List (List UInt8) → List (List UInt8)
  | [] => [a]
  | p :: ps => (a ++ p) :: ps
def cut (x : UInt8) : List UInt8 → List (List UInt8)
  | [] => [[]]
  | c :: r => if c = x then [] :: cut x r else glue [c] (cut x r)
theorem cut_ne (x : UInt8) : ∀ l, cut x l ≠ []
  | [] => by simp [cut]
  | c :: r => by
    rw [cut]
    split
    · simp
    · cases cut x r <;> simp [glue]
theorem glue_nil {m : List (List UInt8)} (h : m ≠ []) : glue [] m = m := by
  cases m with
  | nil => exact absurd rfl h
  | cons p ps => rfl
theorem glue_glue (a b : List UInt8) (m : List (List UInt8)) : glue a (glue b m) = glue (a ++ b) m := by
  cases m <;> simp [glue]
structure CutSt where
  i : Nat
  f : Nat
  m : Nat
  ps : List (List UInt8)
  q : Option Addr
  cp : Nat
  s : Cells
theorem u8_eq {a b : UInt8} (h : (a.toNat : Int) = b.toNat) : a = b := UInt8.toNat_inj.1 (by exact_mod_cast h)
theorem cut_hit {l : List UInt8} {x c : UInt8} {i : Nat} (h : l[i]? = some c) (e : c = x) : cut x (l.drop i) = [] :: cut x (l.drop (i + 1)) := by
  obtain ⟨hlt, he⟩ := List.getElem?_eq_some_iff.1 h
  rw [List.drop_eq_getElem_cons hlt, he, cut, if_pos e]
theorem cut_miss {l : List UInt8} {x c : UInt8} {i : Nat} (h : l[i]? = some c) (e : c ≠ x) : cut x (l.drop i) = glue [c] (cut x (l.drop (i + 1))) := by
  obtain ⟨hlt, he⟩ := List.getElem?_eq_some_iff.1 h
  rw [List.drop_eq_getElem_cons hlt, he, cut, if_neg e]
theorem u8_ne {a b : UInt8} (h : ¬ (a.toNat : Int) = b.toNat) : a ≠ b := fun e => h (by rw [e])
theorem take_more {l : List UInt8} {c : UInt8} {i f : Nat} (h : l[i]? = some c) (hf : f ≤ i) : (l.take i).drop f ++ [c] = (l.take (i + 1)).drop f := by
  have hlt := lt_of_get h
  rw [List.take_add_one, h]
  simp only [Option.toList_some]
  rw [List.drop_append_of_le_length (by rw [List.length_take]; omega)]
theorem glue_hit (a : List UInt8) (m : List (List UInt8)) : glue a ([] :: m) = a :: m := by simp [glue]
def specDom (l : List UInt8) : Bool := (cut 46 l).all nameOk && decide ((cut 46 l).length ≤ 3) && decide (l.length ≤ 20)
theorem glue_len {a : List UInt8} {m : List (List UInt8)} {n : Nat} (h : ∀ p, p ∈ m → p.length ≤ n) : ∀ p, p ∈ glue a m → p.length ≤ a.length + n := by
  cases m with
  | nil => intro p hp; simp [glue] at hp; subst hp; omega
  | cons q qs =>
    intro p hp
    simp only [glue, List.mem_cons] at hp
    rcases hp with rfl | hp
    · rw [List.length_append]; have := h q (List.mem_cons_self ..); omega
    · have := h p (List.mem_cons_of_mem _ hp); omega
theorem cut_len (x : UInt8) : ∀ (l p : List UInt8), p ∈ cut x l → p.length ≤ l.length
  | [], p, h => by simp [cut] at h; subst h; simp
  | c :: r, p, h => by
    rw [cut] at h
    split at h
    · rcases List.mem_cons.1 h with rfl | h
      · simp
      · have := cut_len x r p h; simp; omega
    · have := glue_len (cut_len x r) p h; simp at this ⊢; omega
theorem all_stop2 {l : List (List UInt8)} {k : Nat} {c : List UInt8} (hc : l[k]? = some c) (h : nameOk c = false) : l.all nameOk = false := by
  rw [Bool.eq_false_iff]; intro ha
  have := List.all_eq_true.1 ha c (List.mem_of_getElem? hc)
  rw [h] at this; cases this
theorem all_step2 {l : List (List UInt8)} {k : Nat} {c : List UInt8} (hc : l[k]? = some c) (h : nameOk c = true) (ha : (l.take k).all nameOk = true) : (l.take (k + 1)).all nameOk = true := by
  rw [List.take_add_one, hc]; simp only [Option.toList_some, List.all_append, ha, List.all_cons, h, List.all_nil]; rfl
theorem cut_count (x : UInt8) : ∀ l : List UInt8, (cut x l).length ≤ l.length + 1
  | [] => by simp [cut]
  | c :: r => by
    have h := cut_count x r
    rw [cut]
    split
    · simp; omega
    · cases hq : cut x r with
      | nil => exact absurd hq (cut_ne x r)
      | cons p ps => rw [hq] at h; simp [glue] at h ⊢; omega
end Go.BL
namespace Go.BL
set_option linter.unusedVariables false
set_option linter.unusedSimpArgs false
set_option linter.unusedSectionVars false
open Go
set_option linter.unusedVariables false
set_option linter.unusedSimpArgs false
theorem cut_none {x : UInt8} : ∀ {l : List UInt8}, x ∉ l → cut x l = [l]
  | [], _ => rfl
  | c :: r, h => by
    rw [cut, if_neg (fun e => h (by rw [e]; exact List.mem_cons_self ..)), cut_none (fun hm => h (List.mem_cons_of_mem _ hm))]
    rfl
theorem cut_first {x : UInt8} {b : List UInt8} : ∀ {a : List UInt8}, x ∉ a → cut x (a ++ x :: b) = a :: cut x b
  | [], _ => by simp [cut]
  | c :: r, h => by
    rw [List.cons_append, cut, if_neg (fun e => h (by rw [e]; exact List.mem_cons_self ..)), cut_first (fun hm => h (List.mem_cons_of_mem _ hm))]
    rfl
theorem split_first {x : UInt8} : ∀ {l : List UInt8}, x ∈ l → ∃ a b, l = a ++ x :: b ∧ x ∉ a
  | c :: r, h => by
    by_cases e : c = x
    · exact ⟨[], r, by simp [e], by simp⟩
    · have hr : x ∈ r := (List.mem_cons.1 h).resolve_left (Ne.symm e)
      obtain ⟨a, b, h1, h2⟩ := split_first hr
      exact ⟨c :: a, b, by simp [h1], by simp [Ne.symm e, h2]⟩
theorem word_shift (l : List UInt8) (i j : Nat) : word l (i + j) = word (l.drop i) j := by
  unfold word; rw [List.drop_drop]
theorem more_shift (l : List UInt8) (i : Nat) : ∀ n j, more n l (i + j) = ((more n (l.drop i) j).1, i + (more n (l.drop i) j).2)
  | 0, j => rfl
  | n + 1, j => by
    simp only [more, List.getElem?_drop]
    rw [show i + j + 1 = i + (j + 1) from by omega, word_shift]
    split
    · split
      · rw [show i + (j + 1) + (word (l.drop i) (j + 1)).length = i + (j + 1 + (word (l.drop i) (j + 1)).length) from by omega, more_shift l i n]
      · simp only [Prod.mk.injEq, true_and]; omega
    · rfl
theorem word_all {l : List UInt8} (h : l.all nameB = true) : word l 0 = l := by
  have := (takeWhile_len (p := nameB) l).2 h
  have h2 := List.takeWhile_prefix nameB (l := l)
  simp only [word, List.drop_zero]
  exact List.IsPrefix.eq_of_length h2 this
theorem word_cat_all {a b : List UInt8} {x : UInt8} (hx : nameB x = false) (h : a.all nameB = true) : word (a ++ x :: b) 0 = a := by
  simp only [word, List.drop_zero]
  induction a with
  | nil => simp [List.takeWhile, hx]
  | cons c a ih =>
    simp only [List.all_cons, Bool.and_eq_true] at h
    simp only [List.cons_append, List.takeWhile, h.1, ih h.2]
theorem word_cat_not {a : List UInt8} (b : List UInt8) (h : a.all nameB = false) : (word (a ++ b) 0).length < a.length ∧ word (a ++ b) 0 = word a 0 := by
  simp only [word, List.drop_zero]
  induction a with
  | nil => simp at h
  | cons c a ih =>
    cases hc : nameB c with
    | false => simp [List.takeWhile, hc]
    | true =>
      have h' : a.all nameB = false := by simpa [hc] using h
      have := ih h'
      simp only [List.cons_append, List.takeWhile, hc, List.length_cons]
      exact ⟨by omega, by rw [this.2]⟩
theorem get_cat {a : List UInt8} (b : List UInt8) {k : Nat} (h : k < a.length) : (a ++ b)[k]? = a[k]? := List.getElem?_append_left h
theorem get_none_of {x : UInt8} {a : List UInt8} (h : x ∉ a) (k : Nat) : a[k]? ≠ some x := fun e => h (List.mem_of_getElem? e)
theorem names_cut : ∀ (n : Nat) (b : List UInt8), (wordOk (word b 0) = true ∧ more n b (word b 0).length = (true, b.length)) ↔ ((cut 46 b).all nameOk = true ∧ (cut 46 b).length ≤ n + 1) := by
  intro n
  induction n with
  | zero =>
    intro b
    by_cases hd : (46 : UInt8) ∈ b
    · obtain ⟨a, r, rfl, ha⟩ := split_first hd
      rw [cut_first ha]
      have hlen : (word (a ++ 46 :: r) 0).length ≤ a.length := by
        cases hna : a.all nameB with
        | true => rw [word_cat_all (by decide) hna]; exact Nat.le_refl _
        | false => exact Nat.le_of_lt (word_cat_not _ hna).1
      constructor
      · rintro ⟨_, h2⟩
        simp only [more, Prod.mk.injEq, true_and] at h2
        rw [List.length_append, List.length_cons] at h2
        omega
      · rintro ⟨_, h2⟩
        have := cut_ne 46 r
        simp only [List.length_cons] at h2
        exact absurd (List.eq_nil_of_length_eq_zero (by omega)) this
    · rw [cut_none hd]
      simp only [more, List.all_cons, List.all_nil, Bool.and_true, List.length_cons, List.length_nil, Nat.zero_add, Nat.le_refl, and_true, Prod.mk.injEq, true_and, nameOk_word, Bool.and_eq_true, decide_eq_true_eq]
  | succ n ih =>
    intro b
    by_cases hd : (46 : UInt8) ∈ b
    · obtain ⟨a, r, rfl, ha⟩ := split_first hd
      rw [cut_first ha]
      cases hna : a.all nameB with
      | true =>
        rw [word_cat_all (by decide) hna]
        have hg : (a ++ 46 :: r)[a.length]? = some 46 := by simp
        have hdr : (a ++ 46 :: r).drop (a.length + 1) = r := by rw [List.drop_append]; simp
        have hw : word (a ++ 46 :: r) (a.length + 1) = word r 0 := by
          have := word_shift (a ++ 46 :: r) (a.length + 1) 0
          rw [Nat.add_zero, hdr] at this; exact this
        have hm : more n (a ++ 46 :: r) (a.length + 1 + (word r 0).length) = ((more n r (word r 0).length).1, a.length + 1 + (more n r (word r 0).length).2) := by
          rw [more_shift, hdr]
        simp only [more, hg, if_true, hw, hm, List.all_cons, Bool.and_eq_true, List.length_cons]
        have hna' : nameOk a = wordOk a := by rw [nameOk_word, word_all hna]; simp
        have hi := ih r
        constructor
        · rintro ⟨h1, h2⟩
          split at h2
          · rename_i h3
            simp only [Prod.mk.injEq, List.length_append, List.length_cons] at h2
            have := hi.1 ⟨h3, by ext1; exact h2.1; simp only []; omega⟩
            exact ⟨⟨by rw [hna']; exact h1, this.1⟩, by omega⟩
          · simp at h2
        · rintro ⟨⟨h1, h2⟩, h3⟩
          obtain ⟨h4, h5⟩ := hi.2 ⟨h2, by omega⟩
          refine ⟨by rw [← hna']; exact h1, ?_⟩
          rw [if_pos h4, h5]
          simp; omega
      | false =>
        obtain ⟨h1, h2⟩ := word_cat_not (46 :: r) hna
        have hne : nameOk a = false := by simp [nameOk, hna]
        constructor
        · rintro ⟨_, h3⟩
          rw [more_stop (by rw [get_cat _ h1]; exact get_none_of ha _)] at h3
          simp only [Prod.mk.injEq, true_and, List.length_append, List.length_cons] at h3
          omega
        · rintro ⟨h3, _⟩
          simp [hne] at h3
    · rw [cut_none hd]
      rw [more_stop (get_none_of hd _)]
      simp only [List.all_cons, List.all_nil, Bool.and_true, List.length_cons, List.length_nil, Prod.mk.injEq, true_and, nameOk_word, Bool.and_eq_true, decide_eq_true_eq]
      constructor
      · rintro ⟨h1, h2⟩; exact ⟨⟨h1, h2⟩, by omega⟩
      · rintro ⟨⟨h1, h2⟩, _⟩; exact ⟨h1, h2⟩
theorem domOk_iff (b : List UInt8) : ((dom b 0).1 = true ∧ (dom b 0).2 ≤ 20 ∧ (dom b 0).2 = b.length) ↔ specDom b = true := by
  have h := names_cut 2 b
  simp only [specDom, Bool.and_eq_true, decide_eq_true_eq]
  constructor
  · rintro ⟨h1, h2, h3⟩
    cases hw : wordOk (word b 0) with
    | false => simp [dom, hw] at h1
    | true =>
      simp only [dom, hw, if_true, Nat.zero_add] at h1 h2 h3
      have := h.1 ⟨hw, by ext1; exact h1; exact h3⟩
      exact ⟨⟨this.1, this.2⟩, by omega⟩
  · rintro ⟨⟨h1, h2⟩, h3⟩
    obtain ⟨h4, h5⟩ := h.2 ⟨h1, h2⟩
    simp only [dom, h4, if_true, Nat.zero_add, h5]
    exact ⟨trivial, h3, trivial⟩
end Go.BL
namespace Go.BL
set_option linter.unusedVariables false
set_option linter.unusedSimpArgs false
set_option linter.unusedSectionVars false
open Go
set_option linter.unusedVariables false
set_option linter.unusedSimpArgs false
theorem all_next {α : Type} {p : α → Prop} {l : List α} {k : Nat} {x : α} (hx : l[k]? = some x) (h : ∀ y, y ∈ l.take k → p y) (hp : p x) : ∀ y, y ∈ l.take (k + 1) → p y := by
  intro y hy
  rw [List.take_add_one, hx] at hy
  simp only [Option.toList_some, List.mem_append, List.mem_singleton] at hy
  rcases hy with hy | rfl
  · exact h y hy
  · exact hp
def idxU (us : List DUser) (u : Str) : Int := match us.findIdx? (fun x => decide (x.name = u)) with | some i => i | none => -1
theorem idxU_hit {us : List DUser} {u : Str} {k : Nat} {x : DUser} (hx : us[k]? = some x) (he : x.name = u) (h : ∀ y, y ∈ us.take k → y.name ≠ u) : idxU us u = k := by
  have : us.findIdx? (fun x => decide (x.name = u)) = some k := by
    rw [List.findIdx?_eq_some_iff_getElem]
    obtain ⟨hk, rfl⟩ := List.getElem?_eq_some_iff.1 hx
    refine ⟨hk, by simpa using he, fun j hj => ?_⟩
    have := h us[j] (by rw [List.mem_take_iff_getElem]; exact ⟨j, by omega, rfl⟩)
    simpa using this
  rw [idxU, this]
theorem idxU_none {us : List DUser} {u : Str} (h : ∀ y, y ∈ us → y.name ≠ u) : idxU us u = -1 := by
  have : us.findIdx? (fun x => decide (x.name = u)) = none := by
    rw [List.findIdx?_eq_none_iff]
    intro x hx
    simpa using h x hx
  rw [idxU, this]
theorem take_eq_next {α : Type} {as bs : List α} {k : Nat} {x y : α} (hx : as[k]? = some x) (hy : bs[k]? = some y) (e : x = y) (h : as.take k = bs.take k) : as.take (k + 1) = bs.take (k + 1) := by
  rw [List.take_add_one, List.take_add_one, hx, hy, e, h]
theorem eqF_len {α : Type} {as bs : List α} {inst : Decidable (as = bs)} (h : ¬ (as.length : Int) = bs.length) : false = decide (as = bs) := by
  symm; rw [decide_eq_false_iff_not]; intro e; exact h (by rw [e])
theorem eqF_elem {α : Type} {as bs : List α} {inst : Decidable (as = bs)} {k : Nat} {x y : α} (hx : as[k]? = some x) (hy : bs[k]? = some y) (e : ¬ x = y) : false = decide (as = bs) := by
  symm; rw [decide_eq_false_iff_not]; intro h; rw [h, hy] at hx; exact e (Option.some.inj hx).symm
theorem eqT {α : Type} {as bs : List α} {inst : Decidable (as = bs)} {k : Nat} (hl : as.length = bs.length) (hk : k = as.length) (h : as.take k = bs.take k) : true = decide (as = bs) := by
  symm; rw [decide_eq_true_eq]
  rw [List.take_of_length_le (by omega), List.take_of_length_le (by omega)] at h; exact h
theorem memF {α : Type} {as : List α} {x : α} {inst : Decidable (x ∈ as)} (h : ∀ y, y ∈ as → y ≠ x) : false = decide (x ∈ as) := by
  symm; rw [decide_eq_false_iff_not]; intro hx; exact h x hx rfl
theorem memT {α : Type} {as : List α} {x y : α} {inst : Decidable (x ∈ as)} {k : Nat} (hy : as[k]? = some y) (e : y = x) : true = decide (x ∈ as) := by
  symm; rw [decide_eq_true_eq]; subst e; exact List.mem_of_getElem? hy
theorem take_end {α : Type} {p : α → Prop} {l : List α} {k : Nat} (hk : ¬ (k : Int) < l.length) (h : ∀ y, y ∈ l.take k → p y) : ∀ y, y ∈ l → p y := by
  rwa [List.take_of_length_le (by omega)] at h
theorem dropCons {α : Type} {l : List α} {k : Nat} {x : α} (h : l[k]? = some x) : l.drop k = x :: l.drop (k + 1) := by
  obtain ⟨hlt, he⟩ := List.getElem?_eq_some_iff.1 h
  rw [List.drop_eq_getElem_cons hlt, he]
theorem dropEnd {α : Type} {l : List α} {k : Nat} (h : ¬ (k : Int) < l.length) : l.drop k = [] := List.drop_eq_nil_of_le (by omega)
def namesOk (l : List Str) : Bool := l.all nameOk && decide l.Nodup && decide (l.length ≤ 3)
def letterOk (x : DLetter) : Bool := nameOk x.fr && namesOk x.to_ && decide (0 < x.to_.length) && decide (x.text.length ≤ 20)
def itemOk (x : DItem) : Bool := letterOk ⟨x.fr, x.left, x.text⟩
def scanQ : Int → List DItem → Option Int
  | last, [] => some last
  | last, x :: r => if (last + 1 ≤ x.id ∧ x.id ≤ 99) ∧ itemOk x = true then scanQ x.id r else none
def queueOk (q : DQueue) : Bool := match scanQ 0 q.items with
  | some last => decide (last + 1 ≤ q.next) && decide (q.next ≤ 100) && decide (q.items.length ≤ 6)
  | none => false
theorem nd_next {α : Type} {l : List α} {k : Nat} {x : α} (hx : l[k]? = some x) (h : (l.take k).Nodup) (hn : ¬ x ∈ l.take k) : (l.take (k + 1)).Nodup := by
  rw [List.take_add_one, hx]
  simp only [Option.toList_some]
  rw [List.nodup_append]
  exact ⟨h, by simp, fun a ha b hb => by rw [List.mem_singleton.1 hb]; exact fun e => hn (e ▸ ha)⟩
theorem nd_stop {α : Type} {l : List α} {k : Nat} {x : α} (hx : l[k]? = some x) (h : x ∈ l.take k) : ¬ l.Nodup := by
  intro hn
  have e : l = l.take k ++ l.drop k := (List.take_append_drop k l).symm
  rw [e, dropCons hx, List.nodup_append] at hn
  exact hn.2.2 x h x (List.mem_cons_self ..) rfl
theorem namesOk_bad1 {l : List Str} {k : Nat} {x : Str} (hx : l[k]? = some x) (h : nameOk x = false) : false = namesOk l := by
  simp [namesOk, all_stop2 hx h]
theorem namesOk_bad2 {l : List Str} {k : Nat} {x : Str} (hx : l[k]? = some x) (h : x ∈ l.take k) : false = namesOk l := by
  simp [namesOk, nd_stop hx h]
theorem namesOk_end {l : List Str} {k : Nat} (hk : ¬ (k : Int) < l.length) (ha : (l.take k).all nameOk = true) (hn : (l.take k).Nodup) : decide ((l.length : Int) ≤ 3) = namesOk l := by
  rw [List.take_of_length_le (by omega)] at ha hn
  rw [Bool.eq_iff_iff]; simp only [namesOk, ha, decide_eq_true hn, Bool.true_and, decide_eq_true_eq]; omega
def idxP {α : Type} (p : α → Bool) (xs : List α) : Int := match xs.findIdx? p with | some i => i | none => -1
theorem idxP_hit {α : Type} {p : α → Bool} {xs : List α} {k : Nat} {x : α} (hx : xs[k]? = some x) (he : p x = true) (h : ∀ y, y ∈ xs.take k → p y = false) : idxP p xs = k := by
  have : xs.findIdx? p = some k := by
    rw [List.findIdx?_eq_some_iff_getElem]
    obtain ⟨hk, rfl⟩ := List.getElem?_eq_some_iff.1 hx
    refine ⟨hk, he, fun j hj => ?_⟩
    have := h xs[j] (by rw [List.mem_take_iff_getElem]; exact ⟨j, by omega, rfl⟩)
    simpa using this
  rw [idxP, this]
theorem idxP_none {α : Type} {p : α → Bool} {xs : List α} (h : ∀ y, y ∈ xs → p y = false) : idxP p xs = -1 := by
  have : xs.findIdx? p = none := by
    rw [List.findIdx?_eq_none_iff]
    intro x hx
    simpa using h x hx
  rw [idxP, this]
theorem idxP_mem {α : Type} {p : α → Bool} {xs : List α} : (0 ≤ idxP p xs) ↔ ∃ x, x ∈ xs ∧ p x = true := by
  cases h : xs.findIdx? p with
  | none =>
    rw [List.findIdx?_eq_none_iff] at h
    simp only [idxP, List.findIdx?_eq_none_iff.2 h]
    refine ⟨fun e => absurd e (by omega), fun ⟨x, hx, hp⟩ => ?_⟩
    rw [h x hx] at hp; cases hp
  | some i =>
    simp only [idxP, h]
    rw [List.findIdx?_eq_some_iff_getElem] at h
    obtain ⟨hi, hp, _⟩ := h
    exact ⟨fun _ => ⟨_, List.getElem_mem hi, hp⟩, fun _ => by omega⟩
theorem queueBad {q : DQueue} (h : scanQ 0 q.items = none) : false = queueOk q := by simp [queueOk, h]
theorem queueEnd {q : DQueue} {last : Int} (h : scanQ 0 q.items = some last) : (decide (last + 1 ≤ q.next) && decide (q.next ≤ 100) && decide (q.items.length ≤ 6)) = queueOk q := by simp [queueOk, h]
theorem scan_step {q : DQueue} {k : Nat} {last : Int} {x : DItem} (hs : scanQ 0 q.items = scanQ last (q.items.drop k)) (hx : q.items[k]? = some x) : scanQ 0 q.items = if (last + 1 ≤ x.id ∧ x.id ≤ 99) ∧ itemOk x = true then scanQ x.id (q.items.drop (k + 1)) else none := by
  rw [hs, dropCons hx, scanQ]
theorem sameQ_no {a b : DQueue} {k : Nat} {x y : DItem} (hx : a.items[k]? = some x) (hy : b.items[k]? = some y) (e : ¬ x = y) : false = decide (a = b) := by
  symm; rw [decide_eq_false_iff_not]; rintro rfl; rw [hx] at hy; exact e (Option.some.inj hy)
theorem BytesAt.mono {B B' : Kn} {q : Option Addr} {m : Nat} (h : BytesAt B q m) (hle : B.le B') : BytesAt B' q m := fun j hj => by
  obtain ⟨a, c, h1, h2, h3⟩ := h j hj
  exact ⟨a, c, h1, h2, h3.mono hle⟩
structure Gh (α : Type) where
  k : Nat
  p : Nat
  l : Cells
  a : Option Addr
  c : Nat
  xs : List α
structure Gh2 (α β : Type) where
  k : Nat
  p : Nat
  l : Cells
  a : Option Addr
  c : Nat
  xs : List α
  e : β
structure GQ where
  k : Nat
  p : Nat
  l : Cells
  a : Option Addr
  c : Nat
  q : DQueue
structure GM where
  b : Nat
  p : Nat
  l : Cells
  a : Option Addr
  c : Nat
  q : DQueue
  f : Bool
structure QOf where
  p : Option Addr
  ys : List DItem
  xs : List DItem
  l : Cells
  q : Option Addr
  c : Nat
  cells : Cells
theorem VecR.slice0 {α : Type} {B : Kn} {l : Cells} {p : Option Addr} {c : Nat} {T : TypeId} {w sz : Nat} {R : Rel α} {xs : List α} (h : VecR B l p c T w R xs) : (if c = 0 then p else p.map (fun a => a.add (0 * sz))) = p := by
  obtain ⟨rows, _, _, _, ⟨rfl, _, rfl, _⟩ | ⟨b, arr, rfl, _, _, _, _⟩⟩ := h
  · rfl
  · split
    · rfl
    · rw [Nat.zero_mul]; simp [Addr.add_off]
end Go.BL
namespace Go.BL
set_option linter.unusedVariables false
set_option linter.unusedSimpArgs false
set_option linter.unusedSectionVars false
open Go
set_option linter.unusedVariables false
set_option linter.unusedSimpArgs false
def hat (xs : List Int) (k : Nat) : Int := xs.getD k 0
structure QLf where
  p : Option Addr
  ys : List DItem
  xs : List DItem
  cells : Cells
structure QN where
  k : Nat
  a : Option Addr
  c : Nat
end Go.BL
namespace Go.BL
set_option linter.unusedVariables false
set_option linter.unusedSimpArgs false
set_option linter.unusedSectionVars false
open Go
set_option linter.unusedVariables false
set_option linter.unusedSimpArgs false
def mailOk (m : DMail) : Bool := (decide (1 ≤ m.uid) && decide (m.uid ≤ 99)) && (decide (0 ≤ m.flags) && decide (m.flags ≤ 31)) && decide (m.text.length ≤ 20)
def scn {α β : Type} (p : β → α → Bool) (nx : β → α → β) (b0 : β) (xs : List α) : Bool × β := xs.foldl (fun s x => (s.1 && p s.2 x, nx s.2 x)) (true, b0)
theorem scn_nil {α β : Type} {p : β → α → Bool} {nx : β → α → β} {b0 : β} {xs : List α} : scn p nx b0 (xs.take 0) = (true, b0) := by simp [scn]
theorem scn_next {α β : Type} {p : β → α → Bool} {nx : β → α → β} {b0 : β} {xs : List α} {k : Nat} {x : α} (hx : xs[k]? = some x) : scn p nx b0 (xs.take (k + 1)) = ((scn p nx b0 (xs.take k)).1 && p (scn p nx b0 (xs.take k)).2 x, nx (scn p nx b0 (xs.take k)).2 x) := by
  have : xs.take (k + 1) = xs.take k ++ [x] := by rw [List.take_add_one, hx]; rfl
  rw [this, scn, List.foldl_append]; rfl
theorem scn_false {α β : Type} {p : β → α → Bool} {nx : β → α → β} : ∀ (xs : List α) (b : β), (xs.foldl (fun (s : Bool × β) x => (s.1 && p s.2 x, nx s.2 x)) (false, b)).1 = false
  | [], _ => rfl
  | x :: xs, b => by simp only [List.foldl_cons, Bool.false_and]; exact scn_false xs _
theorem scn_bad {α β : Type} {p : β → α → Bool} {nx : β → α → β} {b0 : β} {xs : List α} {k : Nat} (h : (scn p nx b0 (xs.take k)).1 = false) : (scn p nx b0 xs).1 = false := by
  have e : xs = xs.take k ++ xs.drop k := (List.take_append_drop k xs).symm
  have : scn p nx b0 xs = (xs.drop k).foldl (fun s x => (s.1 && p s.2 x, nx s.2 x)) (scn p nx b0 (xs.take k)) := by
    conv => lhs; rw [e, scn, List.foldl_append]
    rfl
  rw [this]
  rcases hs : scn p nx b0 (xs.take k) with ⟨b, c⟩
  rw [hs] at h
  simp only at h
  subst h
  exact scn_false _ _
theorem scn_hit {α β : Type} {p : β → α → Bool} {nx : β → α → β} {b0 : β} {xs : List α} {k : Nat} {x : α} (hx : xs[k]? = some x) (h : p (scn p nx b0 (xs.take k)).2 x = false) : (scn p nx b0 xs).1 = false :=
  scn_bad (k := k + 1) (by rw [scn_next hx, h, Bool.and_false])
theorem scn_step {α β : Type} {p : β → α → Bool} {nx : β → α → β} {b0 b : β} {xs : List α} {k : Nat} {x : α} (hx : xs[k]? = some x) (hs : scn p nx b0 (xs.take k) = (true, b)) (h : p b x = true) : scn p nx b0 (xs.take (k + 1)) = (true, nx b x) := by
  rw [scn_next hx, hs]; simp [h]
theorem scn_end {α β : Type} {p : β → α → Bool} {nx : β → α → β} {b0 b : β} {xs : List α} {k : Nat} (hs : scn p nx b0 (xs.take k) = (true, b)) (hk : xs.length ≤ k) : scn p nx b0 xs = (true, b) := by
  rwa [List.take_of_length_le hk] at hs
def mailP (b : Int) (m : DMail) : Bool := mailOk m && decide (b < m.uid)
def mailScan (ms : List DMail) : Bool × Int := scn mailP (fun _ m => m.uid) 0 ms
def boxOk (b : DBox) : Bool := (mailScan b.mail).1 && (decide ((mailScan b.mail).2 + 1 ≤ b.next) && decide (b.next ≤ 100)) && decide (b.mail.length ≤ 10)
def sizeMs (ms : List DMail) : Nat := (ms.map (·.text.length)).sum
theorem sizeMs_next {ms : List DMail} {k : Nat} {x : DMail} (hx : ms[k]? = some x) : sizeMs (ms.take (k + 1)) = sizeMs (ms.take k) + x.text.length := by
  have : ms.take (k + 1) = ms.take k ++ [x] := by rw [List.take_add_one, hx]; rfl
  simp [sizeMs, this]
theorem boxOk_bad {b : DBox} (h : (mailScan b.mail).1 = false) : boxOk b = false := by simp [boxOk, h]
theorem boxOk_end {b : DBox} {l : Int} (h : mailScan b.mail = (true, l)) : boxOk b = ((decide (l + 1 ≤ b.next) && decide (b.next ≤ 100)) && decide (b.mail.length ≤ 10)) := by simp [boxOk, h]
theorem mailOk_uid {m : DMail} (h : mailOk m = true) : 0 ≤ m.uid ∧ m.uid ≤ 99 := by
  simp only [mailOk, Bool.and_eq_true, decide_eq_true_eq] at h; omega
theorem sizeMs_end {ms : List DMail} {k n : Nat} (h : n = sizeMs (ms.take k)) (hk : ms.length ≤ k) : n = sizeMs ms := by rwa [List.take_of_length_le hk] at h
def anyone : Str := [97, 110, 121, 111, 110, 101]
def userOk (u : DUser) : Bool := nameOk u.name && decide (u.name ≠ anyone) && nameOk u.pass && (decide (0 ≤ u.quota) && decide (u.quota ≤ 200))
theorem less_total : ∀ (a b : Str), Op.bytesLess a b = !(Op.bytesLess b a || decide (b = a))
  | [], [] => by simp [Op.bytesLess]
  | [], _ :: _ => by simp [Op.bytesLess]
  | _ :: _, [] => by simp [Op.bytesLess]
  | a :: x, b :: y => by
    have ih := less_total x y
    simp only [Op.bytesLess, ih]
    rcases UInt8.lt_or_lt_of_ne (a := a) (b := b) with h
    by_cases e : a = b
    · subst e
      have : ¬ a < a := UInt8.lt_irrefl a
      simp [this, ih]
    · rcases h e with h | h
      · have h2 : ¬ b < a := UInt8.lt_asymm h
        simp [h, h2, e, Ne.symm e]
      · have h2 : ¬ a < b := UInt8.lt_asymm h
        simp [h, h2, e]
def userP (b : Str) (u : DUser) : Bool := userOk u && Op.bytesLess b u.name
def userScan (us : List DUser) : Bool × Str := scn userP (fun _ u => u.name) [] us
def usersOk (us : List DUser) : Bool := (userScan us).1 && (decide (1 ≤ us.length) && decide (us.length ≤ 4))
theorem usersOk_bad {us : List DUser} (h : (userScan us).1 = false) : usersOk us = false := by simp [usersOk, h]
theorem usersOk_end {us : List DUser} {b : Str} (h : userScan us = (true, b)) : usersOk us = (decide (1 ≤ us.length) && decide (us.length ≤ 4)) := by simp [usersOk, h]
def inF (o n : Str) (f : DFolder) : Bool := decide (f.owner = o) && decide (f.name = n)
theorem allB_bad {α : Type} {p : α → Bool} {xs : List α} {k : Nat} {x : α} (hx : xs[k]? = some x) (h : p x = false) : xs.all p = false := by
  rw [List.all_eq_false]; exact ⟨x, List.mem_of_getElem? hx, by simp [h]⟩
theorem allB_end {α : Type} {p : α → Bool} {xs : List α} (h : ∀ y, y ∈ xs → p y = true) : xs.all p = true := List.all_eq_true.2 h
def lessF (a b : DFolder) : Bool := Op.bytesLess a.owner b.owner || (decide (a.owner = b.owner) && Op.bytesLess a.name b.name)
theorem less_irr (a : Str) : Op.bytesLess a a = false := by
  have := less_total a a
  cases h : Op.bytesLess a a with
  | false => rfl
  | true => rw [h] at this; simp at this
end Go.BL
