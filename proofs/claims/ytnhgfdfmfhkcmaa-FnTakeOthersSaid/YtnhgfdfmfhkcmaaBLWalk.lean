/-
  BL: pieces of code, operations, calls: the rules of the walk.
-/
import Derived.Test.YtnhgfdfmfhkcmaaBLCore
import Derived.Orders
namespace Go.BL
open Go.Conc (G)
set_option linter.unusedVariables false

abbrev Env := List (Nat × Value)
def get : Env → Nat → Option Value
  | [], _ => none
  | (k, v) :: r, i => bif Nat.beq k i then some v else get r i
def Ag (T : Array Value) (S : Env) : Prop := ∀ i v, get S i = some v → T[i]? = some v
def Sub : Env → Env → Prop
  | [], _ => True
  | p :: r, S => get S p.1 = some p.2 ∧ Sub r S
theorem Sub.get_of : ∀ {S' S : Env}, Sub S' S → ∀ {i v}, get S' i = some v → get S i = some v
  | [], _, _, _, _, h => by cases h
  | (k, x) :: r, S, ⟨h1, h2⟩, i, v, h => by
    simp only [get] at h
    cases hb : Nat.beq k i with
    | true =>
      rw [hb] at h
      simp only [cond_true, Option.some.injEq] at h
      subst h
      have := Nat.eq_of_beq_eq_true hb
      subst this
      exact h1
    | false => rw [hb] at h; exact Sub.get_of h2 h
theorem Ag.sub {T : Array Value} {S S' : Env} (h : Ag T S) (hs : Sub S' S) : Ag T S' := fun i v hv => h i v (hs.get_of hv)
theorem Ag.put {T : Array Value} {S : Env} (h : Ag T S) {d : Nat} (hd : d < T.size) (v : Value) : Ag (T.setIfInBounds d v) ((d, v) :: S) := by
  intro i x hx
  simp only [get] at hx
  cases hb : Nat.beq d i with
  | true =>
    rw [hb] at hx
    simp only [cond_true, Option.some.injEq] at hx
    subst hx
    have := Nat.eq_of_beq_eq_true hb
    subst this
    simp [hd]
  | false =>
    rw [hb] at hx
    rw [Array.getElem?_setIfInBounds, if_neg (fun e => by subst e; simp [Nat.beq_eq] at hb)]
    exact h i x hx

def ev (S : Env) : Operand → Option Value
  | .tmp t => get S t
  | .const v => some v
  | .global g => some (.pointer (some ⟨g, 0, none⟩))
  | .func f => some (.func (.func f) #[] #[])
/-- What an operand gives in a frame's temporaries. -/
def evT (T : Array Value) : Operand → Value
  | .tmp t => T.getD t undef
  | .const v => v
  | .global g => .pointer (some ⟨g, 0, none⟩)
  | .func f => .func (.func f) #[] #[]
theorem ev_evT {T : Array Value} {S : Env} (h : Ag T S) {x : Operand} {v : Value} (hx : ev S x = some v) : evT T x = v := by
  cases x with
  | tmp t => have := h t v hx; simp only [evT, Array.getD_eq_getD_getElem?, this]; rfl
  | const u => simpa [ev, evT] using hx
  | global g => simpa [ev, evT] using hx
  | func f => simpa [ev, evT] using hx
def evs (S : Env) : List Operand → Option (List Value)
  | [] => some []
  | x :: r => match ev S x, evs S r with
    | some v, some vs => some (v :: vs)
    | _, _ => none
theorem evs_evT {T : Array Value} {S : Env} (h : Ag T S) : ∀ {xs : List Operand} {vs : List Value}, evs S xs = some vs → xs.map (evT T) = vs
  | [], vs, hx => by simpa [evs] using hx
  | x :: r, vs, hx => by
    simp only [evs] at hx
    cases h1 : ev S x with
    | none => rw [h1] at hx; cases hx
    | some v =>
      cases h2 : evs S r with
      | none => rw [h1, h2] at hx; cases hx
      | some us =>
        rw [h1, h2] at hx
        simp only [Option.some.injEq] at hx
        subst hx
        simp [ev_evT h h1, evs_evT h h2]

/-- The base frame 'b' with these temporaries, these deferred calls, this left to do. -/
def fat (b : Frame) (T : Array Value) (D : List Deferred) (todo : List Item) : Frame := { b with tmps := T, todo, defers := D, mode := .run }
theorem fat_eval (b : Frame) (T : Array Value) (D : List Deferred) (todo : List Item) : (fat b T D todo).eval = evT T := by
  funext x; cases x <;> rfl

section moves
variable {P : Program} {main : Bool} {b : Frame} {T : Array Value} {D : List Deferred} {k : List Item} {cs : List Frame} {w : World}
theorem st_skip : stepG P main (G (fat b T D (.code .skip :: k)) cs) w = .go (G (fat b T D k) cs) w #[] := by simp [G, stepG, stepG.exec, fat]
theorem st_seq {x y : Code} : stepG P main (G (fat b T D (.code (.seq x y) :: k)) cs) w = .go (G (fat b T D (.code x :: .code y :: k)) cs) w #[] := by simp [G, stepG, stepG.exec, fat]
theorem st_cond {c : Operand} {x y : Code} {t : Bool} (h : evT T c = .bool t) :
    stepG P main (G (fat b T D (.code (.cond c x y) :: k)) cs) w = .go (G (fat b T D (.code (if t then x else y) :: k)) cs) w #[] := by
  have h' : (fat b T D (.code (.cond c x y) :: k)).eval c = .bool t := by rw [fat_eval]; exact h
  simp only [fat] at h'
  simp [G, stepG, stepG.exec, fat, h']
theorem st_block {id : Nat} {c : Code} : stepG P main (G (fat b T D (.code (.block id c) :: k)) cs) w = .go (G (fat b T D (.code c :: .inBlock id :: k)) cs) w #[] := by simp [G, stepG, stepG.exec, fat]
theorem st_inBlock {id : Nat} : stepG P main (G (fat b T D (.inBlock id :: k)) cs) w = .go (G (fat b T D k) cs) w #[] := by simp [G, stepG, stepG.exec, fat]
theorem st_loop {c : Code} : stepG P main (G (fat b T D (.code (.loop c) :: k)) cs) w = .go (G (fat b T D (.code c :: .inLoop c :: k)) cs) w #[] := by simp [G, stepG, stepG.exec, fat]
theorem st_inLoop {c : Code} : stepG P main (G (fat b T D (.inLoop c :: k)) cs) w = .go (G (fat b T D (.code c :: .inLoop c :: k)) cs) w #[] := by simp [G, stepG, stepG.exec, fat]
theorem st_exit {id : Nat} {k' : List Item} (h : exitTo id k = some k') : stepG P main (G (fat b T D (.code (.exit id) :: k)) cs) w = .go (G (fat b T D k') cs) w #[] := by simp [G, stepG, stepG.exec, fat, h]
theorem st_region {id : Nat} {ops : Array Oper} : stepG P main (G (fat b T D (.code (.region id ops false) :: k)) cs) w = .go (G (fat b T D (.inRegion ops (List.range ops.size) :: k)) cs) w #[] := by simp [G, stepG, stepG.exec, fat]
theorem st_region_draw {id : Nat} {ops : Array Oper} : stepG P main (G (fat b T D (.code (.region id ops true) :: k)) cs) w =
    .go (G (fat b T D (.inRegion ops (Region.schedule (P.follows .mixedOrders) ops (w.tape w.drawn (.order b.fn id))) :: k)) cs) { w with drawn := w.drawn + 1 } #[] := by
  simp [G, stepG, stepG.exec, fat, choose, Sem.run, Question.forced, Question.cut]
theorem st_region_end {ops : Array Oper} : stepG P main (G (fat b T D (.inRegion ops [] :: k)) cs) w = .go (G (fat b T D k) cs) w #[] := by simp [G, stepG, stepG.exec, fat]
theorem st_ret (hr : b.roundOf = none) : stepG P main (G (fat b T D (.code .ret :: k)) cs) w = .go (G { fat b T D (.code .ret :: k) with mode := .returning } cs) w #[] := by
  simp [G, stepG, stepG.exec, fat, hr]
theorem st_end (hr : b.roundOf = none) : stepG P main (G (fat b T D []) cs) w = .go (G { fat b T D [] with mode := .returning } cs) w #[] := by
  simp [G, stepG, stepG.exec, fat, hr]
theorem st_skipped {ops : Array Oper} {i : Nat} {rest : List Nat} {o : Oper} (ho : ops[i]? = some o) (hw : Region.wanted o (yielded ops T) = false) :
    stepG P main (G (fat b T D (.inRegion ops (i :: rest) :: k)) cs) w = .go (G (fat b (match o.dst with | some d => T.setIfInBounds d undef | none => T) D (.inRegion ops rest :: k)) cs) w #[] := by
  cases hd : o.dst <;> simp [G, stepG, stepG.exec, fat, ho, hw, Frame.finish, hd]
def isDefer : Op → Bool
  | .defer _ => true
  | _ => false
theorem st_oper {ops : Array Oper} {i : Nat} {rest : List Nat} {o : Oper} (hnd : isDefer o.op = false) (ho : ops[i]? = some o) (hw : Region.wanted o (yielded ops T) = true) :
    stepG P main (G (fat b T D (.inRegion ops (i :: rest) :: k)) cs) w = stepG.apply P true (fat b T D (.inRegion ops (i :: rest) :: k)) cs none (execOp (evT T) o) w := by
  have he := fat_eval b T D (.inRegion ops (i :: rest) :: k)
  simp only [fat] at he
  have key : ∀ (x : Option Nat), (match x, o.op with
      | some l, .defer c => stepG.apply P true (fat b T D (.inRegion ops (i :: rest) :: k)) cs none (do Instr.deferInRound l (← resolve (fat b T D (.inRegion ops (i :: rest) :: k)).eval c o.type); pure .skip) w
      | _, _ => stepG.apply P true (fat b T D (.inRegion ops (i :: rest) :: k)) cs none (execOp (evT T) o) w) = stepG.apply P true (fat b T D (.inRegion ops (i :: rest) :: k)) cs none (execOp (evT T) o) w := by
    intro x
    split
    · rename_i h; rw [h] at hnd; cases hnd
    · rfl
  have := key b.roundOf
  simp only [fat] at this
  simp only [G, stepG, stepG.exec, fat, ho, Option.map_some, hw, Option.getD_some, if_true, stepG.oper, Frame.oper?, he]
  exact this
end moves

def putT (T : Array Value) (dst : Option Tmp) (v : Value) : Array Value := match dst with | some d => T.setIfInBounds d v | none => T
theorem putT_size (T : Array Value) (dst : Option Tmp) (v : Value) : (putT T dst v).size = T.size := by cases dst <;> simp [putT]
theorem fat_finish {b : Frame} {T : Array Value} {D : List Deferred} {ops : Array Oper} {i : Nat} {rest : List Nat} {k : List Item} {o : Oper} (ho : ops[i]? = some o) (v : Value) :
    (fat b T D (.inRegion ops (i :: rest) :: k)).finish v = fat b (putT T o.dst v) D (.inRegion ops rest :: k) := by
  cases h : o.dst <;> simp [fat, Frame.finish, ho, h, putT]

/-- What stays as it is through a walk: the logic, the base frame, the callers, what is owned and not looked at. -/
structure Cx (P : Program) where
  X : Lg P
  b : Frame
  cs : List Frame
  F : Cells
  early : b.kind ≠ .early

abbrev Post4 := Env → List Deferred → Kn → List Cells → Prop

def After {P : Program} (C : Cx P) (k : List Item) (T : Array Value) (D : List Deferred) (B : Kn) (L : List Cells) : Exit → Prop
  | .normal => C.X.R (G (fat C.b T D k) C.cs) B (L.flatten ++ C.F)
  | .exit id => ∃ k', exitTo id k = some k' ∧ C.X.R (G (fat C.b T D k') C.cs) B (L.flatten ++ C.F)
  | .ret => C.b.roundOf = none ∧ ∀ todo, C.X.R (G { fat C.b T D todo with mode := .returning } C.cs) B (L.flatten ++ C.F)
  | _ => False

/-- THE JUDGEMENT of a piece of code. -/
def wpS (P : Program) (n : Nat) (c : Code) (Q : Exit → Post4) : Post4 := fun S D B L =>
  ∀ (C : Cx P) (k : List Item) (T : Array Value), T.size = n → Ag T S →
    (∀ e S' D' B' L' T', B.le B' → Q e S' D' B' L' → T'.size = n → Ag T' S' → After C k T' D' B' L' e) → C.X.R (G (fat C.b T D (.code c :: k)) C.cs) B (L.flatten ++ C.F)

def thn (K : Post4) (Q : Exit → Post4) : Exit → Post4
  | .normal => K
  | e => Q e
def inB (id : Nat) (Q : Exit → Post4) : Exit → Post4
  | .exit id' => bif Nat.beq id' id then Q .normal else Q (.exit id')
  | e => Q e

section rules
variable {P : Program} {n : Nat} {Q : Exit → Post4} {S : Env} {D : List Deferred} {B : Kn} {L : List Cells}

theorem w_conseq {c : Code} {Q' : Exit → Post4} (h : wpS P n c Q' S D B L) (hq : ∀ e S D B' L, B.le B' → Q' e S D B' L → Q e S D B' L) : wpS P n c Q S D B L :=
  fun C k T hn hT hA => h C k T hn hT fun e S' D' B' L' T' hle hq' => hA e S' D' B' L' T' hle (hq e S' D' B' L' hle hq')

theorem w_keep {c : Code} (S' : Env) (hs : Sub S' S) (h : wpS P n c Q S' D B L) : wpS P n c Q S D B L :=
  fun C k T hn hT hA => h C k T hn (hT.sub hs) hA

theorem w_skip (h : Q .normal S D B L) : wpS P n .skip Q S D B L := fun C k T hn hT hA =>
  C.X.ctl rfl (fun w => st_skip) (hA .normal S D B L T (Kn.le.refl B) h hn hT)

theorem w_ret (h : Q .ret S D B L) : wpS P n .ret Q S D B L := fun C k T hn hT hA => by
  obtain ⟨hr, hR⟩ := hA .ret S D B L T (Kn.le.refl B) h hn hT
  exact C.X.ctl rfl (fun w => st_ret hr) (hR _)

theorem w_exit {id : Nat} (h : Q (.exit id) S D B L) : wpS P n (.exit id) Q S D B L := fun C k T hn hT hA => by
  obtain ⟨k', hk, hR⟩ := hA (.exit id) S D B L T (Kn.le.refl B) h hn hT
  exact C.X.ctl rfl (fun w => st_exit hk) hR

theorem After.push {C : Cx P} {x : Item} {k : List Item} {T : Array Value} {e : Exit} (hx : x.plain = true) (he : e ≠ .normal) (h : After C k T D B L e) : After C (x :: k) T D B L e := by
  cases e with
  | normal => exact absurd rfl he
  | exit id => obtain ⟨k', hk, hg⟩ := h; exact ⟨k', by cases x <;> simp_all [exitTo, Item.plain], hg⟩
  | ret => exact h
  | goto l => exact h
  | panic ch => exact h
  | outgrown => exact h

theorem w_seq {x y : Code} (h : wpS P n x (thn (wpS P n y Q) Q) S D B L) : wpS P n (.seq x y) Q S D B L := fun C k T hn hT hA => by
  refine C.X.ctl rfl (fun w => st_seq) (h C (.code y :: k) T hn hT fun e S' D' B' L' T' hle hq hn' hT' => ?_)
  cases e with
  | normal => exact hq C k T' hn' hT' fun e₂ S₂ D₂ B₂ L₂ T₂ hle₂ hq₂ => hA e₂ S₂ D₂ B₂ L₂ T₂ (hle.trans hle₂) hq₂
  | exit id => exact After.push rfl (by simp) (hA (.exit id) S' D' B' L' T' hle hq hn' hT')
  | ret => exact After.push (x := .code y) rfl (by simp) (hA .ret S' D' B' L' T' hle hq hn' hT')
  | goto l => exact (hA (.goto l) S' D' B' L' T' hle hq hn' hT')
  | panic ch => exact (hA (.panic ch) S' D' B' L' T' hle hq hn' hT')
  | outgrown => exact (hA .outgrown S' D' B' L' T' hle hq hn' hT')

/-- A cut: what holds between the two is said once. -/
theorem w_cut {x y : Code} (M : Post4) (h : wpS P n x (thn M Q) S D B L) (h' : ∀ S' D' B' L', B.le B' → M S' D' B' L' → wpS P n y Q S' D' B' L') : wpS P n (.seq x y) Q S D B L :=
  w_seq (w_conseq h fun e S' D' B' L' hle hq => by cases e <;> first | exact hq | exact h' _ _ _ _ hle hq)

theorem w_cond {c : Operand} {x y : Code} {t : Bool} (hc : ev S c = some (.bool t)) (h1 : t = true → wpS P n x Q S D B L) (h2 : t = false → wpS P n y Q S D B L) : wpS P n (.cond c x y) Q S D B L := fun C k T hn hT hA => by
  refine C.X.ctl rfl (fun w => st_cond (ev_evT hT hc)) ?_
  cases t
  · exact h2 rfl C k T hn hT hA
  · exact h1 rfl C k T hn hT hA

theorem w_block {id : Nat} {c : Code} (h : wpS P n c (inB id Q) S D B L) : wpS P n (.block id c) Q S D B L := fun C k T hn hT hA => by
  refine C.X.ctl rfl (fun w => st_block) (h C (.inBlock id :: k) T hn hT fun e S' D' B' L' T' hle hq hn' hT' => ?_)
  cases e with
  | normal => exact C.X.ctl rfl (fun w => st_inBlock) (hA .normal S' D' B' L' T' hle hq hn' hT')
  | exit id' =>
    by_cases hid : id' = id
    · subst hid
      have hq' : Q .normal S' D' B' L' := by simpa [inB] using hq
      exact ⟨k, by simp [exitTo], hA .normal S' D' B' L' T' hle hq' hn' hT'⟩
    · have hb : Nat.beq id' id = false := by
        cases h : Nat.beq id' id with
        | false => rfl
        | true => exact absurd (Nat.eq_of_beq_eq_true h) hid
      have hq' : Q (.exit id') S' D' B' L' := by simpa [inB, hb] using hq
      obtain ⟨k', hk', hg⟩ := hA (.exit id') S' D' B' L' T' hle hq' hn' hT'
      have : (id == id') = false := by simp; exact fun h => hid h.symm
      exact ⟨k', by simp [exitTo, this, hk'], hg⟩
  | ret => exact hA .ret S' D' B' L' T' hle hq hn' hT'
  | goto l => exact hA (.goto l) S' D' B' L' T' hle hq hn' hT'
  | panic ch => exact hA (.panic ch) S' D' B' L' T' hle hq hn' hT'
  | outgrown => exact hA .outgrown S' D' B' L' T' hle hq hn' hT'

/-- What one round owes. -/
def rnd {α : Type} (St : α → Env) (Lo : α → List Cells) (Iv : α → Kn → Prop) (μ : α → Nat) (D : List Deferred) (x : α) (Q : Exit → Post4) : Exit → Post4
  | .normal => fun S' D' B' L' => ∃ x', μ x' < μ x ∧ Iv x' B' ∧ Sub (St x') S' ∧ L' = Lo x' ∧ D' = D
  | e => Q e
/-- A LOOP: the live slots, what is owned, what holds, and a measure, each a function of a ghost 'x'. -/
theorem w_loop {c : Code} {α : Type} (St : α → Env) (Lo : α → List Cells) (Iv : α → Kn → Prop) (μ : α → Nat) (x₀ : α) (hS : Sub (St x₀) S) (hL : L = Lo x₀) (hI : Iv x₀ B)
    (round : ∀ x B', B.le B' → Iv x B' → wpS P n c (rnd St Lo Iv μ D x Q) (St x) D B' (Lo x)) : wpS P n (.loop c) Q S D B L := fun C k T hn hT hA => by
  have key : ∀ m x B' T, μ x = m → B.le B' → Iv x B' → T.size = n → Ag T (St x) → C.X.R (G (fat C.b T D (.code c :: .inLoop c :: k)) C.cs) B' ((Lo x).flatten ++ C.F) := by
    intro m
    induction m using Nat.strongRecOn with
    | _ m ih =>
      intro x B' T hm hle hI hn hT
      refine round x B' hle hI C (.inLoop c :: k) T hn hT fun e S' D' B'' L' T' hle' hq hn' hT' => ?_
      cases e with
      | normal =>
        obtain ⟨x', hlt, hI', hs', rfl, rfl⟩ := hq
        exact C.X.ctl rfl (fun w => st_inLoop) (ih (μ x') (hm ▸ hlt) x' B'' T' rfl (hle.trans hle') hI' hn' (hT'.sub hs'))
      | exit id => exact After.push rfl (by simp) (hA (.exit id) S' D' B'' L' T' (hle.trans hle') hq hn' hT')
      | ret => exact After.push (x := .inLoop c) rfl (by simp) (hA .ret S' D' B'' L' T' (hle.trans hle') hq hn' hT')
      | goto l => exact hA (.goto l) S' D' B'' L' T' (hle.trans hle') hq hn' hT'
      | panic ch => exact hA (.panic ch) S' D' B'' L' T' (hle.trans hle') hq hn' hT'
      | outgrown => exact hA .outgrown S' D' B'' L' T' (hle.trans hle') hq hn' hT'
  subst hL
  exact C.X.ctl rfl (fun w => st_loop) (key _ x₀ B T rfl (Kn.le.refl B) hI hn (hT.sub hS))


/-- Where nothing can be owned and known like this, nothing is owed. -/
theorem Lg.assume {P : Program} (X : Lg P) {g : Goroutine} {B : Kn} {L : Cells} (hs : g = G g.frame g.callers) (h : (∀ p, p ∈ L → B.mem p.1 = none) → (L.map (·.1)).Nodup → X.R g B L) : X.R g B L := by
  by_cases hw : ∃ w, Sat B L w
  · obtain ⟨w, s⟩ := hw
    exact h s.apart s.nodup
  · exact X.step hs fun w s => absurd ⟨w, s⟩ hw

def Kn.add (B : Kn) (l : Cells) : Kn := ⟨fun b => match B.mem b with | some o => some o | none => (l.find? (fun p => p.1 == b)).map (·.2)⟩
theorem Kn.le_add (B : Kn) (l : Cells) : B.le (B.add l) := fun b o h => by simp [Kn.add, h]
theorem find_of_nodup : ∀ {l : Cells}, (l.map (·.1)).Nodup → ∀ {p : Nat × Obj}, p ∈ l → l.find? (fun q => q.1 == p.1) = some p
  | [], _, _, hp => by cases hp
  | q :: r, hn, p, hp => by
    have hn' := List.nodup_cons.1 hn
    rcases List.mem_cons.1 hp with rfl | hp
    · simp
    · have : q.1 ≠ p.1 := fun e => hn'.1 (List.mem_map.2 ⟨p, hp, e.symm⟩)
      rw [List.find?_cons_of_neg (by simpa using this)]
      exact find_of_nodup hn'.2 hp
theorem Kn.add_mem {B : Kn} {l : Cells} (ha : ∀ p, p ∈ l → B.mem p.1 = none) (hn : (l.map (·.1)).Nodup) {p : Nat × Obj} (hp : p ∈ l) : (B.add l).mem p.1 = some p.2 := by
  simp [Kn.add, ha p hp, find_of_nodup hn hp]
theorem Kn.add_inv {B : Kn} {l : Cells} {b : Nat} {o : Obj} (h : (B.add l).mem b = some o) : B.mem b = some o ∨ (b, o) ∈ l := by
  simp only [Kn.add] at h
  cases hm : B.mem b with
  | some o' => rw [hm] at h; exact .inl h
  | none =>
    rw [hm] at h
    simp only [Option.map_eq_some_iff] at h
    obtain ⟨p, hp, rfl⟩ := h
    have h1 := List.mem_of_find?_eq_some hp
    have h2 := List.find?_some hp
    simp only [beq_iff_eq] at h2
    subst h2
    exact .inr h1

/-- What is owned becomes known for good: nobody writes it any more. -/
theorem Lg.publish {P : Program} (X : Lg P) {g : Goroutine} {B : Kn} {L l r : Cells} (hs : g = G g.frame g.callers) (hp : L.Perm (l ++ r))
    (h : ∀ B', B.le B' → (∀ p, p ∈ l → B'.mem p.1 = some p.2) → X.R g B' r) : X.R g B L := by
  refine X.assume hs fun ha hn => ?_
  have hn' : ((l ++ r).map (·.1)).Nodup := (hp.map _).nodup_iff.1 hn
  have hnl : (l.map (·.1)).Nodup := by rw [List.map_append] at hn'; exact (List.nodup_append.1 hn').1
  have hal : ∀ p, p ∈ l → B.mem p.1 = none := fun p hpl => ha p (hp.mem_iff.2 (List.mem_append.2 (.inl hpl)))
  refine X.conv (B' := B.add l) (L' := r) (Kn.le_add B l) (fun w s => ?_) (fun b o hb => ?_) (fun p hpr => ⟨p, hp.mem_iff.2 (List.mem_append.2 (.inr hpr)), rfl⟩) (h _ (Kn.le_add B l) fun p hpl => Kn.add_mem hal hnl hpl)
  · have s' := s.perm hp
    refine ⟨fun b o hb => ?_, fun p hpr => s'.own p (List.mem_append.2 (.inr hpr)), ?_, fun p hpr => ?_⟩
    · rcases Kn.add_inv hb with hb | hb
      · exact s.ro b o hb
      · exact s'.own (b, o) (List.mem_append.2 (.inl hb))
    · have := s'.nodup; rw [List.map_append] at this; exact (List.nodup_append.1 this).2.1
    · cases hm : (B.add l).mem p.1 with
      | none => rfl
      | some o =>
        rcases Kn.add_inv hm with hm | hm
        · rw [s'.apart p (List.mem_append.2 (.inr hpr))] at hm; cases hm
        · have := s'.nodup; rw [List.map_append] at this
          exact absurd rfl ((List.nodup_append.1 this).2.2 _ (List.mem_map.2 ⟨_, hm, rfl⟩) _ (List.mem_map.2 ⟨p, hpr, rfl⟩))
  · rcases Kn.add_inv hb with hb | hb
    · exact .inl (by rw [hb]; rfl)
    · exact .inr ⟨(b, o), hp.mem_iff.2 (List.mem_append.2 (.inl hb)), rfl⟩

theorem set_perm : ∀ {L : List Cells} {i : Nat} {l : Cells} (F : Cells) (l' : Cells), L[i]? = some l → ∃ r, (L.flatten ++ F).Perm (l ++ r) ∧ ((L.set i l').flatten ++ F).Perm (l' ++ r)
  | [], _, _, _, _, h => by simp at h
  | x :: L, 0, l, F, l', h => by
    simp only [List.getElem?_cons_zero, Option.some.injEq] at h
    subst h
    exact ⟨L.flatten ++ F, by simp, by simp⟩
  | x :: L, i + 1, l, F, l', h => by
    obtain ⟨r, h1, h2⟩ := set_perm (L := L) (i := i) F l' (by simpa using h)
    refine ⟨x ++ r, ?_, ?_⟩
    · simp only [List.flatten_cons, List.append_assoc]
      exact (List.Perm.append_left x h1).trans (by simpa using (List.perm_append_comm_assoc x l r))
    · simp only [List.set_cons_succ, List.flatten_cons, List.append_assoc]
      exact (List.Perm.append_left x h2).trans (by simpa using (List.perm_append_comm_assoc x l' r))

theorem w_pub {c : Code} (i : Nat) {l : Cells} (hi : L[i]? = some l) (h : ∀ B', B.le B' → (∀ p, p ∈ l → B'.mem p.1 = some p.2) → wpS P n c Q S D B' (L.set i [])) : wpS P n c Q S D B L := fun C k T hn hT hA => by
  obtain ⟨r, h1, h2⟩ := set_perm C.F [] hi
  exact C.X.publish rfl h1 fun B' hle hm => C.X.perm (by simpa using h2.symm) (h B' hle hm C k T hn hT fun e S' D' B'' L' T' hle' hq => hA e S' D' B'' L' T' (hle.trans hle') hq)

theorem Lg.drop {P : Program} (X : Lg P) {g : Goroutine} {B : Kn} {L r gl : Cells} (hp : L.Perm (r ++ gl)) (h : X.R g B r) : X.R g B L :=
  X.conv (Kn.le.refl B) (fun w s => by
      have s' := s.perm hp
      exact ⟨s.ro, fun p hpr => s'.own p (List.mem_append.2 (.inl hpr)), by have := s'.nodup; rw [List.map_append] at this; exact (List.nodup_append.1 this).1, fun p hpr => s'.apart p (List.mem_append.2 (.inl hpr))⟩)
    (fun b o hb => .inl (by rw [hb]; rfl)) (fun p hpr => ⟨p, hp.mem_iff.2 (List.mem_append.2 (.inl hpr)), rfl⟩) h

/-- A segment is forgotten. -/
theorem w_drop {c : Code} (i : Nat) {l : Cells} (hi : L[i]? = some l) (h : wpS P n c Q S D B (L.set i [])) : wpS P n c Q S D B L := fun C k T hn hT hA => by
  obtain ⟨r, h1, h2⟩ := set_perm C.F [] hi
  exact C.X.drop (r := (L.set i []).flatten ++ C.F) (gl := l) (h1.trans ((List.perm_append_comm).trans (List.Perm.append_right l (by simpa using h2.symm)))) (h C k T hn hT hA)
/-- What is owned under another partition into segments. -/
theorem w_segs {c : Code} {L' : List Cells} (hp : L.flatten.Perm L'.flatten) (h : wpS P n c Q S D B L') : wpS P n c Q S D B L := fun C k T hn hT hA =>
  C.X.perm (hp.append_right _) (h C k T hn hT hA)
/-- A contradiction among what is known and owned. -/
theorem w_assume {c : Code} (h : (∀ p, p ∈ L.flatten → B.mem p.1 = none) → (L.flatten.map (·.1)).Nodup → wpS P n c Q S D B L) : wpS P n c Q S D B L := fun C k T hn hT hA =>
  C.X.assume rfl fun ha hnd => h (fun p hp => ha p (List.mem_append.2 (.inl hp))) (by rw [List.map_append] at hnd; exact (List.nodup_append.1 hnd).1) C k T hn hT hA
end rules

/-! ### Operations -/

def putS (S : Env) : Option Tmp → Value → Env
  | some d, v => (d, v) :: S
  | none, _ => S
def dstOk (n : Nat) : Option Tmp → Bool
  | some d => Nat.blt d n
  | none => true
/-- ONE OPERATION, number i of the region. -/
def opW (P : Program) (n : Nat) (ops : Array Oper) (i : Nat) (o : Oper) (K : Post4) : Post4 := fun S D B L =>
  ∀ (C : Cx P) (todo : List Nat) (k : List Item) (T : Array Value), ops[i]? = some o → T.size = n → Ag T S →
    (∀ S' D' B' L' T', B.le B' → K S' D' B' L' → T'.size = n → Ag T' S' → C.X.R (G (fat C.b T' D' (.inRegion ops todo :: k)) C.cs) B' (L'.flatten ++ C.F)) →
    C.X.R (G (fat C.b T D (.inRegion ops (i :: todo) :: k)) C.cs) B (L.flatten ++ C.F)

abbrev PostV := Value → List Deferred → Kn → List Cells → Prop
/-- .. said of the value that it leaves: all other temporaries stand. -/
def opX (P : Program) (n : Nat) (ops : Array Oper) (i : Nat) (o : Oper) (K : PostV) (S : Env) (D : List Deferred) (B : Kn) (L : List Cells) : Prop :=
  dstOk n o.dst = true ∧ ∀ (C : Cx P) (todo : List Nat) (k : List Item) (T : Array Value), ops[i]? = some o → T.size = n → Ag T S →
    (∀ v D' B' L', B.le B' → K v D' B' L' → C.X.R (G (fat C.b (putT T o.dst v) D' (.inRegion ops todo :: k)) C.cs) B' (L'.flatten ++ C.F)) →
    C.X.R (G (fat C.b T D (.inRegion ops (i :: todo) :: k)) C.cs) B (L.flatten ++ C.F)

def runW (P : Program) (n : Nat) (ops : Array Oper) : Nat → List Oper → Post4 → Post4
  | _, [], K => K
  | i, o :: r, K => opW P n ops i o (runW P n ops (i + 1) r K)

theorem runW_sound {P : Program} {n : Nat} {ops : Array Oper} {K : Post4} : ∀ (l : List Oper) (i : Nat) {S : Env} {D : List Deferred} {B : Kn} {L : List Cells},
    (∀ j, l[j]? = ops[i + j]?) → runW P n ops i l K S D B L → ∀ (C : Cx P) (k : List Item) (T : Array Value), T.size = n → Ag T S →
    (∀ S' D' B' L' T', B.le B' → K S' D' B' L' → T'.size = n → Ag T' S' → C.X.R (G (fat C.b T' D' (.inRegion ops [] :: k)) C.cs) B' (L'.flatten ++ C.F)) →
    C.X.R (G (fat C.b T D (.inRegion ops (List.range' i l.length) :: k)) C.cs) B (L.flatten ++ C.F)
  | [], i, S, D, B, L, _, h, C, k, T, hn, hT, hA => hA S D B L T (Kn.le.refl B) h hn hT
  | o :: l, i, S, D, B, L, hl, h, C, k, T, hn, hT, hA => by
    simp only [List.length_cons, List.range'_succ]
    refine h C _ k T (by simpa using (hl 0).symm) hn hT fun S' D' B' L' T' hle hK hn' hT' => ?_
    exact runW_sound l (i + 1) (fun j => by have := hl (j + 1); simpa [Nat.add_assoc, Nat.add_comm 1 j] using this) hK C k T' hn' hT'
      fun S₂ D₂ B₂ L₂ T₂ hle₂ hK₂ => hA S₂ D₂ B₂ L₂ T₂ (hle.trans hle₂) hK₂

section
variable {P : Program} {n : Nat} {Q : Exit → Post4} {S : Env} {D : List Deferred} {B : Kn} {L : List Cells}
/-- A region in the text's order. -/
theorem w_region {id : Nat} {l : List Oper} (h : runW P n l.toArray 0 l (Q .normal) S D B L) : wpS P n (.region id l.toArray false) Q S D B L := fun C k T hn hT hA => by
  refine C.X.ctl rfl (fun w => st_region) ?_
  rw [List.size_toArray, List.range_eq_range']
  exact runW_sound l 0 (fun j => by simp) h C k T hn hT fun S' D' B' L' T' hle hq hn' hT' =>
    C.X.ctl rfl (fun w => st_region_end) (hA .normal S' D' B' L' T' hle hq hn' hT')

theorem w_seq_region {id : Nat} {l : List Oper} {y : Code} (h : runW P n l.toArray 0 l (wpS P n y Q) S D B L) : wpS P n (.seq (.region id l.toArray false) y) Q S D B L :=
  w_seq (w_region h)
end

/-- Is the operation carried out? (0: not guarded.) -/
def guardOk (ops : Array Oper) (S : Env) : Option (Nat × Bool) → Option Bool
  | none => some true
  | some (j, want) => match ops[j]? with
    | some oj => match oj.dst with
      | some d => match get S d with
        | some (.bool b) => some (b == want)
        | some (.tuple _) => some false
        | _ => none
      | none => none
    | none => none
theorem guardOk_wanted {ops : Array Oper} {T : Array Value} {S : Env} (hT : Ag T S) {o : Oper} {t : Bool} (h : guardOk ops S o.guard = some t) : Region.wanted o (yielded ops T) = t := by
  cases hg : o.guard with
  | none => rw [hg] at h; simp only [guardOk, Option.some.injEq] at h; simp [Region.wanted, hg, ← h]
  | some p =>
    obtain ⟨j, want⟩ := p
    rw [hg] at h
    simp only [guardOk] at h
    split at h
    · rename_i oj hj
      split at h
      · rename_i d hd
        split at h
        · rename_i b hb
          simp only [Option.some.injEq] at h
          have := hT _ _ hb
          simp [Region.wanted, hg, yielded, hj, hd, this, ← h]
        · rename_i b hb
          simp only [Option.some.injEq] at h
          have := hT _ _ hb
          simp [Region.wanted, hg, yielded, hj, hd, this, ← h]
        · cases h
      · cases h
    · cases h

theorem Ag.putT {T : Array Value} {S : Env} (h : Ag T S) {n : Nat} (hn : T.size = n) {dst : Option Tmp} (hd : dstOk n dst = true) (v : Value) : Ag (putT T dst v) (putS S dst v) := by
  cases dst with
  | none => exact h
  | some d => exact h.put (by rw [hn]; simpa [dstOk] using hd) v

theorem seen_fold {e : Event} {f : Bool × Array Event → Event → Bool × Array Event} (hf : ∀ x a, (f x a).2 = x.2 ∨ (f x a).2 = x.2.push a) : ∀ (l : List Event) (x : Bool × Array Event), e ∈ (l.foldl f x).2 → e ∈ x.2 ∨ e ∈ l
  | [], x, h => .inl h
  | a :: l, x, h => by
    rcases seen_fold hf l _ h with h | h
    · rcases hf x a with e1 | e1
      · rw [e1] at h; exact .inl h
      · rw [e1] at h
        rcases Array.mem_push.1 h with h | h
        · exact .inl h
        · exact .inr (h ▸ List.mem_cons_self ..)
    · exact .inr (List.mem_cons_of_mem _ h)
theorem seen_mem {P : Program} {fn : FuncId} {es : Array Event} {e : Event} (h : e ∈ seen P fn es) : e ∈ es := by
  dsimp only [seen] at h
  rw [← Array.foldl_toList] at h
  refine seen_fold (fun x a => ?_) es.toList _ h |>.elim (fun h => by simp at h) (fun h => Array.mem_toList_iff.1 h)
  obtain ⟨q, kept⟩ := x
  dsimp only
  split
  · exact .inl rfl
  · dsimp only
    split
    · exact .inl rfl
    · exact .inr rfl

/-- .. and what is left is dropped. -/
def Sup (a b : Cells) : Prop := ∃ gl, a.Perm (b ++ gl)
theorem Sup.of {a b : Cells} (h : a.Perm b) : Sup a b := ⟨[], by rw [List.append_nil]; exact h⟩
/-- What an operation of the frame's own yields, by 'hb'. -/
def yields (P : Program) (n : Nat) (o : Oper) (K : PostV) (S : Env) (D : List Deferred) (F : Cells) : Next → Kn → Cells → Prop
  | .value v, B', L' => ∃ LL : List Cells, Sup L' (LL.flatten ++ F) ∧ K v D B' LL
  | .skip, B', L' => ∃ LL : List Cells, Sup L' (LL.flatten ++ F) ∧ K undef D B' LL
  | _, _, _ => False

section
variable {P : Program} {n : Nat} {ops : Array Oper} {i : Nat} {o : Oper} {K : PostV} {S : Env} {D : List Deferred} {B : Kn} {L : List Cells}
theorem run_of_runT {α : Type} {s : Sem α} {w : World} {r : Result α} {es : Array Event} (h : s.runT P w #[] = (r, es)) : s.run P w = r ∧ s.events P w #[] = es := by
  refine ⟨?_, ?_⟩
  · rw [← Sem.runT_fst P s w #[], h]
  · show (s.runT P w #[]).2 = es; rw [h]
theorem apply_value {fr : Frame} {cs : List Frame} {s : Sem Next} {w w' : World} {v : Value} {es : Array Event} (hk : fr.kind ≠ .early) (h : s.runT P w #[] = (.ok (.value v) w', es)) :
    stepG.apply P true fr cs none s w = .go (G (fr.finish v) cs) w' (seen P fr.fn es) := by
  have hk' : (fr.kind == CallKind.early) = false := by simpa using hk
  obtain ⟨hr, he⟩ := run_of_runT h
  rw [← he]
  simp [stepG.apply, hr, hk', GStep.after, G]
theorem apply_skip {fr : Frame} {cs : List Frame} {s : Sem Next} {w w' : World} {es : Array Event} (hk : fr.kind ≠ .early) (h : s.runT P w #[] = (.ok .skip w', es)) :
    stepG.apply P true fr cs none s w = .go (G (fr.finish undef) cs) w' (seen P fr.fn es) := by
  have hk' : (fr.kind == CallKind.early) = false := by simpa using hk
  obtain ⟨hr, he⟩ := run_of_runT h
  rw [← he]
  simp [stepG.apply, hr, hk', GStep.after, G]
theorem apply_enter {fr : Frame} {cs : List Frame} {s : Sem Next} {w w' : World} {f : FuncId} {args : Array Value} {es : Array Event} (hk : fr.kind ≠ .early) (ht : ∀ a b c d r, fr.todo ≠ .call a b c d :: r) (h : s.runT P w #[] = (.ok (.enter f args) w', es)) :
    stepG.apply P true fr cs none s w = .go (G (Frame.enter P f args .normal) (fr :: cs)) w' (seen P fr.fn es) := by
  have hk' : (fr.kind == CallKind.early) = false := by simpa using hk
  obtain ⟨hr, he⟩ := run_of_runT h
  rw [← he]
  have hkd : (match fr.todo with | .call _ true _ _ :: _ => CallKind.wrapped | _ => .normal) = .normal := by
    split
    · rename_i h'; exact absurd h' (ht _ _ _ _ _)
    · rfl
  simp [stepG.apply, hr, hk', GStep.after, G]
  exact congrArg (Frame.enter P f args) hkd

/-- AN OPERATION BY 'hb'. -/
theorem opX_hb (hg : guardOk ops S o.guard = some true) (hd : dstOk n o.dst = true)
    (h : ∀ (ρ : Operand → Value), (∀ x v, ev S x = some v → ρ x = v) → ∀ F : Cells, hb P (execOp ρ o) (yields P n o K S D F) B (L.flatten ++ F)) (hnd : isDefer o.op = false := by rfl) : opX P n ops i o K S D B L := ⟨hd, fun C todo k T ho hn hT hA => by
  refine C.X.step rfl fun w s => ?_
  obtain ⟨a, w', es, B', L', h1, h2, h3, h4⟩ := hb_sound _ _ _ _ (h (evT T) (fun x v hx => ev_evT hT hx) C.F) w #[] s
  simp only [Array.empty_append] at h1
  rw [st_oper hnd ho (guardOk_wanted hT hg)]
  have hk : (fat C.b T D (.inRegion ops (i :: todo) :: k)).kind ≠ .early := C.early
  cases a with
  | value v =>
    obtain ⟨LL, ⟨gl, hp⟩, hK⟩ := h4
    refine ⟨_, w', _, B', L', apply_value hk h1, fun e he => h2 e (seen_mem he), h3, ?_⟩
    rw [fat_finish ho]
    exact C.X.drop hp (hA v D B' LL h3.le hK)
  | skip =>
    obtain ⟨LL, ⟨gl, hp⟩, hK⟩ := h4
    refine ⟨_, w', _, B', L', apply_skip hk h1, fun e he => h2 e (seen_mem he), h3, ?_⟩
    rw [fat_finish ho]
    exact C.X.drop hp (hA undef D B' LL h3.le hK)
  | _ => exact h4.elim⟩

/-- A guarded operation that is passed over. -/
theorem w_pass {dst : Option Tmp} {op : Op} {t : TypeId} {pos : String} {after : Array Edge} {g : Option (Nat × Bool)} (hg : guardOk ops S g = some false) (hd : dstOk n dst = true) (h : K undef D B L) : opX P n ops i ⟨dst, op, t, pos, after, g⟩ K S D B L := ⟨hd, fun C todo k T ho hn hT hA => by
  refine C.X.ctl rfl (fun w => st_skipped ho (guardOk_wanted (o := ⟨dst, op, t, pos, after, g⟩) hT hg)) ?_
  exact hA undef D B L (Kn.le.refl B) h⟩
theorem opW_x {K : Post4} (h : opX P n ops i o (fun v D' B' L' => K (putS S o.dst v) D' B' L') S D B L) : opW P n ops i o K S D B L := fun C todo k T ho hn hT hA =>
  h.2 C todo k T ho hn hT fun v D' B' L' hle hK => hA _ D' B' L' _ hle hK (by rw [putT_size, hn]) (hT.putT hn h.1 v)
end
end Go.BL

namespace Go.BL
section
variable {K : Post4} {Q : Exit → Post4} {S : Env} {D : List Deferred} {B : Kn} {L : List Cells} {id id' : Nat}
theorem thn_n (h : K S D B L) : thn K Q .normal S D B L := h
theorem thn_r (h : Q .ret S D B L) : thn K Q .ret S D B L := h
theorem thn_x (h : Q (.exit id) S D B L) : thn K Q (.exit id) S D B L := h
theorem inB_n (h : Q .normal S D B L) : inB id Q .normal S D B L := h
theorem inB_r (h : Q .ret S D B L) : inB id Q .ret S D B L := h
theorem inB_hit (h : Q .normal S D B L) : inB id Q (.exit id) S D B L := by simpa [inB] using h
theorem inB_miss (hb : Nat.beq id' id = false) (h : Q (.exit id') S D B L) : inB id Q (.exit id') S D B L := by simpa [inB, hb] using h
theorem rnd_r {α : Type} {St : α → Env} {Lo : α → List Cells} {Iv : α → Kn → Prop} {μ : α → Nat} {D' : List Deferred} {x : α} (h : Q .ret S D B L) : rnd St Lo Iv μ D' x Q .ret S D B L := h
theorem rnd_x {α : Type} {St : α → Env} {Lo : α → List Cells} {Iv : α → Kn → Prop} {μ : α → Nat} {D' : List Deferred} {x : α} (h : Q (.exit id) S D B L) : rnd St Lo Iv μ D' x Q (.exit id) S D B L := h
theorem rnd_n {α : Type} {St : α → Env} {Lo : α → List Cells} {Iv : α → Kn → Prop} {μ : α → Nat} {x : α} (x' : α) (hm : μ x' < μ x) (hi : Iv x' B) (hs : Sub (St x') S) (hl : L = Lo x') : rnd St Lo Iv μ D x Q .normal S D B L := ⟨x', hm, hi, hs, hl, rfl⟩
/-- The live slots and the owned segments, restated. -/
theorem w_tidy {P : Program} {n : Nat} {c : Code} (S' : Env) (L' : List Cells) (hs : Sub S' S) (hl : L = L') (h : wpS P n c Q S' D B L') : wpS P n c Q S D B L := by subst hl; exact w_keep S' hs h
end
end Go.BL
