/-
  BL: the operations, one rule each.
-/
import Derived.Test.YtnhgfdfmfhkcmaaBLWalk
namespace Go.BL
open Go.Conc (G)
set_option linter.unusedVariables false

@[reducible] def str (l : List UInt8) : Value := .string ⟨l.toArray⟩
@[reducible] def int (x : Int) : Value := .int .i64 x
@[reducible] def box1 (b : Nat) (l : List Value) (T : TypeId) : Cells := [(b, .cells l.toArray T (0, 0))]
@[reducible] def ptr (a : Addr) : Value := .pointer (some a)

/-! ### facts on the program's types, each closed -/
def lk (P : Program) (t : TypeId) : Option (Option Nat) :=
  match P.underlying t, P.info? t with
  | some (.struct _), some i => some (some i.size)
  | some (.array _ _), some i => some (some i.size)
  | some _, some _ => some none
  | _, _ => none
def zeroOf (P : Program) (t : TypeId) : Option Value := (P.info? t).bind (·.zero)
def sizeIs (P : Program) (t : TypeId) : Option Nat := (P.info? t).map (·.size)
def fieldOff (P : Program) (s : TypeId) (i : Nat) : Option Nat :=
  match P.underlying s with
  | some (.struct fs) => match fs[i]? with
    | some f => match P.info? f.type with
      | some j => if j.size = 0 then none else some f.offset
      | none => none
    | none => none
  | _ => none

section
variable {P : Program} {α : Type} {Q : α → Kn → Cells → Prop} {B : Kn} {L : Cells}
theorem hb_program {Q : Program → Kn → Cells → Prop} : hb P program Q B L = Q P B L := rfl
theorem hb_underlying {Q : TypeDesc → Kn → Cells → Prop} {t : TypeId} {d : TypeDesc} (h : P.underlying t = some d) : hb P (underlying t) Q B L = Q d B L := by
  simp only [underlying, hb_bind, hb_program, h, hb_pure]
theorem hb_typeInfo {Q : TypeInfo → Kn → Cells → Prop} {t : TypeId} {i : TypeInfo} (h : P.info? t = some i) : hb P (typeInfo t) Q B L = Q i B L := by
  simp only [typeInfo, hb_bind, hb_program, h, hb_pure]
theorem hb_zeroValue {Q : Value → Kn → Cells → Prop} {t : TypeId} {v : Value} (h : zeroOf P t = some v) : hb P (zeroValue t) Q B L = Q v B L := by
  simp only [zeroOf, Option.bind_eq_some_iff] at h
  obtain ⟨i, hi, hz⟩ := h
  simp only [zeroValue, hb_bind, hb_typeInfo hi, hz, hb_pure]
theorem hb_sizeOf {Q : Nat → Kn → Cells → Prop} {t : TypeId} {n : Nat} (h : sizeIs P t = some n) : hb P (sizeOf t) Q B L = Q n B L := by
  simp only [sizeIs, Option.map_eq_some_iff] at h
  obtain ⟨i, hi, rfl⟩ := h
  simp only [sizeOf, hb_bind, hb_typeInfo hi, hb_pure]
theorem lk_none {t : TypeId} (h : lk P t = some none) {Q : Bool → Kn → Cells → Prop} : hb P (isAgg t) Q B L = Q false B L := by
  unfold lk at h
  cases hd : P.underlying t with
  | none => rw [hd] at h; cases P.info? t <;> cases h
  | some d =>
    rw [hd] at h
    rw [isAgg, hb_bind, hb_underlying hd]
    cases hi : P.info? t with
    | none => rw [hi] at h; cases d <;> cases h
    | some i => rw [hi] at h; cases d <;> first | rfl | cases h
theorem lk_some {t : TypeId} {n : Nat} (h : lk P t = some (some n)) {Q : Bool → Kn → Cells → Prop} : hb P (isAgg t) Q B L = Q true B L ∧ sizeIs P t = some n := by
  unfold lk at h
  split at h
  · rename_i fs i hd hi; simp only [Option.some.injEq] at h; exact ⟨by rw [isAgg, hb_bind, hb_underlying hd]; rfl, by simp [sizeIs, hi, h]⟩
  · rename_i a e i hd hi; simp only [Option.some.injEq] at h; exact ⟨by rw [isAgg, hb_bind, hb_underlying hd]; rfl, by simp [sizeIs, hi, h]⟩
  · cases h
  · cases h
theorem hb_load {Q : Value → Kn → Cells → Prop} {a : Addr} {v : Value} (hc : CellAt B L a v) (h : Q v B L) : hb P (load a) Q B L := ⟨rfl, v, hc, h⟩
theorem hb_loadCellsFrom {Q : Array Value → Kn → Cells → Prop} {a : Addr} : ∀ (vs : List Value) (i : Nat) (acc : Array Value), (∀ j v, vs[j]? = some v → CellAt B L (a.add (i + j)) v) → Q (acc ++ vs.toArray) B L →
    hb P (loadCellsFrom a i vs.length acc) Q B L
  | [], i, acc, _, h => by simp only [List.length_nil, loadCellsFrom, hb_pure]; simpa using h
  | v :: vs, i, acc, hc, h => by
    simp only [List.length_cons, loadCellsFrom, hb_bind]
    refine hb_load (hc 0 v (by simp)) ?_
    refine hb_loadCellsFrom vs (i + 1) (acc.push v) (fun j u hj => by have := hc (j + 1) u (by simpa using hj); rwa [show i + (j + 1) = i + 1 + j from by omega] at this) ?_
    simpa using h
theorem hb_loadVar1 {Q : Value → Kn → Cells → Prop} {t : TypeId} {a : Addr} {v : Value} (hl : lk P t = some none) (hc : CellAt B L a v) (h : Q v B L) : hb P (loadVar t a) Q B L := by
  simp only [loadVar, hb_bind, lk_none hl]
  exact hb_load hc h
theorem hb_loadVarN {Q : Value → Kn → Cells → Prop} {t : TypeId} {a : Addr} {vs : List Value} (hl : lk P t = some (some vs.length)) (hc : ∀ j v, vs[j]? = some v → CellAt B L (a.add j) v) (h : Q (.agg vs.toArray) B L) : hb P (loadVar t a) Q B L := by
  simp only [loadVar, hb_bind, (lk_some hl).1, if_true, hb_sizeOf (lk_some (L := L) (B := B) (Q := fun _ _ _ => True) hl).2, loadCells]
  refine hb_loadCellsFrom vs 0 #[] (fun j v hj => by simpa using hc j v hj) ?_
  simp only [hb_pure]
  simpa using h

def setAt : List Value → Nat → List Value → List Value
  | l, _, [] => l
  | [], _, _ => []
  | _ :: l, 0, v :: vs => v :: setAt l 0 vs
  | x :: l, i + 1, vs => x :: setAt l i vs
theorem setAt_nil (l : List Value) (i : Nat) : setAt l i [] = l := by cases l <;> cases i <;> rfl
theorem setAt_cons : ∀ (l : List Value) (i : Nat) (v : Value) (vs : List Value), setAt l i (v :: vs) = setAt (l.set i v) (i + 1) vs
  | [], i, v, vs => by cases i <;> cases vs <;> rfl
  | x :: l, 0, v, vs => by
    cases vs with
    | nil => simp [setAt, setAt_nil]
    | cons u us => simp [setAt]
  | x :: l, i + 1, v, vs => by
    simp only [setAt, List.set_cons_succ]
    cases vs with
    | nil => simp [setAt_nil, setAt_cons l i v []]
    | cons u us => simp only [setAt]; rw [setAt_cons l i v (u :: us)]
theorem oneC_all_cons {v : Value} {vs : List Value} (h : (v :: vs).all oneC = true) : oneC v = true ∧ vs.all oneC = true := by simpa using h
theorem hb_storeCells {Q : Unit → Kn → Cells → Prop} {a : Addr} (ha : a.spot = none) {T : TypeId} {L₁ : Cells} : ∀ (vs : List Value) (i : Nat) (l : List Value) (L : Cells), vs.all oneC = true → L.Perm ((a.block, .cells l.toArray T (0, 0)) :: L₁) → a.off + i + vs.length ≤ l.length →
    (∀ L', L'.Perm ((a.block, .cells (setAt l (a.off + i) vs).toArray T (0, 0)) :: L₁) → Q () B L') → hb P (storeCells a vs i) Q B L
  | [], i, l, L, _, hp, _, h => by
    simp only [storeCells, hb_pure]
    exact h L (by rw [setAt_nil]; exact hp)
  | v :: vs, i, l, L, h1, hp, hlen, h => by
    simp only [storeCells, hb_bind]
    have hoff : (a.add i).off = a.off + i := by unfold Addr.add; split <;> simp_all
    have hbl : (a.add i).block = a.block := by unfold Addr.add; split <;> rfl
    have hsp : (a.add i).spot = none := by unfold Addr.add; split <;> simp_all
    obtain ⟨hv, hvs⟩ := oneC_all_cons h1
    refine ⟨rfl, hv, hsp, l.toArray, T, (0, 0), L₁, by rw [hbl]; exact hp, by rw [hoff]; simp only [List.size_toArray]; simp only [List.length_cons] at hlen; omega, by simp, ?_⟩
    rw [hb_spure]
    refine hb_storeCells (T := T) (L₁ := L₁) ha vs (i + 1) (l.set (a.off + i) v) _ hvs (by rw [hbl, hoff]; simp) (by simp only [List.length_set]; simp only [List.length_cons] at hlen; omega) fun L' hp' => h L' ?_
    rw [setAt_cons, Nat.add_assoc]
    exact hp'
end

/-! ### what is read and written, said of segments -/
@[reducible] def At (B : Kn) (L : List Cells) (a : Addr) (v : Value) : Prop := CellAt B L.flatten a v
theorem CellAt.app {B : Kn} {L F : Cells} {a : Addr} {v : Value} (h : CellAt B L a v) : CellAt B (L ++ F) a v :=
  let ⟨h1, cs, T, fr, h2, h3⟩ := h; ⟨h1, cs, T, fr, h2.imp id fun x => List.mem_append.2 (.inl x), h3⟩
theorem atL {B : Kn} {L : List Cells} {a : Addr} {v : Value} {l : List Value} {T : TypeId} {fr : Nat × Nat} {r : Cells} (j : Nat) (hj : L[j]? = some ((a.block, .cells l.toArray T fr) :: r)) (hs : a.spot = none) (hv : l[a.off]? = some v) : At B L a v :=
  ⟨hs, l.toArray, T, fr, .inr (List.mem_flatten.2 ⟨_, List.mem_of_getElem? hj, List.mem_cons_self ..⟩), by simpa using hv⟩
theorem atB {B : Kn} {L : List Cells} {a : Addr} {v : Value} {l : List Value} {T : TypeId} {fr : Nat × Nat} (h : B.mem a.block = some (.cells l.toArray T fr)) (hs : a.spot = none) (hv : l[a.off]? = some v) : At B L a v :=
  ⟨hs, l.toArray, T, fr, .inl h, by simpa using hv⟩
/-- A row of cells from an address on. -/
@[reducible] def RowAt (B : Kn) (L : List Cells) (a : Addr) (vs : List Value) : Prop := ∀ j v, vs[j]? = some v → At B L (a.add j) v
theorem Addr.add_off (a : Addr) (i : Nat) (h : a.spot = none) : a.add i = ⟨a.block, a.off + i, none⟩ := by
  unfold Addr.add; split
  · subst_vars; cases a; simp_all
  · rfl
theorem rowL {B : Kn} {L : List Cells} {a : Addr} {l vs : List Value} {T : TypeId} {fr : Nat × Nat} {r : Cells} (j : Nat) (hj : L[j]? = some ((a.block, .cells l.toArray T fr) :: r)) (hs : a.spot = none) (hv : (l.drop a.off).take vs.length = vs) : RowAt B L a vs := by
  intro i v hi
  rw [Addr.add_off a i hs]
  refine ⟨rfl, l.toArray, T, fr, .inr (List.mem_flatten.2 ⟨_, List.mem_of_getElem? hj, List.mem_cons_self ..⟩), ?_⟩
  have : vs[i]? = l[a.off + i]? := by
    rw [← hv]
    have hlt : i < vs.length := by
      rcases Nat.lt_or_ge i vs.length with h | h
      · exact h
      · rw [List.getElem?_eq_none h] at hi; cases hi
    rw [List.getElem?_take, if_pos hlt, List.getElem?_drop]
  simpa [this] using hi

section
variable {P : Program} {n : Nat} {ops : Array Oper} {i : Nat} {K : PostV} {S : Env} {D : List Deferred} {B : Kn} {L : List Cells}
variable {dst : Option Tmp} {ty : TypeId} {pos : String} {after : Array Edge} {g : Option (Nat × Bool)}

/-- An operation that yields a value and touches nothing. -/
theorem opX_pure {op : Op} {v : Value} (hg : guardOk ops S g = some true) (hd : dstOk n dst = true)
    (hv : ∀ ρ : Operand → Value, (∀ x u, ev S x = some u → ρ x = u) → ∀ (Q : Next → Kn → Cells → Prop) F, Q (.value v) B (L.flatten ++ F) → hb P (execOp ρ ⟨dst, op, ty, pos, after, g⟩) Q B (L.flatten ++ F))
    (h : K v D B L) (hnd : isDefer op = false := by rfl) : opX P n ops i ⟨dst, op, ty, pos, after, g⟩ K S D B L :=
  opX_hb hg hd (fun ρ hρ F => hv ρ hρ _ F ⟨L, .of (.refl _), h⟩) hnd

theorem w_move {x : Operand} {v : Value} (hg : guardOk ops S g = some true) (hd : dstOk n dst = true) (hx : ev S x = some v) (h : K v D B L) : opX P n ops i ⟨dst, .move x, ty, pos, after, g⟩ K S D B L :=
  opX_pure hg hd (fun ρ hρ Q F q => by show Q (.value (ρ x)) _ _; rw [hρ x v hx]; exact q) h
theorem w_assign {x : Operand} {v : Value} (hg : guardOk ops S g = some true) (hd : dstOk n dst = true) (hx : ev S x = some v) (h : K v D B L) : opX P n ops i ⟨dst, .assign x, ty, pos, after, g⟩ K S D B L :=
  opX_pure hg hd (fun ρ hρ Q F q => by show Q (.value (ρ x)) _ _; rw [hρ x v hx]; exact q) h
theorem w_pickT {c a b : Operand} {v : Value} (hg : guardOk ops S g = some true) (hd : dstOk n dst = true) (hc : ev S c = some (.bool true)) (hx : ev S a = some v) (h : K v D B L) : opX P n ops i ⟨dst, .pick c a b, ty, pos, after, g⟩ K S D B L :=
  opX_pure hg hd (fun ρ hρ Q F q => by simp only [execOp, hρ c _ hc, asBool, hb_bind, hb_pure, if_true, hρ a _ hx]; exact q) h
theorem w_pickF {c a b : Operand} {v : Value} (hg : guardOk ops S g = some true) (hd : dstOk n dst = true) (hc : ev S c = some (.bool false)) (hx : ev S b = some v) (h : K v D B L) : opX P n ops i ⟨dst, .pick c a b, ty, pos, after, g⟩ K S D B L :=
  opX_pure hg hd (fun ρ hρ Q F q => by simp only [execOp, hρ c _ hc, asBool, hb_bind, hb_pure, if_false, Bool.false_eq_true, hρ b _ hx]; exact q) h
theorem w_extract {x : Operand} {ix : Nat} {vs : List Value} {v : Value} (hg : guardOk ops S g = some true) (hd : dstOk n dst = true) (hx : ev S x = some (.tuple vs.toArray)) (hi : vs[ix]? = some v) (h : K v D B L) : opX P n ops i ⟨dst, .extract x ix, ty, pos, after, g⟩ K S D B L :=
  opX_pure hg hd (fun ρ hρ Q F q => by simp only [execOp, Instr.extract, hρ x _ hx, List.getElem?_toArray, hi, hb_bind, hb_pure]; exact q) h
theorem w_not {x : Operand} {b : Bool} {t : TypeId} (hg : guardOk ops S g = some true) (hd : dstOk n dst = true) (hx : ev S x = some (.bool b)) (h : K (.bool (!b)) D B L) : opX P n ops i ⟨dst, .unOp .not t x, ty, pos, after, g⟩ K S D B L :=
  opX_pure hg hd (fun ρ hρ Q F q => by simp only [execOp, hρ x _ hx, Op.unary, hb_bind, hb_pure]; exact q) h
theorem w_nilCheck {x : Operand} {a : Addr} (hg : guardOk ops S g = some true) (hd : dstOk n dst = true) (hx : ev S x = some (.pointer (some a))) (h : K (.pointer (some a)) D B L) : opX P n ops i ⟨dst, .nilCheck x, ty, pos, after, g⟩ K S D B L :=
  opX_pure hg hd (fun ρ hρ Q F q => by simp only [execOp, hρ x _ hx, hb_pure]; exact q) h

theorem hb_eqGuard {op : BinOp} {t : TypeId} {x y : Operand} {a b : Value} {Q : Unit → Kn → Cells → Prop} {L : Cells} (ha : (match a, b with | .nilIface, .nilIface => false | .agg _, .agg _ => false | _, _ => true) = true) : hb P (eqGuard op t x y a b) Q B L = Q () B L := by
  unfold eqGuard
  cases a <;> cases b <;> simp only [Bool.false_eq_true] at ha <;> cases op <;> rfl

section binary
variable {t u : TypeId} {x y : Operand} {k : IntKind} {a b r : Int}
theorem w_arith {op : BinOp} (hg : guardOk ops S g = some true) (hd : dstOk n dst = true) (hx : ev S x = some (.int k a)) (hy : ev S y = some (.int k b))
    (hr : (match op with | .add => some (k.wrap (a + b)) | .sub => some (k.wrap (a - b)) | .mul => some (k.wrap (a * b)) | _ => none) = some r) (h : K (.int k r) D B L) : opX P n ops i ⟨dst, .binOp op t x y u, ty, pos, after, g⟩ K S D B L :=
  opX_pure hg hd (fun ρ hρ Q F q => by
    cases op <;> simp only [Option.some.injEq, reduceCtorEq] at hr <;> subst hr <;>
      (simp only [execOp, hρ x _ hx, hρ y _ hy, hb_bind, hb_eqGuard, binOp, ne_eq, not_true_eq_false, if_false, Op.intArith, hb_pure]; exact q)) h
theorem w_add (hg : guardOk ops S g = some true) (hd : dstOk n dst = true) (hx : ev S x = some (.int k a)) (hy : ev S y = some (.int k b)) (hr : k.wrap (a + b) = r) (h : K (.int k r) D B L) : opX P n ops i ⟨dst, .binOp .add t x y u, ty, pos, after, g⟩ K S D B L :=
  w_arith hg hd hx hy (by rw [hr]) h
theorem w_sub (hg : guardOk ops S g = some true) (hd : dstOk n dst = true) (hx : ev S x = some (.int k a)) (hy : ev S y = some (.int k b)) (hr : k.wrap (a - b) = r) (h : K (.int k r) D B L) : opX P n ops i ⟨dst, .binOp .sub t x y u, ty, pos, after, g⟩ K S D B L :=
  w_arith hg hd hx hy (by rw [hr]) h
theorem w_mul (hg : guardOk ops S g = some true) (hd : dstOk n dst = true) (hx : ev S x = some (.int k a)) (hy : ev S y = some (.int k b)) (hr : k.wrap (a * b) = r) (h : K (.int k r) D B L) : opX P n ops i ⟨dst, .binOp .mul t x y u, ty, pos, after, g⟩ K S D B L :=
  w_arith hg hd hx hy (by rw [hr]) h
theorem w_quo (hg : guardOk ops S g = some true) (hd : dstOk n dst = true) (hx : ev S x = some (.int k a)) (hy : ev S y = some (.int k b)) (h0 : b ≠ 0) (hr : k.wrap (a.tdiv b) = r) (h : K (.int k r) D B L) : opX P n ops i ⟨dst, .binOp .quo t x y u, ty, pos, after, g⟩ K S D B L :=
  opX_pure hg hd (fun ρ hρ Q F q => by
    simp only [execOp, hρ x _ hx, hρ y _ hy, hb_bind, hb_eqGuard, binOp, ne_eq, not_true_eq_false, if_false, Op.intDiv, h0, hb_pure, hr]; exact q) h
theorem w_rem (hg : guardOk ops S g = some true) (hd : dstOk n dst = true) (hx : ev S x = some (.int k a)) (hy : ev S y = some (.int k b)) (h0 : b ≠ 0) (hr : a.tmod b = r) (h : K (.int k r) D B L) : opX P n ops i ⟨dst, .binOp .rem t x y u, ty, pos, after, g⟩ K S D B L :=
  opX_pure hg hd (fun ρ hρ Q F q => by
    simp only [execOp, hρ x _ hx, hρ y _ hy, hb_bind, hb_eqGuard, binOp, ne_eq, not_true_eq_false, if_false, Op.intDiv, h0, hb_pure, hr]; exact q) h
theorem w_lss (hg : guardOk ops S g = some true) (hd : dstOk n dst = true) (hx : ev S x = some (.int k a)) (hy : ev S y = some (.int k b)) (h : K (.bool (decide (a < b))) D B L) : opX P n ops i ⟨dst, .binOp .lss t x y u, ty, pos, after, g⟩ K S D B L :=
  opX_pure hg hd (fun ρ hρ Q F q => by simp only [execOp, hρ x _ hx, hρ y _ hy, hb_bind, hb_eqGuard, binOp, ne_eq, not_true_eq_false, if_false, Op.intCmp, hb_pure]; exact q) h
theorem w_leq (hg : guardOk ops S g = some true) (hd : dstOk n dst = true) (hx : ev S x = some (.int k a)) (hy : ev S y = some (.int k b)) (h : K (.bool (decide (a ≤ b))) D B L) : opX P n ops i ⟨dst, .binOp .leq t x y u, ty, pos, after, g⟩ K S D B L :=
  opX_pure hg hd (fun ρ hρ Q F q => by simp only [execOp, hρ x _ hx, hρ y _ hy, hb_bind, hb_eqGuard, binOp, ne_eq, not_true_eq_false, if_false, Op.intCmp, hb_pure]; exact q) h
theorem w_gtr (hg : guardOk ops S g = some true) (hd : dstOk n dst = true) (hx : ev S x = some (.int k a)) (hy : ev S y = some (.int k b)) (h : K (.bool (decide (b < a))) D B L) : opX P n ops i ⟨dst, .binOp .gtr t x y u, ty, pos, after, g⟩ K S D B L :=
  opX_pure hg hd (fun ρ hρ Q F q => by simp only [execOp, hρ x _ hx, hρ y _ hy, hb_bind, hb_eqGuard, binOp, ne_eq, not_true_eq_false, if_false, Op.intCmp, hb_pure]; exact q) h
theorem w_geq (hg : guardOk ops S g = some true) (hd : dstOk n dst = true) (hx : ev S x = some (.int k a)) (hy : ev S y = some (.int k b)) (h : K (.bool (decide (b ≤ a))) D B L) : opX P n ops i ⟨dst, .binOp .geq t x y u, ty, pos, after, g⟩ K S D B L :=
  opX_pure hg hd (fun ρ hρ Q F q => by simp only [execOp, hρ x _ hx, hρ y _ hy, hb_bind, hb_eqGuard, binOp, ne_eq, not_true_eq_false, if_false, Op.intCmp, hb_pure]; exact q) h
theorem w_eqlI (hg : guardOk ops S g = some true) (hd : dstOk n dst = true) (hx : ev S x = some (.int k a)) (hy : ev S y = some (.int k b)) (h : K (.bool (decide (a = b))) D B L) : opX P n ops i ⟨dst, .binOp .eql t x y u, ty, pos, after, g⟩ K S D B L :=
  opX_pure hg hd (fun ρ hρ Q F q => by
    have e : (a == b) = decide (a = b) := by rw [Bool.eq_iff_iff]; simp
    simp only [execOp, hρ x _ hx, hρ y _ hy, hb_bind, hb_eqGuard, binOp, ne_eq, not_true_eq_false, if_false, Op.intCmp, hb_pure, e]; exact q) h
theorem w_neqI (hg : guardOk ops S g = some true) (hd : dstOk n dst = true) (hx : ev S x = some (.int k a)) (hy : ev S y = some (.int k b)) (h : K (.bool (decide (a ≠ b))) D B L) : opX P n ops i ⟨dst, .binOp .neq t x y u, ty, pos, after, g⟩ K S D B L :=
  opX_pure hg hd (fun ρ hρ Q F q => by
    have e : (a != b) = decide (a ≠ b) := by rw [Bool.eq_iff_iff]; simp
    simp only [execOp, hρ x _ hx, hρ y _ hy, hb_bind, hb_eqGuard, binOp, not_true_eq_false, ne_eq, if_false, Op.intCmp, hb_pure, e]; exact q) h
end binary
end
end Go.BL
