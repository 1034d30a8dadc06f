/-
  BL: functions: a contract, how it is proved from the function's body, how it is used at a call.
-/
import Derived.Test.YtnhgfdfmfhkcmaaBLOps2
import Derived.IntWalk
namespace Go.BL
open Go.Conc (G)
set_option linter.unusedVariables false

/-- How the frame was entered, and what its caller is doing meanwhile. -/
def Bk (kind : CallKind) (c : Frame) : Prop := kind = .normal ∨ (kind = .deferred ∧ (c.mode = .returning ∨ c.mode = .panicking [goexitEntry]))
def backTo (kind : CallKind) (c : Frame) (v : Value) : Frame := match kind with | .deferred => c | _ => c.finish v

/-- THE CONTRACT of a function: called with these arguments, knowing B, owning the segments Ls, it comes back with what 'Post' says. -/
def CallsB (P : Program) (f : FuncId) (args : List Value) (B : Kn) (Ls : List Cells) (Post : Value → Kn → List Cells → Prop) : Prop :=
  ∀ (X : Lg P) (kind : CallKind) (c : Frame) (cs : List Frame) (F : Cells), Bk kind c →
    (∀ v B' Ls', B.le B' → Post v B' Ls' → X.R (G (backTo kind c v) cs) B' (Ls'.flatten ++ F)) → X.R (G (Frame.enter P f args.toArray kind) (c :: cs)) B (Ls.flatten ++ F)

theorem CallsB.mono {P : Program} {f : FuncId} {args : List Value} {B : Kn} {Ls : List Cells} {Post Post' : Value → Kn → List Cells → Prop} (h : CallsB P f args B Ls Post) (hp : ∀ v B' Ls', B.le B' → Post v B' Ls' → Post' v B' Ls') : CallsB P f args B Ls Post' :=
  fun X kind c cs F hk hA => h X kind c cs F hk fun v B' Ls' hle hq => hA v B' Ls' hle (hp v B' Ls' hle hq)

def argEnv : List Value → Nat → Env
  | [], _ => []
  | v :: vs, i => (i, v) :: argEnv vs (i + 1)
theorem argEnv_get : ∀ (vs : List Value) (i j : Nat) (v : Value), get (argEnv vs i) j = some v → i ≤ j ∧ vs[j - i]? = some v
  | [], i, j, v, h => by cases h
  | u :: vs, i, j, v, h => by
    simp only [argEnv, get] at h
    cases hb : Nat.beq i j with
    | true =>
      rw [hb] at h
      have := Nat.eq_of_beq_eq_true hb
      subst this
      simp only [cond_true, Option.some.injEq] at h
      exact ⟨Nat.le_refl _, by simp [h]⟩
    | false =>
      rw [hb] at h
      obtain ⟨h1, h2⟩ := argEnv_get vs (i + 1) j v h
      refine ⟨by omega, ?_⟩
      rw [show j - i = (j - (i + 1)) + 1 from by omega]
      simpa using h2

/-- What a function hands back, off its result variables. -/
def resOne (P : Program) (S : Env) (B : Kn) (L : List Cells) : ResultVar → Value → Prop
  | .tmp t, v => get S t = some v
  | .cell a t, v => ∃ ad, get S a = some (ptr ad) ∧ ((lk P t = some none ∧ At B L ad v) ∨ ∃ vs : List Value, lk P t = some (some vs.length) ∧ RowAt B L ad vs ∧ v = .agg vs.toArray)
def resAll (P : Program) (S : Env) (B : Kn) (L : List Cells) : List ResultVar → List Value → Prop
  | [], [] => True
  | r :: rs, v :: vs => resOne P S B L r v ∧ resAll P S B L rs vs
  | _, _ => False
def resVal : List Value → Value
  | [v] => v
  | vs => .tuple vs.toArray

theorem resOne_hb {P : Program} {T : Array Value} {S : Env} {B : Kn} {L : List Cells} {F : Cells} (hT : Ag T S) {r : ResultVar} {v : Value} (h : resOne P S B L r v) {Q : Value → Kn → Cells → Prop} (q : Q v B (L.flatten ++ F)) :
    hb P (match r with | .tmp t => Pure.pure (T.getD t undef) | .cell a t => do loadVar t (← asAddr (T.getD a undef))) Q B (L.flatten ++ F) := by
  cases r with
  | tmp t =>
    have := hT t v h
    simp only [hb_pure, Array.getD_eq_getD_getElem?, this, Option.getD_some]
    exact q
  | cell a t =>
    obtain ⟨ad, ha, h⟩ := h
    have := hT a _ ha
    simp only [hb_bind, Array.getD_eq_getD_getElem?, this, Option.getD_some, asAddr, hb_pure]
    rcases h with ⟨hl, hc⟩ | ⟨vs, hl, hc, rfl⟩
    · exact hb_loadVar1 hl hc.app q
    · exact hb_loadVarN hl (fun j v hj => (hc j v hj).app) q

theorem hb_mapM {P : Program} {α β : Type} {f : α → Sem β} {B : Kn} {L : Cells} {Q : List β → Kn → Cells → Prop} : ∀ (xs : List α) (ys : List β), xs.length = ys.length →
    (∀ (i : Nat) (x : α) (y : β), xs[i]? = some x → ys[i]? = some y → ∀ Q : β → Kn → Cells → Prop, Q y B L → hb P (f x) Q B L) → Q ys B L → hb P (xs.mapM f) Q B L
  | [], [], _, _, q => by rw [List.mapM_nil]; exact q
  | x :: xs, y :: ys, hl, h, q => by
    rw [List.mapM_cons, hb_bind]
    refine h 0 x y (by simp) (by simp) _ ?_
    rw [hb_bind]
    refine hb_mapM xs ys (by simpa using hl) (fun i x y hx hy => h (i + 1) x y (by simpa using hx) (by simpa using hy)) ?_
    exact q
  | [], _ :: _, hl, _, _ => by cases hl
  | _ :: _, [], hl, _, _ => by cases hl

theorem resAll_len {P : Program} {S : Env} {B : Kn} {L : List Cells} : ∀ {rs : List ResultVar} {vs : List Value}, resAll P S B L rs vs → rs.length = vs.length
  | [], [], _ => rfl
  | _ :: _, _ :: _, h => by simp [resAll_len h.2]
  | [], _ :: _, h => h.elim
  | _ :: _, [], h => h.elim
theorem resAll_get {P : Program} {S : Env} {B : Kn} {L : List Cells} : ∀ {rs : List ResultVar} {vs : List Value}, resAll P S B L rs vs → ∀ (i : Nat) (r : ResultVar) (v : Value), rs[i]? = some r → vs[i]? = some v → resOne P S B L r v
  | [], [], _, i, r, v, hr, _ => by simp at hr
  | r :: rs, v :: vs, h, 0, r', v', hr, hv => by
    simp only [List.getElem?_cons_zero, Option.some.injEq] at hr hv
    subst hr; subst hv; exact h.1
  | r :: rs, v :: vs, h, i + 1, r', v', hr, hv => resAll_get h.2 i r' v' (by simpa using hr) (by simpa using hv)
  | [], _ :: _, h, _, _, _, _, _ => h.elim
  | _ :: _, [], h, _, _, _, _, _ => h.elim

theorem results_hb {P : Program} {fn : Func} {T : Array Value} {S : Env} {B : Kn} {L : List Cells} {F : Cells} (hT : Ag T S) {vs : List Value} (h : resAll P S B L fn.results.toList vs) {Q : Value → Kn → Cells → Prop} (q : Q (resVal vs) B (L.flatten ++ F)) :
    hb P (results fn T) Q B (L.flatten ++ F) := by
  unfold results
  rw [Array.mapM_eq_mapM_toList]
  simp only [hb_bind, hb_map]
  refine hb_mapM fn.results.toList vs (resAll_len h) (fun i r v hr hv Q q => ?_) ?_
  · have := resOne_hb (F := F) hT (resAll_get h i r v hr hv) q
    cases r <;> exact this
  · simp only [hb_pure]
    match vs, q with
    | [], q => exact q
    | [v], q => exact q
    | v :: u :: r, q => exact q

/-- What the end of a body owes. -/
def bodyQ (P : Program) (rs : List ResultVar) (Post : Value → Kn → List Cells → Prop) : Exit → Post4 := fun e S D B L =>
  (e = .ret ∨ e = .normal) ∧ D = [] ∧ ∃ vs Lr, resAll P S B L rs vs ∧ (∃ gl, L.flatten.Perm (Lr.flatten ++ gl)) ∧ Post (resVal vs) B Lr

theorem backTo_step {P : Program} {main : Bool} {kind : CallKind} {fr c : Frame} {cs : List Frame} {v : Value} {w : World} (hk : Bk kind c) (hf : fr.kind = kind) : doReturn P main fr (c :: cs) none v w = .go (G (backTo kind c v) cs) w #[] := by
  rcases hk with rfl | ⟨rfl, hm | hm⟩
  · simp [doReturn, hf, backTo, G]
  · simp [doReturn, hf, backTo, G, hm]
  · simp [doReturn, hf, backTo, G, hm, goexitEntry]

theorem leave_step {P : Program} {X : Lg P} {f : FuncId} {fn : Func} (hf : P.funcs[f]? = some fn) {kind : CallKind} {c fr : Frame} {cs : List Frame} (hk : Bk kind c) (h1 : fr.fn = f) (h2 : fr.mode = .returning) (h3 : fr.defers = []) (h4 : fr.kind = kind)
    {S : Env} {B : Kn} {L Lr : List Cells} {F : Cells} (hT : Ag fr.tmps S) {vs : List Value} (hr : resAll P S B L fn.results.toList vs) {gl : Cells} (hp : L.flatten.Perm (Lr.flatten ++ gl))
    (h : X.R (G (backTo kind c (resVal vs)) cs) B (Lr.flatten ++ F)) : X.R (G fr (c :: cs)) B (L.flatten ++ F) := by
  refine X.step rfl fun w s => ?_
  have hres : hb P (results fn fr.tmps) (fun v B' L' => v = resVal vs ∧ B' = B ∧ L' = L.flatten ++ F) B (L.flatten ++ F) := results_hb hT hr ⟨rfl, rfl, rfl⟩
  obtain ⟨a, w', es, B', L', e1, e2, e3, rfl, rfl, rfl⟩ := hb_sound _ _ _ _ hres w #[] s
  obtain ⟨r1, r2⟩ := run_of_runT e1
  refine ⟨G (backTo kind c (resVal vs)) cs, w', seen P fr.fn (#[] ++ es), B', L.flatten ++ F, ?_, fun e he => e2 e (by simpa using seen_mem he), e3, ?_⟩
  · rw [← r2]
    have hd : doReturn P X.main fr (c :: cs) none (resVal vs) w' = .go (G (backTo kind c (resVal vs)) cs) w' #[] := backTo_step hk h4
    simp [G, stepG, h2, unwind, h3, h1, hf, r1, GStep.after, hd]
  · exact X.drop (r := Lr.flatten ++ F) (gl := gl) ((hp.append_right F).trans (by rw [List.append_assoc, List.append_assoc]; exact List.Perm.append_left _ List.perm_append_comm)) h

/-- A CONTRACT, FROM THE BODY. -/
theorem callsB_body {P : Program} {f : FuncId} {fn : Func} {code : Code} {rs : List ResultVar} (n : Nat) (hf : P.funcs[f]? = some fn) (hb : fn.body = some code) (hn : fn.ntmps = n) (hrs : fn.results.toList = rs) {args : List Value} (ha : args.length ≤ n) {B : Kn} {Ls : List Cells} {Post : Value → Kn → List Cells → Prop}
    (h : wpS P n code (bodyQ P rs Post) (argEnv args 0) [] B Ls) : CallsB P f args B Ls Post := fun X kind c cs F hk hA => by
  have hke : kind ≠ .early := by rcases hk with rfl | ⟨rfl, _⟩ <;> simp
  let b0 : Frame := { fn := f, tmps := #[], todo := [], defers := [], mode := .run, kind := kind }
  let T0 : Array Value := args.toArray ++ Array.replicate (n - args.length) undef
  have hen : Frame.enter P f args.toArray kind = fat b0 T0 [] [.code code] := by
    simp [Frame.enter, fat, hf, hb, hn, b0, T0]
  rw [hen]
  have hT : Ag T0 (argEnv args 0) := fun i v hv => by
    obtain ⟨_, h2⟩ := argEnv_get args 0 i v hv
    have hlt := lt_of_some (a := args.toArray) (i := i) (x := v) (by simpa using h2)
    simp only [T0]
    rw [Array.getElem?_append_left hlt]
    simpa using h2
  refine h ⟨X, b0, c :: cs, F, hke⟩ [] T0 (by simp [T0]; omega) hT fun e S' D' B' L' T' hle hq hn' hT' => ?_
  obtain ⟨he, rfl, vs, Lr, hr, ⟨gl, hp⟩, hq⟩ := hq
  rw [← hrs] at hr
  rcases he with rfl | rfl
  · refine ⟨rfl, fun todo => ?_⟩
    exact leave_step hf hk rfl rfl rfl rfl hT' hr hp (hA _ B' Lr hle hq)
  · exact X.ctl rfl (fun w => st_end rfl) (leave_step hf hk rfl rfl rfl rfl hT' hr hp (hA _ B' Lr hle hq))

/-! ### A call -/
section
variable {P : Program} {n : Nat} {ops : Array Oper} {i : Nat} {K : PostV} {S : Env} {D : List Deferred} {B : Kn} {L : List Cells}
variable {dst : Option Tmp} {ty : TypeId} {pos : String} {after : Array Edge} {g : Option (Nat × Bool)}

/-- Does the program give this function a body that a call enters? -/
def enters (P : Program) (f : FuncId) : Bool :=
  match P.funcs[f]? with
  | some fn => fn.body.isSome && !(fn.name == "runtime.NumGoroutine")
  | none => false
theorem callFunc_hb {f : FuncId} {args : Array Value} (h : enters P f = true) {Q : Next → Kn → Cells → Prop} {L : Cells} (q : Q (.enter f args) B L) : hb P (callFunc f args) Q B L := by
  unfold enters at h
  split at h
  · rename_i fn hf
    simp only [Bool.and_eq_true, Bool.not_eq_true'] at h
    obtain ⟨h1, h2⟩ := h
    have h1' : fn.body.isNone = false := by cases hb : fn.body <;> simp_all
    simp only [callFunc, hb_bind, hb_program, hf, h2, h1', Bool.false_eq_true, if_false, hb_pure]
    exact q
  · cases h

/-- An operation whose sense is to enter a function. -/
theorem opX_enter {o : Oper} {f : FuncId} {vs : List Value} (hg : guardOk ops S o.guard = some true)
    (hv : ∀ ρ : Operand → Value, (∀ x u, ev S x = some u → ρ x = u) → ∀ (Q : Next → Kn → Cells → Prop) F, Q (.enter f vs.toArray) B (L.flatten ++ F) → hb P (execOp ρ o) Q B (L.flatten ++ F))
    (hd : dstOk n o.dst = true) {Ls Lk : List Cells} (hp : L.flatten.Perm (Ls.flatten ++ Lk.flatten)) {Post : Value → Kn → List Cells → Prop} (hc : CallsB P f vs B Ls Post)
    (h : ∀ v B' Ls', B.le B' → Post v B' Ls' → ∃ L', (Ls'.flatten ++ Lk.flatten).Perm L'.flatten ∧ K v D B' L') (hnd : isDefer o.op = false := by rfl) : opX P n ops i o K S D B L := ⟨hd, fun C todo k T ho hn hT hA => by
  refine C.X.step rfl fun w s => ?_
  obtain ⟨a, w', es, B', L', h1, h2, h3, rfl, rfl, rfl⟩ := hb_sound _ _ _ _ (hv (evT T) (fun x v hx => ev_evT hT hx) (fun nx B' L' => nx = .enter f vs.toArray ∧ B' = B ∧ L' = L.flatten ++ C.F) C.F ⟨rfl, rfl, rfl⟩) w #[] s
  simp only [Array.empty_append] at h1
  rw [st_oper hnd ho (guardOk_wanted hT hg)]
  have hk : (fat C.b T D (.inRegion ops (i :: todo) :: k)).kind ≠ .early := C.early
  refine ⟨_, w', _, B', L.flatten ++ C.F, apply_enter hk (by intro a b c d r; simp [fat]) h1, fun e he => h2 e (seen_mem he), h3, ?_⟩
  have hp' : (L.flatten ++ C.F).Perm (Ls.flatten ++ (Lk.flatten ++ C.F)) := by rw [← List.append_assoc]; exact hp.append_right _
  refine C.X.perm hp' (hc C.X .normal _ C.cs (Lk.flatten ++ C.F) (.inl rfl) fun v B₂ Ls' hle hq => ?_)
  obtain ⟨L₂, hp₂, hK⟩ := h v B₂ Ls' hle hq
  show C.X.R (G ((fat C.b T D (.inRegion ops (i :: todo) :: k)).finish v) C.cs) B₂ _
  rw [fat_finish ho]
  refine C.X.perm ?_ (hA v D B₂ L₂ hle hK)
  rw [← List.append_assoc]
  exact hp₂.append_right _⟩

theorem resolve_args {ρ : Operand → Value} (hρ : ∀ x u, ev S x = some u → ρ x = u) : ∀ {xs : List Operand} {vs : List Value}, evs S xs = some vs → xs.map ρ = vs
  | [], vs, hx => by simpa [evs] using hx
  | x :: r, vs, hx => by
    simp only [evs] at hx
    cases h1 : ev S x with
    | none => rw [h1] at hx; cases hx
    | some v =>
      cases h2 : evs S r with
      | none => rw [h1, h2] at hx; cases hx
      | some us =>
        rw [h1, h2] at hx
        simp only [Option.some.injEq] at hx
        subst hx
        simp [hρ x v h1, resolve_args hρ h2]

theorem call_sem {x : Operand} {f : FuncId} {first cap : Array Value} {xs : List Operand} {vs : List Value} {ats : Array TypeId} (he : enters P f = true) (hx : ev S x = some (.func (.func f) first cap)) (ha : evs S xs = some vs) :
    ∀ ρ : Operand → Value, (∀ x u, ev S x = some u → ρ x = u) → ∀ (Q : Next → Kn → Cells → Prop) F, Q (.enter f (first.toList ++ vs ++ cap.toList).toArray) B (L.flatten ++ F) → hb P (execOp ρ ⟨dst, .call ⟨.value x, xs.toArray, ats⟩, ty, pos, after, g⟩) Q B (L.flatten ++ F) := by
  intro ρ hρ Q F q
  simp only [execOp, resolve, hρ x _ hx, Deferred.ofValue, hb_bind, hb_pure, invoke]
  refine callFunc_hb he ?_
  rw [List.map_toArray, resolve_args hρ ha]
  have e : (first ++ vs.toArray) ++ cap = (first.toList ++ vs ++ cap.toList).toArray := by apply Array.ext'; simp
  rw [e]
  exact q

/-- A call of a Go function that is handed no owned segment. What it makes and hands over comes behind the caller's own. -/
theorem w_call {f : FuncId} {xs : List Operand} {vs : List Value} {ats : Array TypeId} {Post : Value → Kn → List Cells → Prop} (hg : guardOk ops S g = some true) (hd : dstOk n dst = true) (he : enters P f = true) (ha : evs S xs = some vs) (hc : CallsB P f vs B [] Post)
    (h : ∀ v B' Ls', B.le B' → Post v B' Ls' → K v D B' (L ++ Ls')) : opX P n ops i ⟨dst, .call ⟨.value (.func f), xs.toArray, ats⟩, ty, pos, after, g⟩ K S D B L :=
  opX_enter (o := ⟨dst, .call ⟨.value (.func f), xs.toArray, ats⟩, ty, pos, after, g⟩) (vs := vs) hg (fun ρ hρ Q F q => by
      have := call_sem (P := P) (B := B) (L := L) (dst := dst) (ty := ty) (pos := pos) (after := after) (g := g) (x := .func f) (first := #[]) (cap := #[]) (ats := ats) he rfl ha ρ hρ Q F
      exact this (by simpa using q)) hd (Ls := []) (Lk := L) (by simp) hc
    fun v B' Ls' hle hq => ⟨L ++ Ls', by simp only [List.flatten_append]; exact List.perm_append_comm, h v B' Ls' hle hq⟩

theorem pick_perm {L : List Cells} {j : Nat} {s : Cells} (hj : L[j]? = some s) : L.flatten.Perm ([s].flatten ++ (L.set j []).flatten) := by
  obtain ⟨r, h1, h2⟩ := set_perm [] [] hj
  simp only [List.append_nil, List.nil_append] at h1 h2
  simp only [List.flatten_cons, List.flatten_nil, List.append_nil]
  exact h1.trans (List.Perm.append_left s h2.symm)
theorem put_perm {L : List Cells} {j : Nat} {s s' : Cells} (hj : L[j]? = some s) : ([s'].flatten ++ (L.set j []).flatten).Perm (L.set j s').flatten := by
  obtain ⟨r, h1, h2⟩ := set_perm [] s' hj
  obtain ⟨r', h1', h2'⟩ := set_perm [] [] hj
  simp only [List.append_nil, List.nil_append] at h1 h2 h1' h2'
  simp only [List.flatten_cons, List.flatten_nil, List.append_nil]
  have : r.Perm r' := (List.perm_append_left_iff s).1 (h1.symm.trans h1')
  exact (List.Perm.append_left s' (h2'.trans this.symm)).trans h2.symm

/-- A call that is handed ONE owned segment, number j: it comes back in its place; what else is made comes behind. -/
theorem w_call1 {f : FuncId} {xs : List Operand} {vs : List Value} {ats : Array TypeId} {Post : Value → Kn → List Cells → Prop} (j : Nat) {s : Cells} (hj : L[j]? = some s) (hg : guardOk ops S g = some true) (hd : dstOk n dst = true) (he : enters P f = true) (ha : evs S xs = some vs) (hc : CallsB P f vs B [s] Post)
    (h : ∀ v B' Ls', B.le B' → Post v B' Ls' → ∃ s' r, Ls' = s' :: r ∧ K v D B' (L.set j s' ++ r)) : opX P n ops i ⟨dst, .call ⟨.value (.func f), xs.toArray, ats⟩, ty, pos, after, g⟩ K S D B L :=
  opX_enter (o := ⟨dst, .call ⟨.value (.func f), xs.toArray, ats⟩, ty, pos, after, g⟩) (vs := vs) hg (fun ρ hρ Q F q => by
      have := call_sem (P := P) (B := B) (L := L) (dst := dst) (ty := ty) (pos := pos) (after := after) (g := g) (x := .func f) (first := #[]) (cap := #[]) (ats := ats) he rfl ha ρ hρ Q F
      exact this (by simpa using q)) hd (Ls := [s]) (Lk := L.set j []) (pick_perm hj) hc
    fun v B' Ls' hle hq => by
      obtain ⟨s', r, rfl, hK⟩ := h v B' Ls' hle hq
      refine ⟨L.set j s' ++ r, ?_, hK⟩
      have e : (s' :: r).flatten ++ (L.set j []).flatten = s' ++ (r.flatten ++ (L.set j []).flatten) := by simp
      rw [e, List.flatten_append]
      refine (List.Perm.append_left s' List.perm_append_comm).trans ?_
      rw [← List.append_assoc]
      exact List.Perm.append_right _ (by simpa using put_perm (s' := s') hj)
end
end Go.BL

namespace Go.BL
/-- The commonest contract: it comes back with this value and leaves nothing. -/
def RetB (P : Program) (f : FuncId) (vs : List Value) (B : Kn) (v : Value) : Prop := CallsB P f vs B [] fun v' B' Ls => v' = v ∧ B' = B ∧ Ls = []
section
variable {P : Program} {n : Nat} {ops : Array Oper} {i : Nat} {K : PostV} {S : Env} {D : List Deferred} {B : Kn} {L : List Cells}
variable {dst : Option Tmp} {ty : TypeId} {pos : String} {after : Array Edge} {g : Option (Nat × Bool)}
theorem w_retB {f : FuncId} {xs : List Operand} {vs : List Value} {ats : Array TypeId} {v : Value} (hg : guardOk ops S g = some true) (hd : dstOk n dst = true) (he : enters P f = true) (ha : evs S xs = some vs) (hc : RetB P f vs B v)
    (h : K v D B L) : opX P n ops i ⟨dst, .call ⟨.value (.func f), xs.toArray, ats⟩, ty, pos, after, g⟩ K S D B L :=
  w_call hg hd he ha hc fun v' B' Ls' hle ⟨h1, h2, h3⟩ => by subst h1; subst h2; subst h3; rw [List.append_nil]; exact h
/-- A function's end: nothing owned is handed over. -/
theorem end0 {rs : List ResultVar} {Post : Value → Kn → List Cells → Prop} (e : Exit) (he : e = .ret ∨ e = .normal) (vs : List Value) (hr : resAll P S B L rs vs) (hp : Post (resVal vs) B []) : bodyQ P rs Post e S [] B L :=
  ⟨he, rfl, vs, [], hr, ⟨L.flatten, by simp⟩, hp⟩
end
theorem bool_eq {a b : Bool} (h : a = b) : Value.bool a = Value.bool b := by rw [h]
theorem int_eq {k : IntKind} {a b : Int} (h : a = b) : Value.int k a = Value.int k b := by rw [h]
theorem str_eq {a b : List UInt8} (h : a = b) : str a = str b := by rw [h]
theorem wrI64 {n : Int} (h1 : -9223372036854775808 ≤ n) (h2 : n ≤ 9223372036854775807) : IntKind.wrap .i64 n = n := IntWalk.i64_in n ⟨h1, h2⟩

/-- It is handed one owned segment and turns it into another. -/
def Upd1 (P : Program) (f : FuncId) (vs : List Value) (B : Kn) (s : Cells) (v : Value) (s' : Cells) : Prop := CallsB P f vs B [s] fun v' B' Ls => v' = v ∧ B' = B ∧ Ls = [s']
section
variable {P : Program} {n : Nat} {ops : Array Oper} {i : Nat} {K : PostV} {S : Env} {D : List Deferred} {B : Kn} {L : List Cells}
variable {dst : Option Tmp} {ty : TypeId} {pos : String} {after : Array Edge} {g : Option (Nat × Bool)}
theorem w_upd1 {f : FuncId} {xs : List Operand} {vs : List Value} {ats : Array TypeId} {v : Value} (j : Nat) {s s' : Cells} (hj : L[j]? = some s) (hg : guardOk ops S g = some true) (hd : dstOk n dst = true) (he : enters P f = true) (ha : evs S xs = some vs) (hc : Upd1 P f vs B s v s')
    (h : K v D B (L.set j s')) : opX P n ops i ⟨dst, .call ⟨.value (.func f), xs.toArray, ats⟩, ty, pos, after, g⟩ K S D B L :=
  w_call1 j hj hg hd he ha hc fun v' B' Ls' hle ⟨h1, h2, h3⟩ => by subst h1; subst h2; subst h3; exact ⟨s', [], rfl, by rw [List.append_nil]; exact h⟩
theorem set_self {L : List Cells} {j : Nat} {s : Cells} (hj : L[j]? = some s) : L.set j s = L := by
  apply List.ext_getElem?
  intro i
  rw [List.getElem?_set]
  split
  · rename_i h; subst h
    split
    · exact hj.symm
    · rename_i hlt; rw [List.getElem?_eq_none (by omega)]
  · rfl
theorem w_ret1 {f : FuncId} {xs : List Operand} {vs : List Value} {ats : Array TypeId} {v : Value} (j : Nat) {s : Cells} (hj : L[j]? = some s) (hg : guardOk ops S g = some true) (hd : dstOk n dst = true) (he : enters P f = true) (ha : evs S xs = some vs) (hc : Upd1 P f vs B s v s)
    (h : K v D B L) : opX P n ops i ⟨dst, .call ⟨.value (.func f), xs.toArray, ats⟩, ty, pos, after, g⟩ K S D B L :=
  w_upd1 j hj hg hd he ha hc (by rw [set_self hj]; exact h)
/-- A function's end: one segment is handed back, number j of those that it owns then. -/
theorem end1 {rs : List ResultVar} {Post : Value → Kn → List Cells → Prop} (e : Exit) (he : e = .ret ∨ e = .normal) (vs : List Value) (j : Nat) {s : Cells} (hj : L[j]? = some s) (hr : resAll P S B L rs vs) (hp : Post (resVal vs) B [s]) : bodyQ P rs Post e S [] B L :=
  ⟨he, rfl, vs, [s], hr, ⟨(L.set j []).flatten, pick_perm hj⟩, hp⟩
end
end Go.BL
