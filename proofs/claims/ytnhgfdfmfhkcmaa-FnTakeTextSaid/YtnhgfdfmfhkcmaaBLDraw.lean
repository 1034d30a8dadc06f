/-
  BL: a region that draws its order. An operation that yields its value wherever 'I' holds may be taken first; the others come in whatever order their edges allow.
-/
import Derived.Test.YtnhgfdfmfhkcmaaBLCalls
import Derived.Orders
namespace Go.BL
open Go.Conc (G)
set_option linter.unusedVariables false

def edgesIn (o : Oper) (ex : List Nat) : Prop := ∀ e, e ∈ o.after.toList → Region.binds .any e = true → e.on ∈ ex
/-- An order that the edges allow, behind what has been carried out. -/
inductive Sched (ops : Array Oper) : List Nat → List Nat → Prop
  | nil {ex : List Nat} : (∀ i, i < ops.size → i ∈ ex) → Sched ops ex []
  | cons {ex π : List Nat} {m : Nat} {o : Oper} : ops[m]? = some o → m ∉ ex → edgesIn o ex → Sched ops (m :: ex) π → Sched ops ex (m :: π)

def edgesDown (ops : Array Oper) : Bool := (List.range ops.size).all fun i => match ops[i]? with | some o => o.after.toList.all fun e => !Region.binds .any e || Nat.blt e.on i | none => true
theorem edgesDown_spec {ops : Array Oper} (h : edgesDown ops = true) {i : Nat} {o : Oper} (ho : ops[i]? = some o) : ∀ e, e ∈ o.after.toList → Region.binds .any e = true → e.on < i := by
  intro e he hb
  have h1 := List.all_eq_true.1 h i (List.mem_range.2 (lt_of_some ho))
  rw [ho] at h1
  have h2 := List.all_eq_true.1 h1 e he
  simpa [hb] using h2

def Rep (n : Nat) (listed : Array Bool) (ex : List Nat) : Prop := ∀ i, (listed.getD i true = false ↔ (i < n ∧ i ∉ ex)) ∧ (listed.getD i false = true ↔ (i < n ∧ i ∈ ex))
theorem Rep.set {n : Nat} {listed : Array Bool} {ex : List Nat} (h : Rep n listed ex) {m : Nat} (hm : m < n) : Rep n (listed.setIfInBounds m true) (m :: ex) := by
  intro i
  have hsz : listed.size = n := by
    rcases Nat.lt_trichotomy listed.size n with hl | hl | hl
    · have h1 := (h listed.size).1
      have h2 := (h listed.size).2
      rw [Array.getD_eq_getD_getElem?, Array.getElem?_eq_none (Nat.le_refl _)] at h1 h2
      simp only [Option.getD_none, Bool.true_eq_false, false_iff, Bool.false_eq_true] at h1 h2
      by_cases hx : listed.size ∈ ex
      · exact absurd ⟨hl, hx⟩ h2
      · exact absurd ⟨hl, hx⟩ h1
    · exact hl
    · have h1 := (h n).1
      have h2 := (h n).2
      rw [Array.getD_eq_getD_getElem?, Array.getElem?_eq_getElem hl] at h1 h2
      simp only [Option.getD_some] at h1 h2
      cases hb : listed[n] with
      | true => exact absurd (h2.1 hb).1 (Nat.lt_irrefl _)
      | false => exact absurd (h1.1 hb).1 (Nat.lt_irrefl _)
  by_cases hi : i = m
  · subst hi
    simp [Array.getD_eq_getD_getElem?, hsz, hm]
  · have e1 : (listed.setIfInBounds m true).getD i true = listed.getD i true := by
      rw [Array.getD_eq_getD_getElem?, Array.getD_eq_getD_getElem?, Array.getElem?_setIfInBounds, if_neg (Ne.symm hi)]
    have e2 : (listed.setIfInBounds m true).getD i false = listed.getD i false := by
      rw [Array.getD_eq_getD_getElem?, Array.getD_eq_getD_getElem?, Array.getElem?_setIfInBounds, if_neg (Ne.symm hi)]
    rw [e1, e2, (h i).1, (h i).2]
    simp [hi]

theorem exists_ready {ops : Array Oper} (hd : edgesDown ops = true) {ex : List Nat} (h : ∃ i, i < ops.size ∧ i ∉ ex) : ∃ i o, ops[i]? = some o ∧ i ∉ ex ∧ edgesIn o ex := by
  obtain ⟨i, hi, hx⟩ := h
  induction i using Nat.strongRecOn with
  | _ i ih =>
    by_cases he : edgesIn ops[i] ex
    · exact ⟨i, ops[i], by simp [hi], hx, he⟩
    · have : ∃ e, e ∈ ops[i].after.toList ∧ Region.binds .any e = true ∧ e.on ∉ ex := by
        apply Classical.byContradiction
        intro hno
        exact he fun e h1 h2 => Classical.byContradiction fun h3 => hno ⟨e, h1, h2, h3⟩
      obtain ⟨e, h1, h2, h3⟩ := this
      have hlt := edgesDown_spec hd (i := i) (o := ops[i]) (by simp [hi]) e h1 h2
      exact ih e.on hlt (by omega) h3

theorem sched_go {ops : Array Oper} (hd : edgesDown ops = true) : ∀ (fuel t : Nat) (listed : Array Bool) (ex : List Nat), Rep ops.size listed ex → ((List.range ops.size).filter (fun i => decide (i ∉ ex))).length ≤ fuel →
    Sched ops ex (Region.linearise.go .any ops fuel t listed []) := by
  intro fuel
  induction fuel with
  | zero =>
    intro t listed ex hr hc
    simp only [Region.linearise.go, List.reverse_nil]
    refine .nil fun i hi => ?_
    apply Classical.byContradiction
    intro hx
    have : i ∈ (List.range ops.size).filter (fun i => decide (i ∉ ex)) := List.mem_filter.2 ⟨List.mem_range.2 hi, by simpa using hx⟩
    have := List.length_pos_of_mem this
    omega
  | succ fuel ih =>
    intro t listed ex hr hc
    simp only [Region.linearise.go]
    have hmem : ∀ i, i ∈ Region.ready .any ops listed ↔ ∃ o, ops[i]? = some o ∧ i ∉ ex ∧ edgesIn o ex := by
      intro i
      rw [mem_ready]
      constructor
      · rintro ⟨h1, o, ho, h2⟩
        refine ⟨o, ho, ((hr i).1.1 h1).2, fun e he hb => ?_⟩
        exact ((hr e.on).2.1 (by simpa using h2 e (Array.mem_toList_iff.1 he) hb)).2
      · rintro ⟨o, ho, hx, h2⟩
        refine ⟨(hr i).1.2 ⟨lt_of_some ho, hx⟩, o, ho, fun e he hb => ?_⟩
        exact (hr e.on).2.2 ⟨Nat.lt_trans (edgesDown_spec hd ho e (Array.mem_toList_iff.2 he) hb) (lt_of_some ho), h2 e (Array.mem_toList_iff.2 he) hb⟩
    show Sched ops ex (match (Region.ready .any ops listed)[t % (Region.ready .any ops listed).length]? with
      | some i => Region.linearise.go .any ops fuel (t / (Region.ready .any ops listed).length) (listed.setIfInBounds i true) [i]
      | none => [])
    cases hg : (Region.ready .any ops listed)[t % (Region.ready .any ops listed).length]? with
    | none =>
      refine .nil fun i hi => ?_
      apply Classical.byContradiction
      intro hx
      obtain ⟨j, o, ho, hjx, he⟩ := exists_ready hd ⟨i, hi, hx⟩
      have hj := (hmem j).2 ⟨o, ho, hjx, he⟩
      have hpos := List.length_pos_of_mem hj
      have := List.getElem?_eq_none_iff.1 hg
      have := Nat.mod_lt t hpos
      omega
    | some i =>
      obtain ⟨o, ho, hx, he⟩ := (hmem i).1 (List.mem_of_getElem? hg)
      show Sched ops ex (Region.linearise.go .any ops fuel (t / (Region.ready .any ops listed).length) (listed.setIfInBounds i true) [i])
      rw [linearise_go_acc, List.reverse_singleton, List.singleton_append]
      refine .cons ho hx he (ih _ _ _ (hr.set (lt_of_some ho)) ?_)
      have hlt : ((List.range ops.size).filter (fun j => decide (j ∉ i :: ex))).length < ((List.range ops.size).filter (fun j => decide (j ∉ ex))).length := by
        have hsub : (List.range ops.size).filter (fun j => decide (j ∉ i :: ex)) = ((List.range ops.size).filter (fun j => decide (j ∉ ex))).filter (fun j => decide (j ≠ i)) := by
          rw [List.filter_filter]
          apply List.filter_congr
          intro j _
          simp only [List.mem_cons, not_or, ne_eq, Bool.decide_and]
        rw [hsub]
        have hi : i ∈ (List.range ops.size).filter (fun j => decide (j ∉ ex)) := List.mem_filter.2 ⟨List.mem_range.2 (lt_of_some ho), by simpa using hx⟩
        exact List.length_filter_lt_length_iff_exists.2 ⟨i, hi, by simp⟩
      omega

theorem sched_of {P : Program} {ops : Array Oper} (hm : P.follows .mixedOrders = true) (hd : edgesDown ops = true) (t : Nat) : Sched ops [] (Region.schedule (P.follows .mixedOrders) ops t) := by
  have : Region.schedule (P.follows .mixedOrders) ops t = Region.linearise.go .any ops ops.size t (Array.replicate ops.size false) [] := by
    simp [Region.schedule, hm, Region.linearise]
  rw [this]
  refine sched_go hd _ _ _ _ (fun i => ?_) ?_
  · simp only [Array.getD_eq_getD_getElem?, Array.getElem?_replicate]
    by_cases h : i < ops.size <;> simp [h]
  · exact Nat.le_trans (List.length_filter_le _ _) (by simp)

/-! ### what an operation looks at -/
def conf (ops : Array Oper) (x y : Oper) : Bool := (match x.dst with | some d => (y.looksAt ops).contains d || y.dst == some d | none => false) || (match y.dst with | some d => (x.looksAt ops).contains d | none => false)
def hasEdge (x : Oper) (j : Nat) : Bool := x.after.toList.any fun e => Region.binds .any e && e.on == j
/-- Of two operations that touch one temporary one waits for the other. -/
def orderly (ops : Array Oper) : Bool := (List.range ops.size).all fun i => (List.range ops.size).all fun j => match ops[i]?, ops[j]? with | some x, some y => i == j || !conf ops x y || hasEdge x j || hasEdge y i | _, _ => true
theorem orderly_spec {ops : Array Oper} (h : orderly ops = true) {i j : Nat} {x y : Oper} (hi : ops[i]? = some x) (hj : ops[j]? = some y) (hne : i ≠ j) (hc : conf ops x y = true) : hasEdge x j = true ∨ hasEdge y i = true := by
  have h1 := List.all_eq_true.1 h i (List.mem_range.2 (lt_of_some hi))
  have h2 := List.all_eq_true.1 h1 j (List.mem_range.2 (lt_of_some hj))
  rw [hi, hj] at h2
  simpa [hne, hc] using h2
theorem hasEdge_in {o : Oper} {j : Nat} {ex : List Nat} (h : hasEdge o j = true) (he : edgesIn o ex) : j ∈ ex := by
  obtain ⟨e, h1, h2⟩ := List.any_eq_true.1 h
  simp only [Bool.and_eq_true, beq_iff_eq] at h2
  exact h2.2 ▸ he e h1 h2.1

def sel : List Nat → Env → Env
  | [], _ => []
  | k :: ks, S => match get S k with
    | some v => (k, v) :: sel ks S
    | none => sel ks S
theorem sel_get : ∀ {ks : List Nat} {S : Env} {i : Nat} {v : Value}, get (sel ks S) i = some v → i ∈ ks ∧ get S i = some v
  | [], S, i, v, h => by cases h
  | k :: ks, S, i, v, h => by
    simp only [sel] at h
    cases hk : get S k with
    | none =>
      rw [hk] at h
      obtain ⟨h1, h2⟩ := sel_get h
      exact ⟨List.mem_cons_of_mem _ h1, h2⟩
    | some u =>
      rw [hk] at h
      simp only [get] at h
      cases hb : Nat.beq k i with
      | true =>
        rw [hb] at h
        have := Nat.eq_of_beq_eq_true hb
        subst this
        simp only [cond_true, Option.some.injEq] at h
        subst h
        exact ⟨List.mem_cons_self .., hk⟩
      | false =>
        rw [hb] at h
        obtain ⟨h1, h2⟩ := sel_get h
        exact ⟨List.mem_cons_of_mem _ h1, h2⟩

structure Pd where
  i : Nat
  o : Oper
  v : Value
  ρ : Env
def puts : List Pd → Array Value → Array Value
  | [], T => T
  | p :: r, T => puts r (putT T p.o.dst p.v)
def PendAg : List Pd → Array Value → Prop
  | [], _ => True
  | p :: r, T => Ag T p.ρ ∧ PendAg r (putT T p.o.dst p.v)
theorem puts_size : ∀ (pend : List Pd) (T : Array Value), (puts pend T).size = T.size
  | [], T => rfl
  | p :: r, T => by rw [puts, puts_size r, putT_size]

theorem putT_comm {T : Array Value} {x y : Option Tmp} {u v : Value} (h : ∀ d, x = some d → y ≠ some d) : putT (putT T x u) y v = putT (putT T y v) x u := by
  cases x with
  | none => rfl
  | some d =>
    cases y with
    | none => rfl
    | some c =>
      have : d ≠ c := fun e => h d rfl (by rw [e])
      simp only [putT]
      rw [Array.setIfInBounds_comm _ _ this]
theorem agPutOther {T : Array Value} {S : Env} {ks : List Nat} (hs : ∀ i v, get S i = some v → i ∈ ks) {x : Option Tmp} {u : Value} (hx : ∀ d, x = some d → d ∉ ks) : Ag (putT T x u) S ↔ Ag T S := by
  cases x with
  | none => exact Iff.rfl
  | some d =>
    refine forall_congr' fun i => forall_congr' fun v => imp_congr_right fun h => ?_
    have : d ≠ i := fun e => hx d rfl (e ▸ hs i v h)
    simp only [putT, Array.getElem?_setIfInBounds, if_neg this]

theorem conf_false {ops : Array Oper} {x y : Oper} (h : conf ops x y = false) : (∀ d, x.dst = some d → d ∉ y.looksAt ops) ∧ (∀ d, x.dst = some d → y.dst ≠ some d) ∧ (∀ d, y.dst = some d → d ∉ x.looksAt ops) := by
  unfold conf at h
  rw [Bool.or_eq_false_iff] at h
  obtain ⟨h1, h2⟩ := h
  refine ⟨fun d hd hm => ?_, fun d hd hm => ?_, fun d hd hm => ?_⟩
  · rw [hd] at h1; simp [hm] at h1
  · rw [hd] at h1; simp [hm] at h1
  · rw [hd] at h2; simp [hm] at h2

def inDom (ops : Array Oper) (p : Pd) : Prop := ∀ i v, get p.ρ i = some v → i ∈ p.o.looksAt ops

/-- One that is pending is carried out, ahead of others that it does not touch. -/
theorem pend_mid {ops : Array Oper} {p : Pd} (hp : inDom ops p) : ∀ (p1 p2 : List Pd) (T : Array Value), (∀ q, q ∈ p1 → conf ops q.o p.o = false ∧ inDom ops q) → PendAg (p1 ++ p :: p2) T →
    Ag T p.ρ ∧ puts (p1 ++ p2) (putT T p.o.dst p.v) = puts (p1 ++ p :: p2) T ∧ PendAg (p1 ++ p2) (putT T p.o.dst p.v)
  | [], p2, T, _, h => ⟨h.1, rfl, h.2⟩
  | q :: r, p2, T, hc, h => by
    obtain ⟨hq, hqd⟩ := hc q (List.mem_cons_self ..)
    obtain ⟨c1, c2, c3⟩ := conf_false hq
    obtain ⟨h1, h2, h3⟩ := pend_mid hp r p2 _ (fun q' hq' => hc q' (List.mem_cons_of_mem _ hq')) h.2
    refine ⟨(agPutOther hp c1).1 h1, ?_, ?_, ?_⟩
    · simp only [List.cons_append, puts]
      rw [← h2, putT_comm c2]
    · exact (agPutOther hqd c3).2 h.1
    · rw [← putT_comm c2]; exact h3

theorem pend_loud {ops : Array Oper} {o : Oper} {v : Value} : ∀ (pend : List Pd) (T : Array Value), (∀ q, q ∈ pend → conf ops q.o o = false ∧ inDom ops q) → PendAg pend T →
    puts pend (putT T o.dst v) = putT (puts pend T) o.dst v ∧ PendAg pend (putT T o.dst v) ∧ ∀ i, i ∈ o.looksAt ops → (puts pend T)[i]? = T[i]?
  | [], T, _, _ => ⟨rfl, trivial, fun _ _ => rfl⟩
  | q :: r, T, hc, h => by
    obtain ⟨hq, hqd⟩ := hc q (List.mem_cons_self ..)
    obtain ⟨c1, c2, c3⟩ := conf_false hq
    obtain ⟨h1, h2, h3⟩ := pend_loud r (putT T q.o.dst q.v) (fun q' hq' => hc q' (List.mem_cons_of_mem _ hq')) h.2
    refine ⟨?_, ⟨(agPutOther hqd c3).2 h.1, ?_⟩, fun i hi => ?_⟩
    · simp only [puts]; rw [← putT_comm c2]; exact h1
    · rw [← putT_comm c2]; exact h2
    · simp only [puts]
      rw [h3 i hi]
      cases hd : q.o.dst with
      | none => rfl
      | some d =>
        have : d ≠ i := fun e => c1 d hd (e ▸ hi)
        simp only [putT, Array.getElem?_setIfInBounds, if_neg this]

theorem pend_snoc : ∀ (pend : List Pd) (p : Pd) (T : Array Value), puts (pend ++ [p]) T = putT (puts pend T) p.o.dst p.v ∧ (PendAg (pend ++ [p]) T ↔ PendAg pend T ∧ Ag (puts pend T) p.ρ)
  | [], p, T => ⟨rfl, by simp [PendAg, puts]⟩
  | q :: r, p, T => by
    obtain ⟨h1, h2⟩ := pend_snoc r p (putT T q.o.dst q.v)
    refine ⟨h1, ?_⟩
    simp only [List.cons_append, PendAg, puts, h2, and_assoc]

/-- It yields v and leaves all as it is, wherever I holds. -/
def quiet (P : Program) (n : Nat) (ops : Array Oper) (I : Kn → List Cells → Prop) (i : Nat) (o : Oper) (v : Value) (ρ : Env) : Prop :=
  ∀ D B L, I B L → opX P n ops i o (fun v' D' B' L' => v' = v ∧ D' = D ∧ B' = B ∧ L' = L) ρ D B L

/-- It looks at no memory. -/
def isPure (o : Oper) : Bool := match o.op with | .extract _ _ => true | .move _ => true | .assign _ => true | _ => false
structure PdOk (P : Program) (n : Nat) (ops : Array Oper) (I : Kn → List Cells → Prop) (ℓ ex : List Nat) (p : Pd) : Prop where
  at_ : ops[p.i]? = some p.o
  notEx : p.i ∉ ex
  listed : p.i ∈ ℓ
  edges : edgesIn p.o ℓ
  dom : inDom ops p
  quiet : quiet P n ops I p.i p.o p.v p.ρ
  pure : isPure p.o = true → Go.BL.quiet P n ops (fun _ _ => True) p.i p.o p.v p.ρ
/-- Nobody waits for one that was taken behind it. -/
def Ordered : List Pd → Prop
  | [] => True
  | q :: r => (∀ p, p ∈ r → hasEdge q.o p.i = false ∧ q.i ≠ p.i) ∧ Ordered r
theorem orderedMid : ∀ {p1 : List Pd} {p : Pd} {p2 : List Pd}, Ordered (p1 ++ p :: p2) → (∀ q, q ∈ p1 → hasEdge q.o p.i = false ∧ q.i ≠ p.i) ∧ (∀ q, q ∈ p2 → p.i ≠ q.i) ∧ Ordered (p1 ++ p2)
  | [], p, p2, h => ⟨(fun q hq => by cases hq), fun q hq => (h.1 q hq).2, h.2⟩
  | r :: p1, p, p2, h => by
    obtain ⟨h1, h2, h3⟩ := orderedMid h.2
    refine ⟨fun q hq => ?_, h2, fun q hq => h.1 q ?_, h3⟩
    · rcases List.mem_cons.1 hq with rfl | hq
      · exact h.1 p (List.mem_append.2 (.inr (List.mem_cons_self ..)))
      · exact h1 q hq
    · rcases List.mem_append.1 hq with hq | hq
      · exact List.mem_append.2 (.inl hq)
      · exact List.mem_append.2 (.inr (List.mem_cons_of_mem _ hq))
theorem orderedSnoc : ∀ {pend : List Pd} {p : Pd}, Ordered pend → (∀ q, q ∈ pend → hasEdge q.o p.i = false ∧ q.i ≠ p.i) → Ordered (pend ++ [p])
  | [], p, _, _ => ⟨(fun q hq => by cases hq), trivial⟩
  | r :: pend, p, h, hp => by
    refine ⟨fun q hq => ?_, orderedSnoc h.2 fun q hq => hp q (List.mem_cons_of_mem _ hq)⟩
    rcases List.mem_append.1 hq with hq | hq
    · exact h.1 q hq
    · rw [List.mem_singleton.1 hq]; exact hp r (List.mem_cons_self ..)

/-- Of what has been carried out all that it waited for has been, too. -/
def Closed (ops : Array Oper) (ex : List Nat) : Prop := ∀ i, i ∈ ex → ∀ o, ops[i]? = some o → edgesIn o ex
theorem Closed.cons {ops : Array Oper} {ex : List Nat} {m : Nat} {o : Oper} (h : Closed ops ex) (hm : ops[m]? = some o) (he : edgesIn o ex) : Closed ops (m :: ex) := fun i hi o' ho' e h1 h2 => by
  rcases List.mem_cons.1 hi with rfl | hi
  · rw [hm] at ho'; cases ho'; exact List.mem_cons_of_mem _ (he e h1 h2)
  · exact List.mem_cons_of_mem _ (h i hi o' ho' e h1 h2)
/-- WHATEVER ORDER COMES from here on; 'ℓ': what has been walked. -/
def AnyW (P : Program) (n : Nat) (ops : Array Oper) (I : Kn → List Cells → Prop) (ℓ : List Nat) (K : Post4) : Post4 := fun S D B L =>
  ∀ (C : Cx P) (k : List Item) (T : Array Value) (ex : List Nat) (pend : List Pd) (π : List Nat), Sched ops ex π → Closed ops ex → (∀ i, i ∈ ex → i ∈ ℓ) → (∀ i, i ∈ ℓ → i ∈ ex ∨ ∃ p, p ∈ pend ∧ p.i = i) →
    (∀ p, p ∈ pend → PdOk P n ops I ℓ ex p) → Ordered pend → T.size = n → PendAg pend T → Ag (puts pend T) S → I B L →
    (∀ S' D' B' L' T', B.le B' → K S' D' B' L' → T'.size = n → Ag T' S' → C.X.R (G (fat C.b T' D' (.inRegion ops [] :: k)) C.cs) B' (L'.flatten ++ C.F)) →
    C.X.R (G (fat C.b T D (.inRegion ops π :: k)) C.cs) B (L.flatten ++ C.F)

section
variable {P : Program} {n : Nat} {ops : Array Oper} {I : Kn → List Cells → Prop} {ℓ : List Nat} {K : Post4} {S : Env} {D : List Deferred} {B : Kn} {L : List Cells}

/-- The pending ones come up when they come up; at each other the walk is asked. -/
theorem any_core (ho : orderly ops = true)
    (hdone : (∀ i, i < ops.size → i ∈ ℓ) → K S D B L)
    (hloud : ∀ m o, ops[m]? = some o → m ∉ ℓ → edgesIn o ℓ → opX P n ops m o (fun v D' B' L' => I B' L' ∧ AnyW P n ops I (m :: ℓ) K (putS S o.dst v) D' B' L') (sel (o.looksAt ops) S) D B L) : AnyW P n ops I ℓ K S D B L := by
  intro C k T ex pend π hs
  induction hs generalizing T pend with
  | @nil ex hall =>
    intro hcl hsub hcov hpd hord hn hpa hag hI hA
    have hp0 : pend = [] := by
      cases pend with
      | nil => rfl
      | cons p r => exact absurd (hall p.i (lt_of_some (hpd p (List.mem_cons_self ..)).at_)) (hpd p (List.mem_cons_self ..)).notEx
    subst hp0
    exact hA S D B L T (Kn.le.refl B) (hdone fun i hi => hsub i (hall i hi)) hn hag
  | @cons ex π m o hm hx he hs ih =>
    intro hcl hsub hcov hpd hord hn hpa hag hI hA
    have hcl' := hcl.cons hm he
    by_cases hml : m ∈ ℓ
    · rcases hcov m hml with h | ⟨p, hp, rfl⟩
      · exact absurd h hx
      · obtain ⟨p1, p2, rfl⟩ := List.append_of_mem hp
        have hpk := hpd p hp
        have hpo : p.o = o := by have := hpk.at_; rw [hm] at this; exact (Option.some.inj this).symm
        obtain ⟨o1, o2, o3⟩ := orderedMid hord
        have hconf : ∀ q, q ∈ p1 → conf ops q.o p.o = false ∧ inDom ops q := fun q hq => by
          have hqk := hpd q (List.mem_append.2 (.inl hq))
          refine ⟨?_, hqk.dom⟩
          cases hc : conf ops q.o p.o with
          | false => rfl
          | true =>
            rcases orderly_spec ho hqk.at_ hpk.at_ (o1 q hq).2 hc with h | h
            · rw [(o1 q hq).1] at h; cases h
            · exact absurd (hasEdge_in h (hpo ▸ he)) hqk.notEx
        obtain ⟨a1, a2, a3⟩ := pend_mid hpk.dom p1 p2 T hconf hpa
        refine (hpk.quiet D B L hI).2 C π k T hpk.at_ hn a1 ?_
        rintro v D' B' L' hle ⟨rfl, rfl, rfl, rfl⟩
        refine ih _ (p1 ++ p2) hcl' (fun i hi => ?_) (fun i hi => ?_) (fun q hq => ?_) o3 (by rw [putT_size, hn]) a3 (by rw [a2]; exact hag) hI hA
        · rcases List.mem_cons.1 hi with rfl | hi
          · exact hml
          · exact hsub i hi
        · rcases hcov i hi with h | ⟨q, hq, rfl⟩
          · exact .inl (List.mem_cons_of_mem _ h)
          · rcases List.mem_append.1 hq with hq | hq
            · exact .inr ⟨q, List.mem_append.2 (.inl hq), rfl⟩
            · rcases List.mem_cons.1 hq with rfl | hq
              · exact .inl (List.mem_cons_self ..)
              · exact .inr ⟨q, List.mem_append.2 (.inr hq), rfl⟩
        · have hq' : q ∈ p1 ++ p :: p2 := by
            rcases List.mem_append.1 hq with hq | hq
            · exact List.mem_append.2 (.inl hq)
            · exact List.mem_append.2 (.inr (List.mem_cons_of_mem _ hq))
          have hqk := hpd q hq'
          refine ⟨hqk.at_, fun hmem => ?_, hqk.listed, hqk.edges, hqk.dom, hqk.quiet, hqk.pure⟩
          rcases List.mem_cons.1 hmem with h | h
          · rcases List.mem_append.1 hq with hq | hq
            · exact (o1 q hq).2 h
            · exact o2 q hq h.symm
          · exact hqk.notEx h
    · have hel : edgesIn o ℓ := fun e h1 h2 => hsub _ (he e h1 h2)
      have hconf : ∀ q, q ∈ pend → conf ops q.o o = false ∧ inDom ops q := fun q hq => by
        have hqk := hpd q hq
        refine ⟨?_, hqk.dom⟩
        cases hc : conf ops q.o o with
        | false => rfl
        | true =>
          rcases orderly_spec ho hqk.at_ hm (fun e => hml (e ▸ hqk.listed)) hc with h | h
          · exact absurd (hasEdge_in h hqk.edges) hml
          · exact absurd (hasEdge_in h he) hqk.notEx
      have hsel : Ag T (sel (o.looksAt ops) S) := fun i v hv => by
        obtain ⟨h1, h2⟩ := sel_get hv
        rw [← (pend_loud (o := o) (v := undef) pend T hconf hpa).2.2 i h1]
        exact hag i v h2
      have hX := hloud m o hm hml hel
      refine hX.2 C π k T hm hn hsel ?_
      rintro v D' B' L' hle ⟨hI', hAny⟩
      obtain ⟨b1, b2, _⟩ := pend_loud (o := o) (v := v) pend T hconf hpa
      refine hAny C k _ (m :: ex) pend π hs hcl' (fun i hi => ?_) (fun i hi => ?_) (fun q hq => ?_) hord (by rw [putT_size, hn]) b2 (by rw [b1]; exact hag.putT (by rw [puts_size, hn]) hX.1 v) hI' fun S₂ D₂ B₂ L₂ T₂ hle₂ => hA S₂ D₂ B₂ L₂ T₂ (hle.trans hle₂)
      · rcases List.mem_cons.1 hi with rfl | hi
        · exact List.mem_cons_self ..
        · exact List.mem_cons_of_mem _ (hsub i hi)
      · rcases List.mem_cons.1 hi with rfl | hi
        · exact .inl (List.mem_cons_self ..)
        · exact (hcov i hi).imp (List.mem_cons_of_mem _) id
      · have hqk := hpd q hq
        refine ⟨hqk.at_, fun hmem => ?_, List.mem_cons_of_mem _ hqk.listed, fun e h1 h2 => List.mem_cons_of_mem _ (hqk.edges e h1 h2), hqk.dom, hqk.quiet, hqk.pure⟩
        rcases List.mem_cons.1 hmem with h | h
        · exact hml (h ▸ hqk.listed)
        · exact hqk.notEx h

def allListed (ops : Array Oper) (ℓ : List Nat) : Bool := (List.range ops.size).all fun i => ℓ.contains i
theorem any_done (ho : orderly ops = true) (ha : allListed ops ℓ = true) (h : K S D B L) : AnyW P n ops I ℓ K S D B L :=
  any_core ho (fun _ => h) fun m o hm hml _ => by
    have := List.all_eq_true.1 ha m (List.mem_range.2 (lt_of_some hm))
    exact absurd (by simpa using this) hml

def readyL (ops : Array Oper) (ℓ : List Nat) : List Nat := (List.range ops.size).filter fun i => !ℓ.contains i && (match ops[i]? with | some o => o.after.toList.all fun e => !Region.binds .any e || ℓ.contains e.on | none => false)
theorem mem_readyL {m : Nat} {o : Oper} (hm : ops[m]? = some o) (hx : m ∉ ℓ) (he : edgesIn o ℓ) : m ∈ readyL ops ℓ := by
  refine List.mem_filter.2 ⟨List.mem_range.2 (lt_of_some hm), ?_⟩
  simp only [hm, Bool.and_eq_true, Bool.not_eq_true', List.all_eq_true, Bool.or_eq_true]
  refine ⟨by simpa using hx, fun e h1 => ?_⟩
  cases hb : Region.binds .any e with
  | false => exact .inl rfl
  | true => exact .inr (by simpa using he e h1 hb)
def eachOf : List Nat → (Nat → Prop) → Prop
  | [], _ => True
  | [m], F => F m
  | m :: r, F => F m ∧ eachOf r F
theorem eachOf_mem {F : Nat → Prop} : ∀ {rs : List Nat}, eachOf rs F → ∀ m, m ∈ rs → F m
  | [m], h, x, hx => by rw [List.mem_singleton.1 hx]; exact h
  | m :: m' :: r, h, x, hx => by
    rcases List.mem_cons.1 hx with rfl | hx
    · exact h.1
    · exact eachOf_mem h.2 x hx
/-- Whichever of those that may come up comes up. -/
theorem any_all (rs : List Nat) (ho : orderly ops = true) (hr : readyL ops ℓ = rs) (hne : allListed ops ℓ = false)
    (h : eachOf rs fun m => match ops[m]? with
      | some o => opX P n ops m o (fun v D' B' L' => I B' L' ∧ AnyW P n ops I (m :: ℓ) K (putS S o.dst v) D' B' L') (sel (o.looksAt ops) S) D B L
      | none => True) : AnyW P n ops I ℓ K S D B L :=
  any_core ho (fun hall => by
      have : allListed ops ℓ = true := List.all_eq_true.2 fun i hi => by simpa using hall i (List.mem_range.1 hi)
      rw [this] at hne; cases hne)
    fun m o hm hml he => by
      have := eachOf_mem h m (hr ▸ mem_readyL hm hml he)
      rw [hm] at this
      exact this
/-- Number i is taken first: it yields v wherever I holds. -/
theorem any_takeG (i : Nat) {o : Oper} {v : Value} (hi : ops[i]? = some o) (hr : (readyL ops ℓ).contains i = true) (hd : dstOk n o.dst = true) (hq : quiet P n ops I i o v (sel (o.looksAt ops) S)) (hpu : isPure o = true → quiet P n ops (fun _ _ => True) i o v (sel (o.looksAt ops) S))
    (h : AnyW P n ops I (i :: ℓ) K (putS S o.dst v) D B L) : AnyW P n ops I ℓ K S D B L := by
  intro C k T ex pend π hs hcl hsub hcov hpd hord hn hpa hag hI hA
  have hrm : i ∈ readyL ops ℓ := by simpa using hr
  have hr2 := (List.mem_filter.1 hrm).2
  simp only [hi, Bool.and_eq_true, Bool.not_eq_true', List.all_eq_true, Bool.or_eq_true] at hr2
  obtain ⟨r1, r2⟩ := hr2
  have hil : i ∉ ℓ := by simpa using r1
  have hel : edgesIn o ℓ := fun e h1 h2 => by
    rcases r2 e h1 with h | h
    · rw [h2] at h; cases h
    · simpa using h
  let p : Pd := ⟨i, o, v, sel (o.looksAt ops) S⟩
  have hρ : Ag (puts pend T) p.ρ := fun j u hu => hag j u (sel_get hu).2
  obtain ⟨s1, s2⟩ := pend_snoc pend p T
  refine h C k T ex (pend ++ [p]) π hs hcl (fun j hj => List.mem_cons_of_mem _ (hsub j hj)) (fun j hj => ?_) (fun q hq' => ?_) (orderedSnoc hord fun q hq' => ?_) hn (s2.2 ⟨hpa, hρ⟩) (by rw [s1]; exact hag.putT (by rw [puts_size, hn]) hd v) hI hA
  · rcases List.mem_cons.1 hj with rfl | hj
    · exact .inr ⟨p, by simp, rfl⟩
    · rcases hcov j hj with h | ⟨q, hq, he⟩
      · exact .inl h
      · exact .inr ⟨q, List.mem_append.2 (.inl hq), he⟩
  · rcases List.mem_append.1 hq' with hq' | hq'
    · have hqk := hpd q hq'
      exact ⟨hqk.at_, hqk.notEx, List.mem_cons_of_mem _ hqk.listed, fun e h1 h2 => List.mem_cons_of_mem _ (hqk.edges e h1 h2), hqk.dom, hqk.quiet, hqk.pure⟩
    · rw [List.mem_singleton.1 hq']
      exact ⟨hi, fun hx => hil (hsub i hx), List.mem_cons_self .., fun e h1 h2 => List.mem_cons_of_mem _ (hel e h1 h2), fun j u hu => (sel_get hu).1, hq, hpu⟩
  · have hqk := hpd q hq'
    refine ⟨?_, fun e => hil (by have e' : q.i = i := e; rw [← e']; exact hqk.listed)⟩
    show hasEdge q.o i = false
    cases hb : hasEdge q.o i with
    | false => rfl
    | true => exact absurd (hasEdge_in hb hqk.edges) hil

theorem any_take (i : Nat) {o : Oper} {v : Value} (hi : ops[i]? = some o) (hr : (readyL ops ℓ).contains i = true) (hd : dstOk n o.dst = true) (hq : quiet P n ops I i o v (sel (o.looksAt ops) S)) (h : AnyW P n ops I (i :: ℓ) K (putS S o.dst v) D B L) (hp : isPure o = false := by rfl) : AnyW P n ops I ℓ K S D B L :=
  any_takeG i hi hr hd hq (fun e => by rw [hp] at e; cases e) h
/-- .. one that looks at no memory. -/
theorem any_takeP (i : Nat) {o : Oper} {v : Value} (hi : ops[i]? = some o) (hr : (readyL ops ℓ).contains i = true) (hd : dstOk n o.dst = true) (hq : ∀ D B L, opX P n ops i o (fun v' D' B' L' => v' = v ∧ D' = D ∧ B' = B ∧ L' = L) (sel (o.looksAt ops) S) D B L)
    (h : AnyW P n ops I (i :: ℓ) K (putS S o.dst v) D B L) : AnyW P n ops I ℓ K S D B L :=
  any_takeG i hi hr hd (fun D B L _ => hq D B L) (fun _ D B L _ => hq D B L) h
/-- It alone may come up. -/
theorem any_one (i : Nat) {o : Oper} (ho : orderly ops = true) (hi : ops[i]? = some o) (hr : readyL ops ℓ = [i])
    (h : opX P n ops i o (fun v D' B' L' => I B' L' ∧ AnyW P n ops I (i :: ℓ) K (putS S o.dst v) D' B' L') (sel (o.looksAt ops) S) D B L) : AnyW P n ops I ℓ K S D B L :=
  any_core ho (fun hall => by
      have hm : i ∈ readyL ops ℓ := by rw [hr]; exact List.mem_singleton.2 rfl
      have h2 := (List.mem_filter.1 hm).2
      have h3 := hall i (lt_of_some hi)
      simp [h3] at h2)
    fun m o' hm hml he => by
      have h1 := mem_readyL hm hml he
      rw [hr, List.mem_singleton] at h1
      subst h1
      rw [hi] at hm; cases hm
      exact h
/-- All that one waits for, in so many steps. -/
def waits (ops : Array Oper) : Nat → List Nat → List Nat
  | 0, w => w
  | k + 1, w => waits ops k (w ++ (w.flatMap fun i => match ops[i]? with | some o => (o.after.toList.filter fun e => Region.binds .any e).map (·.on) | none => []).eraseDups.filter fun j => !w.contains j)
theorem waits_in {ops : Array Oper} {ex : List Nat} (hc : Closed ops ex) : ∀ (k : Nat) (w : List Nat), (∀ i, i ∈ w → i ∈ ex) → ∀ i, i ∈ waits ops k w → i ∈ ex
  | 0, w, h, i, hi => h i hi
  | k + 1, w, h, i, hi => by
    refine waits_in hc k _ (fun j hj => ?_) i hi
    rcases List.mem_append.1 hj with hj | hj
    · exact h j hj
    · have h1 := (List.mem_filter.1 hj).1
      rw [List.mem_eraseDups] at h1
      obtain ⟨x, hx, hj2⟩ := List.mem_flatMap.1 h1
      split at hj2
      · rename_i o ho
        obtain ⟨e, he, rfl⟩ := List.mem_map.1 hj2
        obtain ⟨he1, he2⟩ := List.mem_filter.1 he
        exact hc x (h x hx) o ho e he1 he2
      · cases hj2
def firstWaits (o : Oper) : List Nat := (o.after.toList.filter fun e => Region.binds .any e).map (·.on)
/-- The last one, for which all others have been waited. -/
def isLast (ops : Array Oper) (m : Nat) (o : Oper) : Bool := (List.range ops.size).all fun i => Nat.beq i m || (waits ops 12 (firstWaits o)).contains i
theorem any_fin (m : Nat) {o : Oper} (ho : orderly ops = true) (hm : ops[m]? = some o) (hl : isLast ops m o = true) (hml : ℓ.contains m = false) (hall : allListed ops (m :: ℓ) = true)
    (h : opX P n ops m o (fun v D' B' L' => K (putS S o.dst v) D' B' L') (sel (o.looksAt ops) S) D B L) : AnyW P n ops I ℓ K S D B L := by
  have hml' : m ∉ ℓ := by simpa using hml
  have hall' : ∀ i, i < ops.size → i = m ∨ i ∈ ℓ := fun i hi => by
    have := List.all_eq_true.1 hall i (List.mem_range.2 hi)
    simpa using this
  intro C k T ex pend π hs
  induction hs generalizing T pend with
  | @nil ex hex =>
    intro hcl hsub hcov hpd hord hn hpa hag hI hA
    exact absurd (hsub m (hex m (lt_of_some hm))) hml'
  | @cons ex π m' o' hm' hx he hs ih =>
    intro hcl hsub hcov hpd hord hn hpa hag hI hA
    have hcl' := hcl.cons hm' he
    by_cases hmm : m' = m
    · subst hmm
      rw [hm] at hm'; cases hm'
      have hexall : ∀ i, i < ops.size → i ≠ m' → i ∈ ex := fun i hi hne => by
        have h1 := List.all_eq_true.1 hl i (List.mem_range.2 hi)
        have h2 : i ∈ waits ops 12 (firstWaits o) := by
          rcases Bool.or_eq_true_iff.1 h1 with h1 | h1
          · exact absurd (Nat.eq_of_beq_eq_true h1) hne
          · simpa using h1
        refine waits_in hcl 12 _ (fun j hj => ?_) i h2
        obtain ⟨e, he1, rfl⟩ := List.mem_map.1 hj
        obtain ⟨h3, h4⟩ := List.mem_filter.1 he1
        exact he e h3 h4
      have hp0 : pend = [] := by
        cases pend with
        | nil => rfl
        | cons p r =>
          have hpk := hpd p (List.mem_cons_self ..)
          by_cases hpm : p.i = m'
          · exact absurd (hpm ▸ hpk.listed) hml'
          · exact absurd (hexall p.i (lt_of_some hpk.at_) hpm) hpk.notEx
      subst hp0
      have hπ : π = [] := by
        cases hs with
        | nil _ => rfl
        | @cons _ π' m2 o2 h2 hx2 he2 hs2 =>
          exfalso
          by_cases e : m2 = m'
          · exact hx2 (e ▸ List.mem_cons_self ..)
          · exact hx2 (List.mem_cons_of_mem _ (hexall m2 (lt_of_some h2) e))
      subst hπ
      have hsel : Ag T (sel (o.looksAt ops) S) := fun i v hv => hag i v (sel_get hv).2
      refine h.2 C [] k T hm hn hsel fun v D' B' L' hle hK => ?_
      exact hA _ D' B' L' _ hle hK (by rw [putT_size, hn]) (Ag.putT (T := T) hag hn h.1 v)
    · have hml2 : m' ∈ ℓ := (hall' m' (lt_of_some hm')).resolve_left hmm
      rcases hcov m' hml2 with h' | ⟨p, hp, rfl⟩
      · exact absurd h' hx
      · obtain ⟨p1, p2, rfl⟩ := List.append_of_mem hp
        have hpk := hpd p hp
        have hpo : p.o = o' := by have := hpk.at_; rw [hm'] at this; exact (Option.some.inj this).symm
        obtain ⟨o1, o2, o3⟩ := orderedMid hord
        have hconf : ∀ q, q ∈ p1 → conf ops q.o p.o = false ∧ inDom ops q := fun q hq => by
          have hqk := hpd q (List.mem_append.2 (.inl hq))
          refine ⟨?_, hqk.dom⟩
          cases hc : conf ops q.o p.o with
          | false => rfl
          | true =>
            rcases orderly_spec ho hqk.at_ hpk.at_ (o1 q hq).2 hc with h | h
            · rw [(o1 q hq).1] at h; cases h
            · exact absurd (hasEdge_in h (hpo ▸ he)) hqk.notEx
        obtain ⟨a1, a2, a3⟩ := pend_mid hpk.dom p1 p2 T hconf hpa
        refine (hpk.quiet D B L hI).2 C π k T hpk.at_ hn a1 ?_
        rintro v D' B' L' hle ⟨rfl, rfl, rfl, rfl⟩
        refine ih _ (p1 ++ p2) hcl' (fun i hi => ?_) (fun i hi => ?_) (fun q hq => ?_) o3 (by rw [putT_size, hn]) a3 (by rw [a2]; exact hag) hI hA
        · rcases List.mem_cons.1 hi with rfl | hi
          · exact hml2
          · exact hsub i hi
        · rcases hcov i hi with h | ⟨q, hq, rfl⟩
          · exact .inl (List.mem_cons_of_mem _ h)
          · rcases List.mem_append.1 hq with hq | hq
            · exact .inr ⟨q, List.mem_append.2 (.inl hq), rfl⟩
            · rcases List.mem_cons.1 hq with rfl | hq
              · exact .inl (List.mem_cons_self ..)
              · exact .inr ⟨q, List.mem_append.2 (.inr hq), rfl⟩
        · have hq' : q ∈ p1 ++ p :: p2 := by
            rcases List.mem_append.1 hq with hq | hq
            · exact List.mem_append.2 (.inl hq)
            · exact List.mem_append.2 (.inr (List.mem_cons_of_mem _ hq))
          have hqk := hpd q hq'
          refine ⟨hqk.at_, fun hmem => ?_, hqk.listed, hqk.edges, hqk.dom, hqk.quiet, hqk.pure⟩
          rcases List.mem_cons.1 hmem with h | h
          · rcases List.mem_append.1 hq with hq | hq
            · exact (o1 q hq).2 h
            · exact o2 q hq h.symm
          · exact hqk.notEx h

/-- One behind which only such are left as look at no memory. -/
def pureLeft (ops : Array Oper) (ℓ : List Nat) (o : Oper) : Bool := ℓ.all fun i => (waits ops 12 (firstWaits o)).contains i || (match ops[i]? with | some x => isPure x | none => true)
theorem any_sto (m : Nat) {o : Oper} (ho : orderly ops = true) (hm : ops[m]? = some o) (hr : readyL ops ℓ = [m]) (hl : pureLeft ops ℓ o = true)
    (h : opX P n ops m o (fun v D' B' L' => AnyW P n ops (fun _ _ => True) (m :: ℓ) K (putS S o.dst v) D' B' L') (sel (o.looksAt ops) S) D B L) : AnyW P n ops I ℓ K S D B L := by
  have hmr : m ∈ readyL ops ℓ := by rw [hr]; exact List.mem_singleton.2 rfl
  have hml' : m ∉ ℓ := by have := (List.mem_filter.1 hmr).2; simp only [hm, Bool.and_eq_true, Bool.not_eq_true'] at this; simpa using this.1
  intro C k T ex pend π hs
  induction hs generalizing T pend with
  | @nil ex hex =>
    intro hcl hsub hcov hpd hord hn hpa hag hI hA
    exact absurd (hsub m (hex m (lt_of_some hm))) hml'
  | @cons ex π m' o' hm' hx he hs ih =>
    intro hcl hsub hcov hpd hord hn hpa hag hI hA
    have hcl' := hcl.cons hm' he
    by_cases hmm : m' = m
    · subst hmm
      rw [hm] at hm'; cases hm'
      have hel : edgesIn o ℓ := fun e h1 h2 => hsub _ (he e h1 h2)
      have hconf : ∀ q, q ∈ pend → conf ops q.o o = false ∧ inDom ops q := fun q hq => by
        have hqk := hpd q hq
        refine ⟨?_, hqk.dom⟩
        cases hc : conf ops q.o o with
        | false => rfl
        | true =>
          rcases orderly_spec ho hqk.at_ hm (fun e => hml' (e ▸ hqk.listed)) hc with h | h
          · exact absurd (hasEdge_in h hqk.edges) hml'
          · exact absurd (hasEdge_in h he) hqk.notEx
      have hsel : Ag T (sel (o.looksAt ops) S) := fun i v hv => by
        obtain ⟨h1, h2⟩ := sel_get hv
        rw [← (pend_loud (o := o) (v := undef) pend T hconf hpa).2.2 i h1]
        exact hag i v h2
      refine h.2 C π k T hm hn hsel ?_
      intro v D' B' L' hle hAny
      obtain ⟨b1, b2, _⟩ := pend_loud (o := o) (v := v) pend T hconf hpa
      have hw : ∀ i, i ∈ waits ops 12 (firstWaits o) → i ∈ ex := fun i hi => by
        refine waits_in hcl 12 _ (fun j hj => ?_) i hi
        obtain ⟨e, he1, rfl⟩ := List.mem_map.1 hj
        obtain ⟨h3, h4⟩ := List.mem_filter.1 he1
        exact he e h3 h4
      refine hAny C k _ (m' :: ex) pend π hs hcl' (fun i hi => ?_) (fun i hi => ?_) (fun q hq => ?_) hord (by rw [putT_size, hn]) b2 (by rw [b1]; exact hag.putT (by rw [puts_size, hn]) h.1 v) trivial fun S₂ D₂ B₂ L₂ T₂ hle₂ => hA S₂ D₂ B₂ L₂ T₂ (hle.trans hle₂)
      · rcases List.mem_cons.1 hi with rfl | hi
        · exact List.mem_cons_self ..
        · exact List.mem_cons_of_mem _ (hsub i hi)
      · rcases List.mem_cons.1 hi with rfl | hi
        · exact .inl (List.mem_cons_self ..)
        · exact (hcov i hi).imp (List.mem_cons_of_mem _) id
      · have hqk := hpd q hq
        have hpu : isPure q.o = true := by
          have h1 := List.all_eq_true.1 hl q.i hqk.listed
          rcases Bool.or_eq_true_iff.1 h1 with h1 | h1
          · exact absurd (hw q.i (by simpa using h1)) hqk.notEx
          · rw [hqk.at_] at h1; exact h1
        refine ⟨hqk.at_, fun hmem => ?_, List.mem_cons_of_mem _ hqk.listed, fun e h1 h2 => List.mem_cons_of_mem _ (hqk.edges e h1 h2), hqk.dom, hqk.pure hpu, hqk.pure⟩
        rcases List.mem_cons.1 hmem with h | h
        · exact hml' (h ▸ hqk.listed)
        · exact hqk.notEx h
    · have hml2 : m' ∈ ℓ := by
        apply Classical.byContradiction
        intro hno
        have h1 := mem_readyL hm' hno (fun e h1 h2 => hsub _ (he e h1 h2))
        rw [hr, List.mem_singleton] at h1
        exact hmm h1
      rcases hcov m' hml2 with h' | ⟨p, hp, rfl⟩
      · exact absurd h' hx
      · obtain ⟨p1, p2, rfl⟩ := List.append_of_mem hp
        have hpk := hpd p hp
        have hpo : p.o = o' := by have := hpk.at_; rw [hm'] at this; exact (Option.some.inj this).symm
        obtain ⟨o1, o2, o3⟩ := orderedMid hord
        have hconf : ∀ q, q ∈ p1 → conf ops q.o p.o = false ∧ inDom ops q := fun q hq => by
          have hqk := hpd q (List.mem_append.2 (.inl hq))
          refine ⟨?_, hqk.dom⟩
          cases hc : conf ops q.o p.o with
          | false => rfl
          | true =>
            rcases orderly_spec ho hqk.at_ hpk.at_ (o1 q hq).2 hc with h | h
            · rw [(o1 q hq).1] at h; cases h
            · exact absurd (hasEdge_in h (hpo ▸ he)) hqk.notEx
        obtain ⟨a1, a2, a3⟩ := pend_mid hpk.dom p1 p2 T hconf hpa
        refine (hpk.quiet D B L hI).2 C π k T hpk.at_ hn a1 ?_
        rintro v D' B' L' hle ⟨rfl, rfl, rfl, rfl⟩
        refine ih _ (p1 ++ p2) hcl' (fun i hi => ?_) (fun i hi => ?_) (fun q hq => ?_) o3 (by rw [putT_size, hn]) a3 (by rw [a2]; exact hag) hI hA
        · rcases List.mem_cons.1 hi with rfl | hi
          · exact hml2
          · exact hsub i hi
        · rcases hcov i hi with h | ⟨q, hq, rfl⟩
          · exact .inl (List.mem_cons_of_mem _ h)
          · rcases List.mem_append.1 hq with hq | hq
            · exact .inr ⟨q, List.mem_append.2 (.inl hq), rfl⟩
            · rcases List.mem_cons.1 hq with rfl | hq
              · exact .inl (List.mem_cons_self ..)
              · exact .inr ⟨q, List.mem_append.2 (.inr hq), rfl⟩
        · have hq' : q ∈ p1 ++ p :: p2 := by
            rcases List.mem_append.1 hq with hq | hq
            · exact List.mem_append.2 (.inl hq)
            · exact List.mem_append.2 (.inr (List.mem_cons_of_mem _ hq))
          have hqk := hpd q hq'
          refine ⟨hqk.at_, fun hmem => ?_, hqk.listed, hqk.edges, hqk.dom, hqk.quiet, hqk.pure⟩
          rcases List.mem_cons.1 hmem with h | h
          · rcases List.mem_append.1 hq with hq | hq
            · exact (o1 q hq).2 h
            · exact o2 q hq h.symm
          · exact hqk.notEx h

/-- THE BEGINNING. -/
theorem w_draw {id : Nat} {l : List Oper} {Q : Exit → Post4} (I : Kn → List Cells → Prop) (hm : P.follows .mixedOrders = true) (hd : edgesDown l.toArray = true) (hI : I B L) (h : AnyW P n l.toArray I [] (Q .normal) S D B L) : wpS P n (.region id l.toArray true) Q S D B L := fun C k T hn hT hA => by
  refine C.X.step rfl fun w s => ⟨_, _, _, B, L.flatten ++ C.F, st_region_draw, by simp, ⟨Kn.le.refl B, ⟨s.ro, s.own, s.nodup, s.apart⟩, Nat.le_refl _, fun _ _ _ => rfl, fun b o hb => .inl (by rw [hb]; rfl), fun p hp => .inl ⟨p, hp, rfl⟩, fun _ => rfl, rfl, rfl, rfl⟩, ?_⟩
  exact h C k T [] [] _ (sched_of hm hd _) (fun i hi => by cases hi) (fun i hi => by cases hi) (fun i hi => by cases hi) (fun p hp => by cases hp) trivial hn trivial hT hI fun S' D' B' L' T' hle hq hn' hT' =>
    C.X.ctl rfl (fun w => st_region_end) (hA .normal S' D' B' L' T' hle hq hn' hT')
end
end Go.BL

namespace Go.BL
section
variable {P : Program} {n : Nat} {Q : Exit → Post4} {S : Env} {D : List Deferred} {B : Kn} {L : List Cells}
/-- A region whose end is one bool more; all else stands: its ways meet again behind it. -/
theorem w_seq_bool {id : Nat} {l : List Oper} {y : Code} (d : Nat) (e : Bool) (ks : List Nat) (h : runW P n l.toArray 0 l (fun S₂ D₂ B₂ L₂ => D₂ = D ∧ B₂ = B ∧ L₂ = L ∧ get S₂ d = some (.bool e) ∧ Sub (sel ks S) S₂) S D B L)
    (h' : wpS P n y Q ((d, .bool e) :: sel ks S) D B L) : wpS P n (.seq (.region id l.toArray false) y) Q S D B L :=
  w_cut (fun S₂ D₂ B₂ L₂ => D₂ = D ∧ B₂ = B ∧ L₂ = L ∧ get S₂ d = some (.bool e) ∧ Sub (sel ks S) S₂) (w_region h) fun S₂ D₂ B₂ L₂ _ ⟨h1, h2, h3, h4, h5⟩ => by
    subst h1; subst h2; subst h3
    exact w_keep ((d, .bool e) :: sel ks S) ⟨h4, h5⟩ h'
theorem w_seq_boolD {id : Nat} {l : List Oper} {y : Code} (d : Nat) (e : Bool) (ks : List Nat) (I : Kn → List Cells → Prop) (hm : P.follows .mixedOrders = true) (hd : edgesDown l.toArray = true) (hI : I B L)
    (h : AnyW P n l.toArray I [] (fun S₂ D₂ B₂ L₂ => D₂ = D ∧ B₂ = B ∧ L₂ = L ∧ get S₂ d = some (.bool e) ∧ Sub (sel ks S) S₂) S D B L)
    (h' : wpS P n y Q ((d, .bool e) :: sel ks S) D B L) : wpS P n (.seq (.region id l.toArray true) y) Q S D B L :=
  w_cut (fun S₂ D₂ B₂ L₂ => D₂ = D ∧ B₂ = B ∧ L₂ = L ∧ get S₂ d = some (.bool e) ∧ Sub (sel ks S) S₂) (w_draw I hm hd hI h) fun S₂ D₂ B₂ L₂ _ ⟨h1, h2, h3, h4, h5⟩ => by
    subst h1; subst h2; subst h3
    exact w_keep ((d, .bool e) :: sel ks S) ⟨h4, h5⟩ h'
theorem leafB {S₂ : Env} {d : Nat} {x e : Bool} (hx : get S₂ d = some (.bool x)) (he : x = e) : get S₂ d = some (.bool e) := by rw [hx, he]
/-- A guard in a region that draws is decided: the two ways. -/
theorem a_split {ops : Array Oper} {I : Kn → List Cells → Prop} {ℓ : List Nat} {K : Post4} {d : Nat} {t : Bool} (hb : get S d = some (.bool t)) (h1 : t = true → AnyW P n ops I ℓ K ((d, .bool true) :: S) D B L) (h2 : t = false → AnyW P n ops I ℓ K ((d, .bool false) :: S) D B L) : AnyW P n ops I ℓ K S D B L := by
  have key : ∀ (S' : Env), (∀ i v, get S' i = some v → get S i = some v) → AnyW P n ops I ℓ K S' D B L → AnyW P n ops I ℓ K S D B L :=
    fun S' hs h C k T ex pend π a1 a0 a2 a3 a4 a5 a6 a7 a8 a9 hA => h C k T ex pend π a1 a0 a2 a3 a4 a5 a6 a7 (fun i v hv => a8 i v (hs i v hv)) a9 hA
  have get_same : ∀ (u : Bool), t = u → ∀ i v, get ((d, Value.bool u) :: S) i = some v → get S i = some v := by
    intro u hu i v hv
    simp only [get] at hv
    cases hbe : Nat.beq d i with
    | true =>
      rw [hbe] at hv
      simp only [cond_true, Option.some.injEq] at hv
      have := Nat.eq_of_beq_eq_true hbe
      subst this; subst hu; rw [hb, ← hv]
    | false => rw [hbe] at hv; exact hv
  cases t with
  | true => exact key _ (get_same true rfl) (h1 rfl)
  | false => exact key _ (get_same false rfl) (h2 rfl)
/-- What is as it was at the region's beginning. -/
@[reducible] def same (B : Kn) (L : List Cells) : Kn → List Cells → Prop := fun B' L' => B' = B ∧ L' = L
theorem q_of {ops : Array Oper} {i : Nat} {o : Oper} {v : Value} {ρ : Env} (h : ∀ D, opX P n ops i o (fun v' D' B' L' => v' = v ∧ D' = D ∧ B' = B ∧ L' = L) ρ D B L) : quiet P n ops (same B L) i o v ρ := by
  rintro D _ _ ⟨rfl, rfl⟩; exact h D
end
end Go.BL

namespace Go.BL
/-- What stays through a region: what is known, the segments with these numbers. -/
def keepsL : List Nat → List Cells → List Cells → Prop
  | [], _, _ => True
  | j :: js, L, L' => L'[j]? = L[j]? ∧ keepsL js L L'
@[reducible] def keeps (B : Kn) (js : List Nat) (L : List Cells) : Kn → List Cells → Prop := fun B' L' => B.le B' ∧ keepsL js L L'
theorem keepsL.refl : ∀ (js : List Nat) (L : List Cells), keepsL js L L
  | [], _ => trivial
  | _ :: js, L => ⟨rfl, keepsL.refl js L⟩
section
variable {P : Program} {n : Nat} {B : Kn} {L : List Cells}
theorem q_ofI {ops : Array Oper} {I : Kn → List Cells → Prop} {i : Nat} {o : Oper} {v : Value} {ρ : Env} (h : ∀ D B L, I B L → opX P n ops i o (fun v' D' B' L' => v' = v ∧ D' = D ∧ B' = B ∧ L' = L) ρ D B L) : quiet P n ops I i o v ρ := h
end
end Go.BL
