/-
  BL: slices and lists whose elements own memory of their own.
-/
import Derived.Test.YtnhgfdfmfhkcmaaBLRange
namespace Go.BL
open Go.Conc (G)
set_option linter.unusedVariables false
def Kn.none : Kn := ⟨fun _ => Option.none⟩
/-- An element, its cells, what it owns. -/
abbrev RelO (α : Type) := List Value → α → Cells → Prop
inductive All3 {α : Type} (R : RelO α) : List (List Value) → List α → Cells → Prop
  | nil : All3 R [] [] []
  | cons {row : List Value} {x : α} {ins rest : Cells} {rows : List (List Value)} {xs : List α} : R row x ins → All3 R rows xs rest → All3 R (row :: rows) (x :: xs) (ins ++ rest)
theorem All3.len {α : Type} {R : RelO α} {rows : List (List Value)} {xs : List α} {s : Cells} (h : All3 R rows xs s) : rows.length = xs.length := by
  induction h with
  | nil => rfl
  | cons _ _ ih => simp [ih]
theorem All3.snoc {α : Type} {R : RelO α} {rows : List (List Value)} {xs : List α} {s : Cells} (h : All3 R rows xs s) {row : List Value} {x : α} {ins : Cells} (hx : R row x ins) : All3 R (rows ++ [row]) (xs ++ [x]) (s ++ ins) := by
  induction h with
  | nil => have := All3.cons hx All3.nil; simpa using this
  | cons h1 _ ih => rw [List.append_assoc]; exact .cons h1 ih
/-- 'l' is the storage of the slice (p, xs.length, c) and of all that its elements lead to. -/
def VecD {α : Type} (l : Cells) (p : Option Addr) (c : Nat) (T : TypeId) (w : Nat) (R : RelO α) (xs : List α) : Prop :=
  ∃ rows blk ins, All3 R rows xs ins ∧ wide w rows ∧ l.Perm (blk ++ ins) ∧ VecL blk p xs.length c T w rows.flatten
theorem VecD.lit0 {α : Type} {b : Nat} {T : TypeId} {w : Nat} {R : RelO α} : VecD (box1 b [] T) (some ⟨b, 0, Option.none⟩) 0 T w R ([] : List α) := ⟨[], _, [], .nil, (fun _ h => by cases h), by simp, VecL.lit (by simp)⟩
theorem VecD.nil {α : Type} {T : TypeId} {w : Nat} {R : RelO α} : VecD [] Option.none 0 T w R ([] : List α) := ⟨[], [], [], .nil, (fun _ h => by cases h), by simp, VecL.nil T w⟩
theorem VecD.cap {α : Type} {l : Cells} {p : Option Addr} {c : Nat} {T : TypeId} {w : Nat} {R : RelO α} {xs : List α} (h : VecD l p c T w R xs) : xs.length ≤ c := by
  obtain ⟨rows, blk, ins, _, _, _, _, ⟨_, h0, _, _⟩ | ⟨b, arr, _, _, _, _, hm⟩⟩ := h
  · omega
  · exact hm
/-- All that the elements own is known. -/
theorem All3.known {α : Type} {R : RelO α} {R' : Rel α} {B : Kn} (hR : ∀ row x ins, R row x ins → (∀ q, q ∈ ins → B.mem q.1 = some q.2) → R' B row x) : ∀ {rows : List (List Value)} {xs : List α} {s : Cells}, All3 R rows xs s → (∀ q, q ∈ s → B.mem q.1 = some q.2) → All2 (R' B) rows xs := by
  intro rows xs s h
  induction h with
  | nil => intro _; exact .nil
  | cons h1 _ ih => intro hm; exact .cons (hR _ _ _ h1 fun q hq => hm q (List.mem_append.2 (.inl hq))) (ih fun q hq => hm q (List.mem_append.2 (.inr hq)))
theorem VecD.known {α : Type} {l : Cells} {p : Option Addr} {c : Nat} {T : TypeId} {w : Nat} {R : RelO α} {R' : Rel α} {B : Kn} {xs : List α} (h : VecD l p c T w R xs) (hR : ∀ row x ins, R row x ins → (∀ q, q ∈ ins → B.mem q.1 = some q.2) → R' B row x) (hM : Mono R') (hm : ∀ q, q ∈ l → B.mem q.1 = some q.2) (hl : xs.length ≤ 2000000) : SlK B p c w R' xs := by
  have hc := h.cap
  obtain ⟨rows, blk, ins, h1, h2, h3, h4⟩ := h
  have h5 : VecR B blk p c T w R' xs := ⟨rows, h1.known hR fun q hq => hm q (h3.mem_iff.2 (List.mem_append.2 (.inr hq))), h2, h4⟩
  exact ⟨h5.rows hM (Kn.le.refl B) fun q hq => hm q (h3.mem_iff.2 (List.mem_append.2 (.inl hq))), hc, hl⟩
/-- A string's list of its own. -/
abbrev VecStr (T : TypeId) (s : Cells) (q : Option Addr) (c : Nat) (ls : List Str) : Prop := VecR Kn.none s q c T 1 StrR ls
def ItemO (T : TypeId) : RelO DItem := fun row x ins => ∃ q c, row = [.int .i64 x.id, str x.fr, str x.text, .slice q x.left.length c] ∧ VecStr T ins q c x.left ∧ x.fr.length ≤ 2000000 ∧ x.text.length ≤ 2000000 ∧ x.left.length ≤ 2000000
theorem ItemO.known {T : TypeId} {B : Kn} {row : List Value} {x : DItem} {ins : Cells} (h : ItemO T row x ins) (hm : ∀ q, q ∈ ins → B.mem q.1 = some q.2) : ItemR B row x := by
  obtain ⟨q, c, h1, h2, h3, h4, h5⟩ := h
  exact ⟨q, c, h1, ⟨h2.rowsF StrR.any hm, h2.cap, h5⟩, h3, h4⟩
/-- A list of nodes, each an item and a pointer to the next. -/
def ListD (T Tn : TypeId) : Value → List DItem → Cells → Prop
  | v, [], s => v = .pointer Option.none ∧ s = []
  | v, x :: xs, s => ∃ b row nx ins rest, v = ptr ⟨b, 0, Option.none⟩ ∧ s.Perm (box1 b (row ++ [nx]) Tn ++ (ins ++ rest)) ∧ ItemO T row x ins ∧ ListD T Tn nx xs rest
section
variable {P : Program} {n : Nat} {ops : Array Oper} {i : Nat} {K : PostV} {S : Env} {D : List Deferred} {B : Kn} {L : List Cells} {Q : Exit → Post4}
variable {dst : Option Tmp} {ty : TypeId} {pos : String} {after : Array Edge} {g : Option (Nat × Bool)}
/-- An operation under another partition of what is owned. -/
theorem opX_segs {o : Oper} {L' : List Cells} {K' : PostV} (hp : L.flatten.Perm L'.flatten) (h : opX P n ops i o K' S D B L') (hk : ∀ v D' B' L₁, B.le B' → K' v D' B' L₁ → ∃ L₂, L₁.flatten.Perm L₂.flatten ∧ K v D' B' L₂) : opX P n ops i o K S D B L := ⟨h.1, fun C todo k T ho hn hT hA =>
  C.X.perm (hp.append_right _) (h.2 C todo k T ho hn hT fun v D' B' L₁ hle hK => by
    obtain ⟨L₂, hp2, hK2⟩ := hk v D' B' L₁ hle hK
    exact C.X.perm (hp2.append_right _) (hA v D' B' L₂ hle hK2))⟩
theorem set_flat {L : List Cells} {j : Nat} {s : Cells} (s' : Cells) (hj : L[j]? = some s) : ∃ r, L.flatten.Perm (s ++ r) ∧ ((L.set j s').flatten).Perm (s' ++ r) := by
  obtain ⟨r, h1, h2⟩ := set_perm [] s' hj
  exact ⟨r, by simpa using h1, by simpa using h2⟩
/-- append of one element, with what it owns (segment k), to a slice with all its own (segment j). -/
theorem w_appD {α : Type} {R : RelO α} {xs : List α} {z : α} {t u e : TypeId} {x y : Operand} {sz by_ m c c2 : Nat} {p q : Option Addr} {row : List Value} {l ins : Cells} (j k : Nat) (hjk : Nat.beq j k = false) (hj : L[j]? = some l) (hk : L[k]? = some ins) (hv : VecD l p c e sz R xs) (hm : m = xs.length) (hg : guardOk ops S g = some true) (hd : dstOk n dst = true)
    (he : elemOk P t e sz by_ = true) (hu : (match P.underlying u with | some (.slice _) => true | _ => false) = true) (hx : ev S x = some (.slice p m c)) (hy : ev S y = some (.slice q 1 c2)) (hs : SrcAt B L.flatten q row) (hone : row.all oneC = true) (hrl : row.length = sz) (hr : R row z ins) (hb1 : (xs.length + 1) * by_ ≤ 140737488355328)
    (h : ∀ l' p' c', VecD l' p' c' e sz R (xs ++ [z]) → K (.slice p' (xs ++ [z]).length c') D B ((L.set j l').set k [])) : opX P n ops i ⟨dst, .call ⟨.builtin .append, #[x, y], #[t, u]⟩, ty, pos, after, g⟩ K S D B L := by
  subst hm
  obtain ⟨rows, blk, inn, h1, h2, h3, h4⟩ := hv
  obtain ⟨r, p1, _⟩ := set_flat [] hj
  have hne : j ≠ k := fun e => by subst e; simp at hjk
  have hk2 : ∀ l', (L.set j l')[k]? = some ins := fun l' => by rw [List.getElem?_set, if_neg hne]; exact hk
  refine opX_segs (L' := [blk, inn ++ r]) (K' := fun v D' B' L₁ => ∃ blk' p' c', L₁ = [blk', inn ++ r] ∧ v = .slice p' (xs.length + 1) c' ∧ D' = D ∧ B' = B ∧ VecL blk' p' (xs.length + 1) c' e sz (rows.flatten ++ row)) ?_ ?_ ?_
  · refine p1.trans ?_
    simp only [List.flatten_cons, List.flatten_nil, List.append_nil]
    rw [← List.append_assoc]
    exact h3.append_right r
  · refine w_append 0 rfl h4 hg hd he hu hx hy ?_ (by rw [hrl, Nat.one_mul]) hone hb1 fun l' p' c' hv' => ⟨l', p', c', rfl, rfl, rfl, rfl, hv'⟩
    cases q with
    | none => exact hs
    | some a =>
      intro jj v hjj
      refine (hs jj v hjj).perm (p1.trans ?_)
      simp only [List.flatten_cons, List.flatten_nil, List.append_nil]
      rw [← List.append_assoc]
      exact h3.append_right r
  · rintro v D' B' L₁ hle ⟨blk', p', c', rfl, rfl, rfl, rfl, hv'⟩
    have hnew : VecD (blk' ++ (inn ++ ins)) p' c' e sz R (xs ++ [z]) := ⟨rows ++ [row], blk', inn ++ ins, h1.snoc hr, fun r' hr' => by
      rcases List.mem_append.1 hr' with hr' | hr'
      · exact h2 r' hr'
      · rw [List.mem_singleton.1 hr']; exact hrl, .refl _, by rw [List.length_append, List.flatten_append]; simpa using hv'⟩
    refine ⟨_, ?_, by have := h _ _ _ hnew; rwa [List.length_append] at this⟩
    obtain ⟨r2, q1, q2⟩ := set_flat (blk' ++ (inn ++ ins)) hj
    have hrr : r.Perm r2 := (List.perm_append_left_iff l).1 (p1.symm.trans q1)
    obtain ⟨r3, q3, q4⟩ := set_flat [] (hk2 (blk' ++ (inn ++ ins)))
    -- L.set j l' ~ l' ++ r2 ~ ins ++ r3; its set k [] ~ r3
    have e1 : (ins ++ r3).Perm (ins ++ (blk' ++ (inn ++ r))) := by
      refine (q3.symm.trans q2).trans ?_
      refine (List.Perm.append_left _ hrr.symm).trans ?_
      have : (blk' ++ (inn ++ ins) ++ r).Perm (ins ++ (blk' ++ inn ++ r)) := by
        have a1 : (blk' ++ (inn ++ ins) ++ r) = (blk' ++ inn) ++ (ins ++ r) := by simp
        rw [a1]
        have a2 : ins ++ (blk' ++ inn ++ r) = (ins ++ (blk' ++ inn)) ++ r := by simp
        rw [a2, ← List.append_assoc]
        exact List.Perm.append_right r List.perm_append_comm
      simpa using this
    have e2 := (List.perm_append_left_iff ins).1 e1
    refine List.Perm.trans ?_ q4.symm
    simp only [List.flatten_cons, List.flatten_nil, List.append_nil, List.nil_append]
    exact e2.symm
end
/-- A segment is published with all that it leads to. -/
theorem w_pubD {P : Program} {n : Nat} {Q : Exit → Post4} {S : Env} {D : List Deferred} {B : Kn} {L : List Cells} {c : Code} {α : Type} {R : RelO α} {R' : Rel α} {xs : List α} {l : Cells} {p : Option Addr} {cp : Nat} {T : TypeId} {w : Nat} (j : Nat) (hj : L[j]? = some l) (hv : VecD l p cp T w R xs) (hR : ∀ {B : Kn} {row : List Value} {x : α} {ins : Cells}, R row x ins → (∀ q, q ∈ ins → B.mem q.1 = some q.2) → R' B row x) (hM : Mono R') (hl : xs.length ≤ 2000000)
    (h : ∀ B', B.le B' → SlK B' p cp w R' xs → wpS P n c Q S D B' (L.set j [])) : wpS P n c Q S D B L :=
  w_pub j hj fun B' hle hm => h B' hle (hv.known (fun _ _ _ a b => hR a b) hM hm hl)
theorem t_sel {P : Program} {n : Nat} {Q : Exit → Post4} {S : Env} {D : List Deferred} {B : Kn} {L : List Cells} {c : Code} (js : List Nat) {ss r : List Cells} (hp : pickAll L js = some (ss, r)) (h : wpT P n c Q S D B ss) : wpT P n c Q S D B L := fun C k T hr hn hT hA => by
  have h1 := (pickAll_perm js L ss r hp).append_right C.F
  refine C.X.drop (r := ss.flatten ++ C.F) (gl := r.flatten) (h1.trans ?_) (h C k T hr hn hT hA)
  rw [List.append_assoc, List.append_assoc]
  exact List.Perm.append_left _ List.perm_append_comm
end Go.BL
namespace Go.BL
open Go.Conc (G)
section
variable {P : Program} {n : Nat} {ops : Array Oper} {i : Nat} {K : PostV} {S : Env} {D : List Deferred} {B : Kn} {L : List Cells} {Q : Exit → Post4}
variable {dst : Option Tmp} {ty : TypeId} {pos : String} {after : Array Edge} {g : Option (Nat × Bool)}
theorem w_makeFunc {f : Fn} {xs ys : List Operand} {us vs : List Value} (hg : guardOk ops S g = some true) (hd : dstOk n dst = true) (hx : evs S xs = some us) (hy : evs S ys = some vs) (h : K (.func f us.toArray vs.toArray) D B L) : opX P n ops i ⟨dst, .makeFunc f xs.toArray ys.toArray, ty, pos, after, g⟩ K S D B L :=
  opX_pure hg hd (fun ρ hρ Q F q => by
    simp only [execOp, Instr.makeFunc, hb_bind, hb_pure, List.map_toArray, resolve_args hρ hx, resolve_args hρ hy]
    exact q) h
theorem w_makeIface {t : TypeId} {x : Operand} {v : Value} {d : TypeDesc} (hg : guardOk ops S g = some true) (hd : dstOk n dst = true) (hu : P.underlying t = some d) (hni : (match d with | .interface _ => false | _ => true) = true) (hx : ev S x = some v) (h : K (.iface t v) D B L) : opX P n ops i ⟨dst, .makeInterface t x, ty, pos, after, g⟩ K S D B L :=
  opX_pure hg hd (fun ρ hρ Q F q => by
    simp only [execOp, Instr.makeInterface, hb_bind, hb_underlying hu, hρ x _ hx]
    cases d <;> first | (simp only [hb_pure]; exact q) | cases hni) h
end
end Go.BL
namespace Go.BL
open Go.Conc (G)
/-- A loop over a function whose state, between two rounds, is as it was at the start. -/
theorem t_rangeL {P : Program} {n : Nat} {S : Env} {D : List Deferred} {B : Kn} {L : List Cells} {Q : Exit → Post4} {f : Operand} {F : FuncId} {cap : List Value} {ps : Array Tmp} {asg body : Code} {J : Kn → List Cells → Prop} (hf : ev S f = some (.func (.func F) #[] cap.toArray)) (hen : enters P F = true)
    (hc : ∀ (lp : Loop) (l : Nat), lp.tmps.size = n → Ag lp.tmps S → lp.params = ps → lp.assign = asg → lp.body = body → lp.state = .ready → ({ lp with state := .ready, pending := none } : Loop) = lp → CallsB P F (.func (.yield l) #[] #[] :: cap) B [(l, .loop lp) :: L.flatten] (fun v B' Ls => ∃ L' s, Ls = [s] ∧ s.Perm ((l, Obj.loop lp) :: L'.flatten) ∧ J B' L'))
    (h : ∀ r B' L', B.le B' → J B' L' → Q .normal S ({ target := .collected r, args := #[] } :: D) B' (L' ++ [[(r, .deferred (some []))]])) : wpT P n (.rangeFunc f ps asg body) Q S D B L := by
  refine t_range (J := J) hf hen (fun fn T r l hn hT => ?_) h
  have := hc { state := .ready, pending := none, fn := fn, tmps := T, params := ps, assign := asg, body := body, defers := r } l hn hT rfl rfl rfl rfl rfl
  refine CallsB.mono this fun v B' Ls hle ⟨L', s, h1, h2, h3⟩ => ⟨_, L', s, h1, h2, rfl, rfl, h3⟩
/-- The temporaries of a round with two values. -/
theorem ag_args2 {T : Array Value} {S : Env} {n a b : Nat} {x y : Value} (h : Ag T S) (hn : T.size = n) (ha : Nat.blt a n = true) (hb : Nat.blt b n = true) : Ag (argsT #[a, b] T [x, y]) ((b, y) :: (a, x) :: S) ∧ (argsT #[a, b] T [x, y]).size = n := by
  rw [Nat.blt_eq] at ha hb
  have e : argsT #[a, b] T [x, y] = (T.setIfInBounds a x).setIfInBounds b y := by simp [argsT]
  rw [e]
  exact ⟨(h.put (by omega) x).put (by simp; omega) y, by simp [hn]⟩
/-- A box that has been published. -/
theorem rowAt_box {B : Kn} {b : Nat} {row : List Value} {T : TypeId} (hm : ∀ p, p ∈ box1 b row T → B.mem p.1 = some p.2) : RowAt' B b 0 row := fun L j u hj => by
  refine atB (hm (b, _) (List.mem_singleton.2 rfl)) rfl ?_
  simpa using hj
theorem ListD.ptr {T Tn : TypeId} {v : Value} {xs : List DItem} {s : Cells} (h : ListD T Tn v xs s) : ∃ p, v = .pointer p := by
  cases xs with
  | nil => exact ⟨_, h.1⟩
  | cons x xs => obtain ⟨b, _, _, _, _, rfl, _⟩ := h; exact ⟨_, rfl⟩
theorem ListD.more {T Tn : TypeId} {p : Option Addr} {xs : List DItem} {s : Cells} (h : ListD T Tn (.pointer p) xs s) (hp : p.isNone = false) : ∃ y ys b q c np ins rest, p = some ⟨b, 0, Option.none⟩ ∧ xs = y :: ys ∧ s.Perm (box1 b [.int .i64 y.id, str y.fr, str y.text, .slice q y.left.length c, .pointer np] Tn ++ [ins, rest].flatten) ∧ VecStr T ins q c y.left ∧ y.fr.length ≤ 2000000 ∧ y.text.length ≤ 2000000 ∧ y.left.length ≤ 2000000 ∧ ListD T Tn (.pointer np) ys rest := by
  cases xs with
  | nil => cases h.1; cases hp
  | cons y ys =>
    obtain ⟨b, row, nx, ins, rest, h1, h2, ⟨q, c, rfl, h4, h5, h6, h7⟩, h8⟩ := h
    obtain ⟨np, rfl⟩ := h8.ptr
    cases h1
    exact ⟨y, ys, b, q, c, np, ins, rest, rfl, rfl, by simpa using h2, h4, h5, h6, h7, h8⟩
theorem ListD.done {T Tn : TypeId} {p : Option Addr} {xs : List DItem} {s : Cells} (h : ListD T Tn (.pointer p) xs s) (hp : p.isNone = true) : xs = [] := by
  cases xs with
  | nil => rfl
  | cons y ys => obtain ⟨b, row, nx, ins, rest, h1, _⟩ := h; cases h1; cases hp
theorem eqPtrNil {P : Program} {t e : TypeId} {p : Option Addr} (hu : P.underlying t = some (.pointer e)) : eqIs P t (.pointer p) (.pointer Option.none) p.isNone := fun B L Q q => by
  show hb P (Op.equalIn (9999 + 1) t _ _) Q B L
  rw [Op.equalIn, hb_bind, hb_underlying hu]
  cases p <;> (simp only [hb_pure]; exact q)
/-- A segment is seen as several. -/
theorem w_split {P : Program} {n : Nat} {Q : Exit → Post4} {S : Env} {D : List Deferred} {B : Kn} {L : List Cells} {c : Code} {s a : Cells} {bs : List Cells} (j : Nat) (hj : L[j]? = some s) (hp : s.Perm (a ++ bs.flatten)) (h : wpS P n c Q S D B (L.set j a ++ bs)) : wpS P n c Q S D B L := fun C k T hn hT hA => by
  refine C.X.perm ?_ (h C k T hn hT hA)
  refine List.Perm.append_right _ ?_
  obtain ⟨r, h1, h2⟩ := set_flat a hj
  refine h1.trans ((hp.append_right r).trans ?_)
  rw [List.flatten_append]
  refine List.Perm.trans ?_ (h2.symm.append_right _)
  rw [List.append_assoc, List.append_assoc]
  exact List.Perm.append_left _ List.perm_append_comm
end Go.BL
