/-
  BL: what slices of known and of owned memory hold, said of lists of data.
-/
import Derived.Test.YtnhgfdfmfhkcmaaBLKit
namespace Go.BL
open Go.Conc (G)
set_option linter.unusedVariables false

/-- How the cells of one element read. -/
abbrev Rel (α : Type) := Kn → List Value → α → Prop
def Mono {α : Type} (R : Rel α) : Prop := ∀ {B B' : Kn}, B.le B' → ∀ {row : List Value} {x : α}, R B row x → R B' row x
/-- Elements whose cells are a function of the datum. -/
def Flat {α : Type} (C : α → List Value) : Rel α := fun _ row x => row = C x
theorem Flat.mono {α : Type} {C : α → List Value} : Mono (Flat C) := fun _ _ _ h => h
/-- A slice of known memory. -/
def RowsR {α : Type} (B : Kn) (q : Option Addr) (w : Nat) (R : Rel α) (xs : List α) : Prop :=
  ∀ i x, xs[i]? = some x → ∃ b o row, q = some ⟨b, o, none⟩ ∧ R B row x ∧ ∀ j u, row[j]? = some u → CellAt B [] ⟨b, o + i * w + j, none⟩ u
theorem HasO.mono {B B' : Kn} {L : Cells} {b : Nat} {o : Obj} (hle : B.le B') (h : HasO B L b o) : HasO B' L b o := h.imp (hle b o) id
theorem CellAt.mono {B B' : Kn} {L : Cells} {a : Addr} {v : Value} (hle : B.le B') (h : CellAt B L a v) : CellAt B' L a v :=
  let ⟨h1, cs, T, fr, h2, h3⟩ := h; ⟨h1, cs, T, fr, h2.mono hle, h3⟩
theorem RowsR.mono {α : Type} {B B' : Kn} {q : Option Addr} {w : Nat} {R : Rel α} {xs : List α} (hR : Mono R) (hle : B.le B') (h : RowsR B q w R xs) : RowsR B' q w R xs := fun i x hi => by
  obtain ⟨b, o, row, h1, h2, h3⟩ := h i x hi
  exact ⟨b, o, row, h1, hR hle h2, fun j u hj => (h3 j u hj).mono hle⟩
theorem RowsR.nil {α : Type} {B : Kn} {q : Option Addr} {w : Nat} {R : Rel α} : RowsR B q w R ([] : List α) := fun i x h => by simp at h
theorem RowsR.take {α : Type} {B : Kn} {q : Option Addr} {w : Nat} {R : Rel α} {xs : List α} (h : RowsR B q w R xs) (k : Nat) : RowsR B q w R (xs.take k) := fun i x hi => by
  rw [List.getElem?_take] at hi
  split at hi
  · exact h i x hi
  · cases hi
theorem RowsR.drop {α : Type} {B : Kn} {q : Option Addr} {w : Nat} {R : Rel α} {xs : List α} (h : RowsR B q w R xs) (k : Nat) : RowsR B (q.map (·.add (k * w))) w R (xs.drop k) := fun i x hi => by
  rw [List.getElem?_drop] at hi
  obtain ⟨b, o, row, rfl, h2, h3⟩ := h _ x hi
  refine ⟨b, o + k * w, row, by simp [Addr.add_off], h2, fun j u hj => ?_⟩
  have := h3 j u hj
  rw [Nat.add_mul] at this
  rwa [show o + k * w + i * w + j = o + (k * w + i * w) + j from by omega]
/-- xs[a:b] of a slice. -/
theorem RowsR.cut {α : Type} {B : Kn} {q : Option Addr} {w a b c : Nat} {R : Rel α} {xs : List α} (h : RowsR B q w R xs) (hb : b ≤ xs.length) (hc : xs.length ≤ c) : RowsR B (if c = a then q else q.map (·.add (a * w))) w R ((xs.take b).drop a) := by
  by_cases e : c = a
  · rw [if_pos e, List.drop_eq_nil_of_le (by rw [List.length_take]; omega)]
    exact .nil
  · rw [if_neg e]
    exact (h.take b).drop a

/-- What a known row gives. -/
def RowAt' (B : Kn) (b o : Nat) (row : List Value) : Prop := ∀ (L : List Cells) (j : Nat) (u : Value), row[j]? = some u → At B L ⟨b, o + j, none⟩ u
theorem rowK {B : Kn} {L : List Cells} {b o : Nat} {row vs : List Value} {a : Addr} (hc : RowAt' B b o row) (off : Nat) (ha : a = ⟨b, o + off, none⟩) (hv : (row.drop off).take vs.length = vs) : RowAt B L a vs := by
  intro i v hi
  subst ha
  rw [Addr.add_off _ _ rfl]
  have hlt : i < vs.length := (List.getElem?_eq_some_iff.1 hi).1
  have : row[off + i]? = some v := by
    have e := congrArg (fun l => l[i]?) hv
    simp only [List.getElem?_take, if_pos hlt, List.getElem?_drop] at e
    rw [e, hi]
  have := hc L _ v this
  rwa [show o + (off + i) = o + off + i from by omega] at this

section
variable {P : Program} {n : Nat} {ops : Array Oper} {i : Nat} {K : PostV} {S : Env} {D : List Deferred} {B : Kn} {L : List Cells}
variable {dst : Option Tmp} {ty : TypeId} {pos : String} {after : Array Edge} {g : Option (Nat × Bool)}
variable {α : Type} {R : Rel α} {xs : List α} {z : α}

/-- The address of an element of a known slice, the element at hand. -/
theorem w_ixE {t e : TypeId} {x y : Operand} {k : IntKind} {q : Option Addr} {len cap sz : Nat} {ix : Int} (hg : guardOk ops S g = some true) (hd : dstOk n dst = true) (hu : P.underlying t = some (.slice e)) (hsz : sizeIs P e = some sz)
    (hx : ev S x = some (.slice q len cap)) (hy : ev S y = some (.int k ix)) (hlen : len = xs.length) (hr : RowsR B q sz R xs) (h0 : 0 ≤ ix) (hz : xs[ix.toNat]? = some z)
    (h : ∀ b o row, R B row z → RowAt' B b o row → K (ptr ⟨b, o, none⟩) D B L) : opX P n ops i ⟨dst, .indexAddr t x y, ty, pos, after, g⟩ K S D B L := by
  obtain ⟨b, o, row, rfl, h2, h3⟩ := hr _ z hz
  have hlt : ix.toNat < xs.length := (List.getElem?_eq_some_iff.1 hz).1
  refine w_indexAddr hg hd hu hsz hx hy h0 (by omega) ?_
  rw [Addr.add_off _ _ rfl]
  refine h b (o + ix.toNat * sz) row h2 fun L j u hj => ?_
  exact CellAt.app (F := L.flatten) (h3 j u hj)
/-- .. found by its number. -/
theorem w_ixR {t e : TypeId} {x y : Operand} {k : IntKind} {q : Option Addr} {len cap sz : Nat} {ix : Int} (hg : guardOk ops S g = some true) (hd : dstOk n dst = true) (hu : P.underlying t = some (.slice e)) (hsz : sizeIs P e = some sz)
    (hx : ev S x = some (.slice q len cap)) (hy : ev S y = some (.int k ix)) (hlen : len = xs.length) (hr : RowsR B q sz R xs) (h0 : 0 ≤ ix) (h1 : ix < xs.length)
    (h : ∀ b o row z, xs[ix.toNat]? = some z → R B row z → RowAt' B b o row → K (ptr ⟨b, o, none⟩) D B L) : opX P n ops i ⟨dst, .indexAddr t x y, ty, pos, after, g⟩ K S D B L := by
  have hlt : ix.toNat < xs.length := by omega
  exact w_ixE hg hd hu hsz hx hy hlen hr h0 (List.getElem?_eq_getElem hlt) fun b o row => h b o row _ (List.getElem?_eq_getElem hlt)
/-- A byte of a string, found by its number. -/
theorem w_indexR {t : TypeId} {x y : Operand} {k : IntKind} {l : List UInt8} {ix : Int} (hg : guardOk ops S g = some true) (hd : dstOk n dst = true) (hu : P.underlying t = some .string)
    (hx : ev S x = some (str l)) (hy : ev S y = some (.int k ix)) (h0 : 0 ≤ ix) (h1 : ix < l.length) (h : ∀ c, l[ix.toNat]? = some c → K (.int .u8 c.toNat) D B L) : opX P n ops i ⟨dst, .index t x y, ty, pos, after, g⟩ K S D B L := by
  have hlt : ix.toNat < l.length := by omega
  exact w_index hg hd hu hx hy h0 (List.getElem?_eq_getElem hlt) (h _ (List.getElem?_eq_getElem hlt))
end

/-! ### owned slices -/
/-- Elements one by one. -/
inductive All2 {α : Type} (R : List Value → α → Prop) : List (List Value) → List α → Prop
  | nil : All2 R [] []
  | cons {row : List Value} {x : α} {rows : List (List Value)} {xs : List α} : R row x → All2 R rows xs → All2 R (row :: rows) (x :: xs)
theorem All2.len {α : Type} {R : List Value → α → Prop} {rows : List (List Value)} {xs : List α} (h : All2 R rows xs) : rows.length = xs.length := by
  induction h with
  | nil => rfl
  | cons _ _ ih => simp [ih]
theorem All2.mono {α : Type} {R R' : List Value → α → Prop} {rows : List (List Value)} {xs : List α} (hR : ∀ row x, R row x → R' row x) (h : All2 R rows xs) : All2 R' rows xs := by
  induction h with
  | nil => exact .nil
  | cons h1 _ ih => exact .cons (hR _ _ h1) ih
theorem All2.app {α : Type} {R : List Value → α → Prop} {rows rows' : List (List Value)} {xs xs' : List α} (h : All2 R rows xs) (h' : All2 R rows' xs') : All2 R (rows ++ rows') (xs ++ xs') := by
  induction h with
  | nil => exact h'
  | cons h1 _ ih => exact .cons h1 ih
theorem All2.get {α : Type} {R : List Value → α → Prop} {rows : List (List Value)} {xs : List α} (h : All2 R rows xs) : ∀ {i : Nat} {x : α}, xs[i]? = some x → ∃ row, rows[i]? = some row ∧ R row x := by
  induction h with
  | nil => intro i x hx; simp at hx
  | cons h1 _ ih =>
    intro i x hx
    cases i with
    | zero => simp only [List.getElem?_cons_zero, Option.some.injEq] at hx; subst hx; exact ⟨_, rfl, h1⟩
    | succ i => exact ih (by simpa using hx)
theorem All2.set {α : Type} {R : List Value → α → Prop} {rows : List (List Value)} {xs : List α} (h : All2 R rows xs) {row : List Value} {x : α} (hr : R row x) : ∀ i, All2 R (rows.set i row) (xs.set i x) := by
  induction h with
  | nil => intro i; exact .nil
  | cons h1 h2 ih =>
    intro i
    cases i with
    | zero => exact .cons hr h2
    | succ i => exact .cons h1 (ih i)
theorem All2.flat {α : Type} {C : α → List Value} : ∀ {rows : List (List Value)} {xs : List α}, All2 (fun row x => row = C x) rows xs → rows = xs.map C := by
  intro rows xs h
  induction h with
  | nil => rfl
  | cons h1 _ ih => rw [h1, ih]; rfl
theorem All2.ofFlat {α : Type} {C : α → List Value} : ∀ xs : List α, All2 (fun row x => row = C x) (xs.map C) xs
  | [] => .nil
  | x :: xs => .cons rfl (All2.ofFlat xs)

def wide (w : Nat) (rows : List (List Value)) : Prop := ∀ row, row ∈ rows → row.length = w
theorem wide_flat {w : Nat} : ∀ {rows : List (List Value)}, wide w rows → rows.flatten.length = rows.length * w
  | [], _ => by simp
  | row :: rows, h => by
    rw [List.flatten_cons, List.length_append, wide_flat (rows := rows) (fun r hr => h r (List.mem_cons_of_mem _ hr)), h row (List.mem_cons_self ..), List.length_cons, Nat.succ_mul, Nat.add_comm]
theorem wide_get {w : Nat} : ∀ {rows : List (List Value)}, wide w rows → ∀ {i j : Nat} {row : List Value} {u : Value}, rows[i]? = some row → row[j]? = some u → rows.flatten[i * w + j]? = some u
  | [], _, i, j, row, u, h, _ => by simp at h
  | r :: rows, hw, 0, j, row, u, h, hj => by
    simp only [List.getElem?_cons_zero, Option.some.injEq] at h
    subst h
    have hlt := (List.getElem?_eq_some_iff.1 hj).1
    rw [Nat.zero_mul, Nat.zero_add, List.flatten_cons, List.getElem?_append_left hlt]; exact hj
  | r :: rows, hw, i + 1, j, row, u, h, hj => by
    have e := hw r (List.mem_cons_self ..)
    rw [List.flatten_cons, List.getElem?_append_right (by rw [e, Nat.succ_mul]; omega), e]
    have := wide_get (rows := rows) (fun r hr => hw r (List.mem_cons_of_mem _ hr)) (i := i) (j := j) (by simpa using h) hj
    rw [← this]
    congr 1
    rw [Nat.succ_mul]; omega

/-- 'l' is the storage of the slice (p, xs.length, c); what its elements lead to is known. -/
def VecR {α : Type} (B : Kn) (l : Cells) (p : Option Addr) (c : Nat) (T : TypeId) (w : Nat) (R : Rel α) (xs : List α) : Prop :=
  ∃ rows, All2 (R B) rows xs ∧ wide w rows ∧ VecL l p xs.length c T w rows.flatten
theorem VecR.mono {α : Type} {B B' : Kn} {l : Cells} {p : Option Addr} {c : Nat} {T : TypeId} {w : Nat} {R : Rel α} {xs : List α} (hR : Mono R) (hle : B.le B') (h : VecR B l p c T w R xs) : VecR B' l p c T w R xs :=
  let ⟨rows, h1, h2, h3⟩ := h; ⟨rows, h1.mono fun _ _ => hR hle, h2, h3⟩
theorem VecR.nil {α : Type} {B : Kn} {T : TypeId} {w : Nat} {R : Rel α} : VecR B [] none 0 T w R ([] : List α) := ⟨[], .nil, (fun _ h => by cases h), VecL.nil T w⟩
theorem VecR.lit0 {α : Type} {B : Kn} {b : Nat} {T : TypeId} {w : Nat} {R : Rel α} : VecR B (box1 b [] T) (some ⟨b, 0, none⟩) 0 T w R ([] : List α) := ⟨[], .nil, (fun _ h => by cases h), VecL.lit (by simp)⟩
theorem VecR.cap {α : Type} {B : Kn} {l : Cells} {p : Option Addr} {c : Nat} {T : TypeId} {w : Nat} {R : Rel α} {xs : List α} (h : VecR B l p c T w R xs) : xs.length ≤ c := by
  obtain ⟨rows, _, _, _, ⟨_, h0, _, _⟩ | ⟨b, arr, _, _, _, _, hm⟩⟩ := h
  · omega
  · exact hm
/-- A slice literal, row by row. -/
theorem VecR.lit {α : Type} {B : Kn} {b : Nat} {T : TypeId} {w : Nat} {R : Rel α} {xs : List α} {rows : List (List Value)} (h : All2 (R B) rows xs) (hw : wide w rows) : VecR B (box1 b rows.flatten T) (some ⟨b, 0, none⟩) xs.length T w R xs :=
  ⟨rows, h, hw, VecL.lit (by rw [wide_flat hw, h.len])⟩
/-- Published: it is read from now on. -/
theorem VecR.rows {α : Type} {B B' : Kn} {l : Cells} {p : Option Addr} {c : Nat} {T : TypeId} {w : Nat} {R : Rel α} {xs : List α} (h : VecR B l p c T w R xs) (hR : Mono R) (hle : B.le B') (hm : ∀ q, q ∈ l → B'.mem q.1 = some q.2) : RowsR B' p w R xs := by
  obtain ⟨rows, h1, h2, h3, ⟨rfl, hn, _, rfl⟩ | ⟨b, arr, rfl, ha, ht, rfl, hmc⟩⟩ := h
  · have : xs = [] := List.eq_nil_of_length_eq_zero hn
    subst this; exact .nil
  · intro i x hi
    obtain ⟨row, hr1, hr2⟩ := h1.get hi
    refine ⟨b, 0, row, rfl, hR hle hr2, fun j u hj => ?_⟩
    have hu := wide_get h2 hr1 hj
    rw [← ht, List.getElem?_take] at hu
    split at hu
    · refine ⟨rfl, arr.toArray, T, (0, 0), .inl (hm (b, _) (List.mem_singleton.2 rfl)), ?_⟩
      rw [Nat.zero_add]; simpa using hu
    · cases hu
/-- Read while it is owned: number j of what is owned. -/
theorem VecR.row {α : Type} {B : Kn} {l : Cells} {p : Option Addr} {c : Nat} {T : TypeId} {w : Nat} {R : Rel α} {xs : List α} (h : VecR B l p c T w R xs) {i : Nat} {x : α} (hi : xs[i]? = some x) :
    ∃ b row, p = some ⟨b, 0, none⟩ ∧ R B row x ∧ row.length = w ∧ ∀ {B' : Kn} (L : List Cells) (k : Nat), L[k]? = some l → ∀ j u, row[j]? = some u → At B' L ⟨b, i * w + j, none⟩ u := by
  obtain ⟨rows, h1, h2, h3, ⟨rfl, hn, _, rfl⟩ | ⟨b, arr, rfl, ha, ht, rfl, hmc⟩⟩ := h
  · have : xs = [] := List.eq_nil_of_length_eq_zero hn
    subst this; simp at hi
  · obtain ⟨row, hr1, hr2⟩ := h1.get hi
    refine ⟨b, row, rfl, hr2, h2 row (List.mem_of_getElem? hr1), fun {B'} L k hk j u hj => ?_⟩
    have hu := wide_get h2 hr1 hj
    rw [← ht, List.getElem?_take] at hu
    split at hu
    · exact atL k hk rfl hu
    · cases hu

section
variable {P : Program} {n : Nat} {ops : Array Oper} {i : Nat} {K : PostV} {S : Env} {D : List Deferred} {B : Kn} {L : List Cells}
variable {dst : Option Tmp} {ty : TypeId} {pos : String} {after : Array Edge} {g : Option (Nat × Bool)}
variable {α : Type} {R : Rel α} {xs ys : List α} {z : α}
/-- append of one element to an owned slice. -/
theorem w_app1 {BV : Kn} {t u e : TypeId} {x y : Operand} {sz by_ m c c2 : Nat} {p q : Option Addr} {row : List Value} {l : Cells} (j : Nat) (hj : L[j]? = some l) (hv : VecR BV l p c e sz R xs) (hm : m = xs.length) (hg : guardOk ops S g = some true) (hd : dstOk n dst = true)
    (he : elemOk P t e sz by_ = true) (hu : (match P.underlying u with | some (.slice _) => true | _ => false) = true) (hx : ev S x = some (.slice p m c)) (hy : ev S y = some (.slice q 1 c2)) (hs : SrcAt B L.flatten q row) (hone : row.all oneC = true) (hrl : row.length = sz) (hr : R BV row z) (hb1 : (xs.length + 1) * by_ ≤ 140737488355328)
    (h : ∀ l' p' c', VecR BV l' p' c' e sz R (xs ++ [z]) → K (.slice p' (xs ++ [z]).length c') D B (L.set j l')) : opX P n ops i ⟨dst, .call ⟨.builtin .append, #[x, y], #[t, u]⟩, ty, pos, after, g⟩ K S D B L := by
  subst hm
  obtain ⟨rows, h1, h2, h3⟩ := hv
  refine w_append j hj h3 hg hd he hu hx hy hs (by rw [hrl, Nat.one_mul]) hone hb1 fun l' p' c' hv' => ?_
  have := h l' p' c' ⟨rows ++ [row], h1.app (.cons hr .nil), ?_, ?_⟩
  · rwa [List.length_append] at this
  · intro r hr'
    rcases List.mem_append.1 hr' with hr' | hr'
    · exact h2 r hr'
    · rw [List.mem_singleton.1 hr']; exact hrl
  · rw [List.length_append, List.flatten_append]; simpa using hv'
/-- append of a known slice. -/
theorem w_appR {t u e : TypeId} {x y : Operand} {sz by_ m d c c2 : Nat} {p q : Option Addr} {l : Cells} (j : Nat) (hj : L[j]? = some l) (hv : VecR B l p c e sz R xs) (hm : m = xs.length) (hg : guardOk ops S g = some true) (hd : dstOk n dst = true)
    (he : elemOk P t e sz by_ = true) (hu : (match P.underlying u with | some (.slice _) => true | _ => false) = true) (hx : ev S x = some (.slice p m c)) (hy : ev S y = some (.slice q d c2)) (hdl : d = ys.length) (hs : RowsR B q sz R ys) (hone : ∀ row y, R B row y → row.all oneC = true ∧ row.length = sz) (hpos : Nat.blt 0 sz = true) (hb1 : (xs.length + ys.length) * by_ ≤ 140737488355328)
    (h : ∀ l' p' c', VecR B l' p' c' e sz R (xs ++ ys) → K (.slice p' (xs ++ ys).length c') D B (L.set j l')) : opX P n ops i ⟨dst, .call ⟨.builtin .append, #[x, y], #[t, u]⟩, ty, pos, after, g⟩ K S D B L := by
  subst hm; subst hdl
  obtain ⟨rows, h1, h2, h3⟩ := hv
  obtain ⟨rows', g1, g2, g3, g4⟩ : ∃ rows', All2 (R B) rows' ys ∧ wide sz rows' ∧ rows'.flatten.all oneC = true ∧ SrcAt B L.flatten q rows'.flatten := by
    have hrow : ∀ i : Fin ys.length, ∃ row, R B row ys[i] ∧ ∃ b o, q = some ⟨b, o, none⟩ ∧ ∀ j u, row[j]? = some u → CellAt B [] ⟨b, o + i * sz + j, none⟩ u := fun i => by
      obtain ⟨b, o, row, a1, a2, a3⟩ := hs i ys[i] (by simp)
      exact ⟨row, a2, b, o, a1, a3⟩
    let f : Fin ys.length → List Value := fun i => Classical.choose (hrow i)
    have hf : ∀ i, R B (f i) ys[i] ∧ ∃ b o, q = some ⟨b, o, none⟩ ∧ ∀ j u, (f i)[j]? = some u → CellAt B [] ⟨b, o + i * sz + j, none⟩ u := fun i => Classical.choose_spec (hrow i)
    have hall : ∀ (k : Nat) (zs : List α) (hz : ∀ j x, zs[j]? = some x → ys[k + j]? = some x), ∃ rs, All2 (R B) rs zs ∧ ∀ j row, rs[j]? = some row → ∃ hk : k + j < ys.length, row = f ⟨k + j, hk⟩ := by
      intro k zs
      induction zs generalizing k with
      | nil => intro _; exact ⟨[], .nil, fun j row h => by simp at h⟩
      | cons x zs ih =>
        intro hz
        obtain ⟨rs, a1, a2⟩ := ih (k + 1) (fun j y hy => by have := hz (j + 1) y (by simpa using hy); rwa [show k + (j + 1) = k + 1 + j from by omega] at this)
        have h0 := hz 0 x (by simp)
        obtain ⟨hk, hxe⟩ := List.getElem?_eq_some_iff.1 h0
        have hfk := (hf ⟨k + 0, hk⟩).1
        simp only [Fin.getElem_fin] at hfk
        rw [hxe] at hfk
        refine ⟨f ⟨k + 0, hk⟩ :: rs, .cons hfk a1, fun j row hj => ?_⟩
        cases j with
        | zero => simp only [List.getElem?_cons_zero, Option.some.injEq] at hj; exact ⟨hk, hj.symm⟩
        | succ j =>
          obtain ⟨hk2, e⟩ := a2 j row (by simpa using hj)
          refine ⟨by omega, ?_⟩
          rw [e]
          congr 2
          omega
    obtain ⟨rs, a1, a2⟩ := hall 0 ys (fun j x hx => by rwa [Nat.zero_add])
    have a2' : ∀ j row, rs[j]? = some row → ∃ hk : j < ys.length, row = f ⟨j, hk⟩ := fun j row hj => by
      obtain ⟨hk, e⟩ := a2 j row hj
      refine ⟨by omega, ?_⟩
      rw [e]; congr 2; omega
    have hw : wide sz rs := fun row hr => by
      obtain ⟨j, hj⟩ := List.mem_iff_getElem?.1 hr
      obtain ⟨hk, rfl⟩ := a2' j row hj
      exact (hone _ _ (hf ⟨j, hk⟩).1).2
    refine ⟨rs, a1, hw, ?_, ?_⟩
    · rw [List.all_flatten, List.all_eq_true]
      intro row hr
      obtain ⟨j, hj⟩ := List.mem_iff_getElem?.1 hr
      obtain ⟨hk, rfl⟩ := a2' j row hj
      exact (hone _ _ (hf ⟨j, hk⟩).1).1
    · have hsz : 0 < sz := by simpa using hpos
      cases hys : ys with
      | nil =>
        have : rs = [] := List.eq_nil_of_length_eq_zero (by rw [a1.len, hys]; rfl)
        subst this
        cases q with
        | none => rfl
        | some a => intro j v hj; simp at hj
      | cons y0 ys0 =>
        have hl0 : 0 < ys.length := by rw [hys]; simp
        obtain ⟨_, b, o, rfl, _⟩ := hf ⟨0, hl0⟩
        intro k v hk
        have hkl : k < rs.length * sz := by rw [← wide_flat hw]; exact (List.getElem?_eq_some_iff.1 hk).1
        have hir : k / sz < rs.length := Nat.div_lt_of_lt_mul (by rw [Nat.mul_comm]; exact hkl)
        have hrow2 : rs[k / sz]? = some rs[k / sz] := List.getElem?_eq_getElem hir
        have hjl : k % sz < (rs[k / sz]).length := by rw [hw _ (List.getElem_mem hir)]; exact Nat.mod_lt _ hsz
        have hg2 := wide_get hw hrow2 (List.getElem?_eq_getElem hjl)
        rw [Nat.mul_comm (k / sz) sz, Nat.div_add_mod] at hg2
        rw [hk] at hg2
        obtain ⟨hk3, e3⟩ := a2' _ _ hrow2
        obtain ⟨_, b', o', eb, hc⟩ := hf ⟨k / sz, hk3⟩
        cases eb
        have := hc (k % sz) v (by rw [← e3, List.getElem?_eq_getElem hjl]; exact hg2.symm)
        rw [Addr.add_off _ _ rfl]
        simp only [] at this
        rw [Nat.add_assoc, Nat.mul_comm (k / sz) sz, Nat.div_add_mod] at this
        exact CellAt.app (F := L.flatten) this
  refine w_append j hj h3 hg hd he hu hx hy g4 (by rw [wide_flat g2, g1.len]) g3 hb1 fun l' p' c' hv' => ?_
  have := h l' p' c' ⟨rows ++ rows', h1.app g1, ?_, ?_⟩
  · rwa [List.length_append] at this
  · intro r hr'
    rcases List.mem_append.1 hr' with hr' | hr'
    · exact h2 r hr'
    · exact g2 r hr'
  · rw [List.length_append, List.flatten_append]; exact hv'
/-- The address of an element of an owned slice. -/
theorem w_ixO {BV : Kn} {t e T : TypeId} {x y : Operand} {k : IntKind} {p : Option Addr} {len cap sz : Nat} {ix : Int} {l : Cells} (hv : VecR BV l p cap T sz R xs) (hg : guardOk ops S g = some true) (hd : dstOk n dst = true) (hu : P.underlying t = some (.slice e)) (hsz : sizeIs P e = some sz)
    (hx : ev S x = some (.slice p len cap)) (hy : ev S y = some (.int k ix)) (hlen : len = xs.length) (h0 : 0 ≤ ix) (hz : xs[ix.toNat]? = some z)
    (h : ∀ b row, p = some ⟨b, 0, none⟩ → R BV row z → row.length = sz → (∀ (L : List Cells) (k : Nat), L[k]? = some l → ∀ j u, row[j]? = some u → At B L ⟨b, ix.toNat * sz + j, none⟩ u) → K (ptr ⟨b, ix.toNat * sz, none⟩) D B L) : opX P n ops i ⟨dst, .indexAddr t x y, ty, pos, after, g⟩ K S D B L := by
  obtain ⟨b, row, rfl, h2, h3, h4⟩ := hv.row hz
  have hlt : ix.toNat < xs.length := (List.getElem?_eq_some_iff.1 hz).1
  refine w_indexAddr hg hd hu hsz hx hy h0 (by omega) ?_
  rw [Addr.add_off _ _ rfl]
  rw [Nat.zero_add]
  exact h b row rfl h2 h3 (fun L k hk j u hj => h4 (B' := B) L k hk j u hj)
end
/-- A segment is published: what it holds is read from now on. -/
theorem w_pubR {P : Program} {n : Nat} {Q : Exit → Post4} {S : Env} {D : List Deferred} {B : Kn} {L : List Cells} {c : Code} {α : Type} {R : Rel α} {xs : List α} {l : Cells} {p : Option Addr} {cp : Nat} {T : TypeId} {w : Nat} (j : Nat) (hj : L[j]? = some l) (hv : VecR B l p cp T w R xs) (hR : Mono R)
    (h : ∀ B', B.le B' → RowsR B' p w R xs → wpS P n c Q S D B' (L.set j [])) : wpS P n c Q S D B L :=
  w_pub j hj fun B' hle hm => h B' hle (hv.rows hR hle hm)
end Go.BL

namespace Go.BL
open Go.Conc (G)
theorem RowsR.base {α : Type} {B : Kn} {q : Option Addr} {w : Nat} {R : Rel α} {xs : List α} (h : RowsR B q w R xs) {i : Nat} {z : α} (hz : xs[i]? = some z) : ∃ b o, q = some ⟨b, o, none⟩ := by
  obtain ⟨b, o, _, h1, _⟩ := h i z hz; exact ⟨b, o, h1⟩
theorem RowsR.elem {α : Type} {B : Kn} {b o w : Nat} {R : Rel α} {xs : List α} (h : RowsR B (some ⟨b, o, none⟩) w R xs) {i : Nat} {z : α} (hz : xs[i]? = some z) : ∃ row, R B row z ∧ RowAt' B b (o + i * w) row := by
  obtain ⟨b', o', row, h1, h2, h3⟩ := h i z hz
  cases h1
  exact ⟨row, h2, fun L j u hj => CellAt.app (F := L.flatten) (h3 j u hj)⟩
theorem getLt {α : Type} {xs : List α} {i : Nat} (h : i < xs.length) : ∃ z, xs[i]? = some z := ⟨_, List.getElem?_eq_getElem h⟩
theorem getI {α : Type} {xs : List α} {i : Int} (h0 : 0 ≤ i) (h : i < xs.length) : ∃ z, xs[i.toNat]? = some z := getLt (by omega)
theorem RowAt'.mono {B B' : Kn} {b o : Nat} {row : List Value} (hle : B.le B') (h : RowAt' B b o row) : RowAt' B' b o row := fun L j u hj => (h L j u hj).mono hle
def setAll : List Cells → List Nat → List Cells → List Cells
  | L, [], _ => L
  | L, _, [] => L
  | L, j :: js, s :: ss => setAll (L.set j s) js ss
theorem sub_sel : ∀ (ks : List Nat) (S : Env), Sub (sel ks S) S
  | [], _ => trivial
  | k :: ks, S => by
    simp only [sel]
    cases h : get S k with
    | none => exact sub_sel ks S
    | some v => exact ⟨h, sub_sel ks S⟩
theorem sub_app : ∀ {V S0 S : Env}, Sub V S → Sub S0 S → Sub (V ++ S0) S
  | [], _, _, _, h => h
  | _ :: _, _, _, h, h' => ⟨h.1, sub_app h.2 h'⟩
section
variable {P : Program} {n : Nat} {ops : Array Oper} {i : Nat} {K : PostV} {S : Env} {D : List Deferred} {B : Kn} {L : List Cells} {Q : Exit → Post4}
variable {dst : Option Tmp} {ty : TypeId} {pos : String} {after : Array Edge} {g : Option (Nat × Bool)}
/-- What one round owes; what it has made besides is let go. -/
def rndE {α : Type} (St : α → Env) (Lo : α → List Cells) (Iv : α → Kn → Prop) (μ : α → Nat) (D : List Deferred) (x : α) (Q : Exit → Post4) : Exit → Post4
  | .normal => fun S' D' B' L' => ∃ x', μ x' < μ x ∧ Iv x' B' ∧ Sub (St x') S' ∧ (∃ gl, L'.flatten.Perm ((Lo x').flatten ++ gl)) ∧ D' = D
  | e => Q e
/-- A LOOP of which only what changes is said: the slots 'V', the segments 'js'. -/
theorem w_loopE {c : Code} {α : Type} (ks : List Nat) (V : α → Env) (js : List Nat) (M : α → List Cells) (Iv : α → Kn → Prop) (μ : α → Nat) (x₀ : α) (hS : Sub (V x₀) S) (hL : L = setAll L js (M x₀)) (hI : Iv x₀ B)
    (round : ∀ x B', B.le B' → Iv x B' → wpS P n c (rndE (fun x => V x ++ sel ks S) (fun x => setAll L js (M x)) Iv μ D x Q) (V x ++ sel ks S) D B' (setAll L js (M x))) : wpS P n (.loop c) Q S D B L := fun C k T hn hT hA => by
  have hS' : Sub (V x₀ ++ sel ks S) S := sub_app hS (sub_sel ks S)
  have key : ∀ m x B' T, μ x = m → B.le B' → Iv x B' → T.size = n → Ag T (V x ++ sel ks S) → C.X.R (G (fat C.b T D (.code c :: .inLoop c :: k)) C.cs) B' ((setAll L js (M x)).flatten ++ C.F) := by
    intro m
    induction m using Nat.strongRecOn with
    | _ m ih =>
      intro x B' T hm hle hI hn hT
      refine round x B' hle hI C (.inLoop c :: k) T hn hT fun e S' D' B'' L' T' hle' hq hn' hT' => ?_
      cases e with
      | normal =>
        obtain ⟨x', hlt, hI', hs', ⟨gl, hp⟩, rfl⟩ := hq
        refine C.X.ctl rfl (fun w => st_inLoop) ?_
        refine C.X.drop (r := (setAll L js (M x')).flatten ++ C.F) (gl := gl) ((hp.append_right C.F).trans ?_) (ih (μ x') (hm ▸ hlt) x' B'' T' rfl (hle.trans hle') hI' hn' (hT'.sub hs'))
        rw [List.append_assoc, List.append_assoc]
        exact List.Perm.append_left _ List.perm_append_comm
      | exit id => exact After.push rfl (by simp) (hA (.exit id) S' D' B'' L' T' (hle.trans hle') hq hn' hT')
      | ret => exact After.push (x := .inLoop c) rfl (by simp) (hA .ret S' D' B'' L' T' (hle.trans hle') hq hn' hT')
      | goto l => exact hA (.goto l) S' D' B'' L' T' (hle.trans hle') hq hn' hT'
      | panic ch => exact hA (.panic ch) S' D' B'' L' T' (hle.trans hle') hq hn' hT'
      | outgrown => exact hA .outgrown S' D' B'' L' T' (hle.trans hle') hq hn' hT'
  refine C.X.ctl rfl (fun w => st_loop) ?_
  have := key _ x₀ B T rfl (Kn.le.refl B) hI hn (hT.sub hS')
  rwa [← hL] at this
theorem rndE_r {α : Type} {St : α → Env} {Lo : α → List Cells} {Iv : α → Kn → Prop} {μ : α → Nat} {D' : List Deferred} {x : α} (h : Q .ret S D B L) : rndE St Lo Iv μ D' x Q .ret S D B L := h
theorem rndE_x {α : Type} {St : α → Env} {Lo : α → List Cells} {Iv : α → Kn → Prop} {μ : α → Nat} {D' : List Deferred} {x : α} {id : Nat} (h : Q (.exit id) S D B L) : rndE St Lo Iv μ D' x Q (.exit id) S D B L := h
theorem rndE_n {α : Type} {St : α → Env} {Lo : α → List Cells} {Iv : α → Kn → Prop} {μ : α → Nat} {x : α} (x' : α) (js : List Nat) {r : List Cells} (hm : μ x' < μ x) (hi : Iv x' B) (hs : Sub (St x') S) (hl : pickAll L js = some (Lo x', r)) : rndE St Lo Iv μ D x Q .normal S D B L :=
  ⟨x', hm, hi, hs, ⟨r.flatten, pickAll_perm js L _ r hl⟩, rfl⟩
/-- xs[a:b], its value known beforehand. -/
theorem w_cutV {t e : TypeId} {x : Operand} {lo hi : Option Operand} {p : Option Addr} {len cap sz : Nat} {a b : Nat} {v : Value} (hv : Value.slice (if cap = a then p else p.map (·.add (a * sz))) (b - a) (cap - a) = v) (hab : a ≤ b) (hb' : b ≤ cap) (hg : guardOk ops S g = some true) (hd : dstOk n dst = true) (hu : P.underlying t = some (.slice e)) (hsz : sizeIs P e = some sz)
    (hx : ev S x = some (.slice p len cap)) (hlo : match lo with | none => a = 0 | some o => ∃ k, ∃ z : Int, ev S o = some (.int k z) ∧ z = a) (hhi : match hi with | none => b = len | some o => ∃ k, ∃ z : Int, ev S o = some (.int k z) ∧ z = b)
    (h : K v D B L) : opX P n ops i ⟨dst, .slice t x lo hi none, ty, pos, after, g⟩ K S D B L :=
  w_sliceV hg hd hu hsz hx hlo hhi hab hb' (by rw [hv]; exact h)
theorem w_ixB {t e : TypeId} {x y : Operand} {k : IntKind} {b o len cap sz : Nat} {ix : Int} (hg : guardOk ops S g = some true) (hd : dstOk n dst = true) (hu : P.underlying t = some (.slice e)) (hsz : sizeIs P e = some sz)
    (hx : ev S x = some (.slice (some ⟨b, o, none⟩) len cap)) (hy : ev S y = some (.int k ix)) (h0 : 0 ≤ ix) (h1 : ix < len) (h : K (ptr ⟨b, o + ix.toNat * sz, none⟩) D B L) : opX P n ops i ⟨dst, .indexAddr t x y, ty, pos, after, g⟩ K S D B L :=
  w_indexAddr hg hd hu hsz hx hy h0 h1 (by rw [Addr.add_off _ _ rfl]; exact h)
/-- xs[a:b] of a known slice. -/
theorem w_cutR {t e : TypeId} {x : Operand} {lo hi : Option Operand} {p : Option Addr} {len cap sz : Nat} {a b : Nat} {α : Type} {R : Rel α} {xs : List α} (hr : RowsR B p sz R xs) (hlen : len = xs.length) (hcap : xs.length ≤ cap) (hg : guardOk ops S g = some true) (hd : dstOk n dst = true) (hu : P.underlying t = some (.slice e)) (hsz : sizeIs P e = some sz)
    (hx : ev S x = some (.slice p len cap)) (hlo : match lo with | none => a = 0 | some o => ∃ k, ∃ z : Int, ev S o = some (.int k z) ∧ z = a) (hhi : match hi with | none => b = len | some o => ∃ k, ∃ z : Int, ev S o = some (.int k z) ∧ z = b) (hab : a ≤ b) (hb' : b ≤ xs.length)
    (h : ∀ p' cap', ((xs.take b).drop a).length ≤ cap' → RowsR B p' sz R ((xs.take b).drop a) → K (.slice p' ((xs.take b).drop a).length cap') D B L) : opX P n ops i ⟨dst, .slice t x lo hi none, ty, pos, after, g⟩ K S D B L := by
  have e1 : ((xs.take b).drop a).length = b - a := by rw [List.length_drop, List.length_take]; omega
  refine w_sliceV hg hd hu hsz hx hlo hhi hab (by omega) ?_
  have := h (if cap = a then p else p.map (·.add (a * sz))) (cap - a) (by rw [e1]; omega) (hr.cut hb' hcap)
  rwa [e1] at this
/-- A call whose results lie in memory that is known from now on. -/
theorem w_callP {f : FuncId} {xs : List Operand} {vs : List Value} {ats : Array TypeId} {Post : Value → Kn → Prop} (hg : guardOk ops S g = some true) (hd : dstOk n dst = true) (he : enters P f = true) (ha : evs S xs = some vs) (hc : CallsB P f vs B [] (fun v B' Ls => Ls = [] ∧ Post v B'))
    (h : ∀ v B', B.le B' → Post v B' → K v D B' L) : opX P n ops i ⟨dst, .call ⟨.value (.func f), xs.toArray, ats⟩, ty, pos, after, g⟩ K S D B L :=
  w_call hg hd he ha hc fun v B' Ls hle ⟨h1, h2⟩ => by subst h1; rw [List.append_nil]; exact h v B' hle h2
end
end Go.BL

namespace Go.BL
open Go.Conc (G)
/-- A slice of known memory, with its bounds. -/
structure SlK {α : Type} (B : Kn) (q : Option Addr) (cp w : Nat) (R : Rel α) (xs : List α) : Prop where
  rows : RowsR B q w R xs
  cap : xs.length ≤ cp
  len : xs.length ≤ 2000000
theorem SlK.mono {α : Type} {B B' : Kn} {q : Option Addr} {cp w : Nat} {R : Rel α} {xs : List α} (h : SlK B q cp w R xs) (hR : Mono R) (hle : B.le B') : SlK B' q cp w R xs := ⟨h.rows.mono hR hle, h.cap, h.len⟩
theorem SlK.base {α : Type} {B : Kn} {q : Option Addr} {cp w : Nat} {R : Rel α} {xs : List α} (h : SlK B q cp w R xs) {i : Nat} {z : α} (hz : xs[i]? = some z) : ∃ b o, q = some ⟨b, o, none⟩ := h.rows.base hz
theorem SlK.elem {α : Type} {B : Kn} {b o cp w : Nat} {R : Rel α} {xs : List α} (h : SlK B (some ⟨b, o, none⟩) cp w R xs) {i : Nat} {z : α} (hz : xs[i]? = some z) : ∃ row, R B row z ∧ RowAt' B b (o + i * w) row := h.rows.elem hz
theorem SlK.nil {α : Type} {B : Kn} {q : Option Addr} {cp w : Nat} {R : Rel α} : SlK B q cp w R ([] : List α) := ⟨.nil, Nat.zero_le _, Nat.zero_le _⟩
theorem rowO {B : Kn} {L : List Cells} {b o : Nat} {row vs : List Value} {a : Addr} {l : Cells} (hc : ∀ (L : List Cells) (k : Nat), L[k]? = some l → ∀ j u, row[j]? = some u → At B L ⟨b, o + j, none⟩ u) (k : Nat) (hk : L[k]? = some l) (off : Nat) (ha : a = ⟨b, o + off, none⟩) (hv : (row.drop off).take vs.length = vs) : RowAt B L a vs := by
  intro i v hi
  subst ha
  rw [Addr.add_off _ _ rfl]
  have hlt : i < vs.length := (List.getElem?_eq_some_iff.1 hi).1
  have : row[off + i]? = some v := by
    have e := congrArg (fun l => l[i]?) hv
    simp only [List.getElem?_take, if_pos hlt, List.getElem?_drop] at e
    rw [e, hi]
  have := hc L k hk _ v this
  rwa [show o + (off + i) = o + off + i from by omega] at this
section
variable {P : Program} {n : Nat} {ops : Array Oper} {i : Nat} {K : PostV} {S : Env} {D : List Deferred} {B : Kn} {L : List Cells} {Q : Exit → Post4}
variable {dst : Option Tmp} {ty : TypeId} {pos : String} {after : Array Edge} {g : Option (Nat × Bool)}
theorem opW_nil {o : Oper} {K : Post4} (h : opW P n ops i o K S D B (L ++ [[]])) : opW P n ops i o K S D B L := fun C todo k T ho hn hT hA => by
  have := h C todo k T ho hn hT hA
  simpa using this
theorem w_cutK {t e : TypeId} {x : Operand} {lo hi : Option Operand} {p : Option Addr} {len cap sz : Nat} {a b : Nat} {α : Type} {R : Rel α} {xs : List α} (hr : SlK B p cap sz R xs) (hlen : len = xs.length) (hg : guardOk ops S g = some true) (hd : dstOk n dst = true) (hu : P.underlying t = some (.slice e)) (hsz : sizeIs P e = some sz)
    (hx : ev S x = some (.slice p len cap)) (hlo : match lo with | none => a = 0 | some o => ∃ k, ∃ z : Int, ev S o = some (.int k z) ∧ z = a) (hhi : match hi with | none => b = len | some o => ∃ k, ∃ z : Int, ev S o = some (.int k z) ∧ z = b) (hab : a ≤ b) (hb' : b ≤ xs.length)
    (h : ∀ p' cap', SlK B p' cap' sz R ((xs.take b).drop a) → K (.slice p' ((xs.take b).drop a).length cap') D B L) : opX P n ops i ⟨dst, .slice t x lo hi none, ty, pos, after, g⟩ K S D B L :=
  w_cutR hr.rows hlen hr.cap hg hd hu hsz hx hlo hhi hab hb' fun p' cap' h1 h2 => h p' cap' ⟨h2, h1, by have := hr.len; rw [List.length_drop, List.length_take]; omega⟩
end
/-- A segment is published. -/
theorem w_pubK {P : Program} {n : Nat} {Q : Exit → Post4} {S : Env} {D : List Deferred} {B : Kn} {L : List Cells} {c : Code} {α : Type} {R : Rel α} {xs : List α} {l : Cells} {p : Option Addr} {cp : Nat} {T : TypeId} {w : Nat} (j : Nat) (hj : L[j]? = some l) (hv : VecR B l p cp T w R xs) (hR : Mono R) (hl : xs.length ≤ 2000000)
    (h : ∀ B', B.le B' → SlK B' p cp w R xs → wpS P n c Q S D B' (L.set j [])) : wpS P n c Q S D B L :=
  w_pub j hj fun B' hle hm => h B' hle ⟨hv.rows hR hle hm, hv.cap, hl⟩
end Go.BL

namespace Go.BL
theorem SlK.cutE {α : Type} {B : Kn} {q : Option Addr} {cp w : Nat} {R : Rel α} {xs : List α} (h : SlK B q cp w R xs) (a b : Nat) (hab : a ≤ b) (hb : b ≤ xs.length) : b ≤ cp ∧ ∃ q' cp', Value.slice (if cp = a then q else q.map (·.add (a * w))) (b - a) (cp - a) = .slice q' ((xs.take b).drop a).length cp' ∧ SlK B q' cp' w R ((xs.take b).drop a) := by
  have e1 : ((xs.take b).drop a).length = b - a := by rw [List.length_drop, List.length_take]; omega
  have hc := h.cap
  have hl := h.len
  exact ⟨by omega, _, _, by rw [e1], h.rows.cut hb h.cap, by omega, by omega⟩
end Go.BL

namespace Go.BL
open Go.Conc (G)
section
variable {P : Program} {n : Nat} {ops : Array Oper} {i : Nat} {K : PostV} {S : Env} {D : List Deferred} {B : Kn} {L : List Cells} {Q : Exit → Post4}
variable {dst : Option Tmp} {ty : TypeId} {pos : String} {after : Array Edge} {g : Option (Nat × Bool)}
variable {α : Type} {R : Rel α} {xs : List α}
/-- append of some elements to an owned slice. -/
theorem w_appN {BV : Kn} {t u e : TypeId} {x y : Operand} {sz by_ m d c c2 : Nat} {p q : Option Addr} {rows : List (List Value)} {ys : List α} {l : Cells} (j : Nat) (hj : L[j]? = some l) (hv : VecR BV l p c e sz R xs) (hm : m = xs.length) (hg : guardOk ops S g = some true) (hd : dstOk n dst = true)
    (he : elemOk P t e sz by_ = true) (hu : (match P.underlying u with | some (.slice _) => true | _ => false) = true) (hx : ev S x = some (.slice p m c)) (hy : ev S y = some (.slice q d c2)) (hdl : d = ys.length) (hs : SrcAt B L.flatten q rows.flatten) (hone : rows.flatten.all oneC = true) (hw : wide sz rows) (hr : All2 (R BV) rows ys) (hb1 : (xs.length + ys.length) * by_ ≤ 140737488355328)
    (h : ∀ l' p' c', VecR BV l' p' c' e sz R (xs ++ ys) → K (.slice p' (xs ++ ys).length c') D B (L.set j l')) : opX P n ops i ⟨dst, .call ⟨.builtin .append, #[x, y], #[t, u]⟩, ty, pos, after, g⟩ K S D B L := by
  subst hm; subst hdl
  obtain ⟨rows0, h1, h2, h3⟩ := hv
  refine w_append j hj h3 hg hd he hu hx hy hs (by rw [wide_flat hw, hr.len]) hone hb1 fun l' p' c' hv' => ?_
  have := h l' p' c' ⟨rows0 ++ rows, h1.app hr, ?_, ?_⟩
  · rwa [List.length_append] at this
  · intro r hr'
    rcases List.mem_append.1 hr' with hr' | hr'
    · exact h2 r hr'
    · exact hw r hr'
  · rw [List.length_append, List.flatten_append]; exact hv'
end
theorem VecL.take {l : Cells} {p : Option Addr} {n c k : Nat} {T : TypeId} {sz : Nat} {vs : List Value} (h : VecL l p n c T sz vs) (hk : k ≤ n) : VecL l p k c T sz (vs.take (k * sz)) := by
  obtain ⟨h1, h2⟩ := h
  have hks : k * sz ≤ n * sz := Nat.mul_le_mul_right sz hk
  refine ⟨by rw [List.length_take, h1]; exact Nat.min_eq_left hks, ?_⟩
  rcases h2 with ⟨rfl, rfl, rfl, rfl⟩ | ⟨b, arr, rfl, h2, h3, rfl, h4⟩
  · exact .inl ⟨rfl, by omega, rfl, rfl⟩
  · refine .inr ⟨b, arr, rfl, h2, ?_, rfl, by omega⟩
    rw [← h3, List.take_take, Nat.min_eq_left hks]
theorem All2.take {α : Type} {R : List Value → α → Prop} {rows : List (List Value)} {xs : List α} (h : All2 R rows xs) : ∀ k, All2 R (rows.take k) (xs.take k) := by
  induction h with
  | nil => intro k; simp; exact .nil
  | cons h1 _ ih =>
    intro k
    cases k with
    | zero => exact .nil
    | succ k => exact .cons h1 (ih k)
theorem flatten_take {w : Nat} : ∀ {rows : List (List Value)}, wide w rows → ∀ k, (rows.take k).flatten = rows.flatten.take (k * w)
  | [], _, k => by simp
  | r :: rows, h, 0 => by simp
  | r :: rows, h, k + 1 => by
    have e := h r (List.mem_cons_self ..)
    rw [List.take_succ_cons, List.flatten_cons, List.flatten_cons, flatten_take (fun r hr => h r (List.mem_cons_of_mem _ hr)) k, show (k + 1) * w = r.length + k * w from by rw [e, Nat.succ_mul, Nat.add_comm], List.take_length_add_append]
theorem VecR.take {α : Type} {B : Kn} {l : Cells} {p : Option Addr} {c : Nat} {T : TypeId} {w : Nat} {R : Rel α} {xs : List α} (h : VecR B l p c T w R xs) {k : Nat} (hk : k ≤ xs.length) : VecR B l p c T w R (xs.take k) := by
  obtain ⟨rows, h1, h2, h3⟩ := h
  refine ⟨rows.take k, h1.take k, fun r hr => h2 r (List.mem_of_mem_take hr), ?_⟩
  rw [flatten_take h2]
  have := h3.take hk
  rwa [show (xs.take k).length = k from by rw [List.length_take]; omega]
end Go.BL

namespace Go.BL
open Go.Conc (G)
section
variable {P : Program} {n : Nat} {ops : Array Oper} {i : Nat} {S : Env} {D : List Deferred} {B : Kn} {L : List Cells} {Q : Exit → Post4}
variable {α : Type} {R : Rel α} {xs : List α} {l : Cells} {p : Option Addr} {cp : Nat} {T : TypeId} {w : Nat}
/-- A segment is published within a region. -/
theorem r_pubK {o : Oper} {K : Post4} (j : Nat) (hj : L[j]? = some l) (hv : VecR B l p cp T w R xs) (hR : Mono R) (hl : xs.length ≤ 2000000)
    (h : ∀ B', B.le B' → SlK B' p cp w R xs → opW P n ops i o K S D B' (L.set j [])) : opW P n ops i o K S D B L := fun C todo k T ho hn hT hA => by
  obtain ⟨r, h1, h2⟩ := set_perm C.F [] hj
  exact C.X.publish rfl h1 fun B' hle hm => C.X.perm (by simpa using h2.symm) (h B' hle ⟨hv.rows hR hle hm, hv.cap, hl⟩ C todo k T ho hn hT fun S' D' B'' L' T' hle' hq => hA S' D' B'' L' T' (hle.trans hle') hq)
theorem a_pubK {I : Kn → List Cells → Prop} {ℓ : List Nat} {K : Post4} (j : Nat) (hj : L[j]? = some l) (hv : VecR B l p cp T w R xs) (hR : Mono R) (hl : xs.length ≤ 2000000) (hI' : ∀ B', B.le B' → I B' (L.set j []))
    (h : ∀ B', B.le B' → SlK B' p cp w R xs → AnyW P n ops I ℓ K S D B' (L.set j [])) : AnyW P n ops I ℓ K S D B L := fun C k T ex pend π a1 a2 a3 a4 a5 a6 a7 a8 a9 hI hA => by
  obtain ⟨r, h1, h2⟩ := set_perm C.F [] hj
  exact C.X.publish rfl h1 fun B' hle hm => C.X.perm (by simpa using h2.symm) (h B' hle ⟨hv.rows hR hle hm, hv.cap, hl⟩ C k T ex pend π a1 a2 a3 a4 a5 a6 a7 a8 a9 (hI' B' hle) fun S' D' B'' L' T' hle' hq => hA S' D' B'' L' T' (hle.trans hle') hq)
/-- A function's end: an empty segment is handed back. -/
theorem endE {rs : List ResultVar} {Post : Value → Kn → List Cells → Prop} (e : Exit) (he : e = .ret ∨ e = .normal) (vs : List Value) (hr : resAll P S B L rs vs) (hq : Post (resVal vs) B [[]]) : bodyQ P rs Post e S [] B L :=
  ⟨he, rfl, vs, [[]], hr, ⟨L.flatten, by simp⟩, hq⟩
end
end Go.BL
