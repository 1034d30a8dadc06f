/-
  BL: partitions of what is owned; a list that is walked by the place that leads to the node at hand; what an append in place, a full slice and a clear do.
-/
import Derived.Test.YtnhgfdfmfhkcmaaBLInv
namespace Go.BL
open Go.Conc (G)
set_option linter.unusedVariables false
/-- Two lists of owned blocks are the same up to order: shown for whatever adds up over '++'. -/
theorem permC {a b : Cells} (h : ∀ (f : Cells → Nat) (g : Nat × Obj → Nat), f [] = 0 → (∀ x y, f (x ++ y) = f x + f y) → (∀ x l, f (x :: l) = g x + f l) → f a = f b) : a.Perm b := by
  classical
  rw [List.perm_iff_count]
  intro x
  exact h (fun l => l.count x) (fun y => if y == x then 1 else 0) (by simp) (fun l m => by simp [List.count_append]) (fun y l => by rw [List.count_cons, Nat.add_comm])
theorem Addr.add_blk (a : Addr) (i : Nat) : (a.add i).block = a.block := by unfold Addr.add; split <;> rfl
section
variable {P : Program} {n : Nat} {ops : Array Oper} {i : Nat} {K : PostV} {S : Env} {D : List Deferred} {B : Kn} {L : List Cells} {Q : Exit → Post4}
variable {dst : Option Tmp} {ty : TypeId} {pos : String} {after : Array Edge} {g : Option (Nat × Bool)}
/-- An empty segment more. -/
theorem w_nil {c : Code} (h : wpS P n c Q S D B (L ++ [[]])) : wpS P n c Q S D B L := w_segs (L' := L ++ [[]]) (by simp) h
theorem opW_segs {o : Oper} {K : Post4} {L' : List Cells} (hp : L.flatten.Perm L'.flatten) (h : opW P n ops i o K S D B L') : opW P n ops i o K S D B L := fun C todo k T ho hn hT hA =>
  C.X.perm (hp.append_right _) (h C todo k T ho hn hT hA)
theorem split_perm {s a : Cells} {bs : List Cells} (j : Nat) (hj : L[j]? = some s) (hp : s.Perm (a ++ bs.flatten)) : L.flatten.Perm (L.set j a ++ bs).flatten := by
  obtain ⟨r, h1, h2⟩ := set_flat a hj
  refine h1.trans ((hp.append_right r).trans ?_)
  rw [List.flatten_append]
  refine List.Perm.trans ?_ (h2.symm.append_right _)
  rw [List.append_assoc, List.append_assoc]
  exact List.Perm.append_left _ List.perm_append_comm
theorem opW_split {o : Oper} {K : Post4} {s a : Cells} {bs : List Cells} (j : Nat) (hj : L[j]? = some s) (hp : s.Perm (a ++ bs.flatten)) (h : opW P n ops i o K S D B (L.set j a ++ bs)) : opW P n ops i o K S D B L :=
  opW_segs (split_perm j hj hp) h
/-- x[a:b:m] of a slice. -/
theorem w_slice3 {t e : TypeId} {x lo hi mx : Operand} {p : Option Addr} {len cap sz : Nat} {a b m : Nat} (hg : guardOk ops S g = some true) (hd : dstOk n dst = true) (hu : P.underlying t = some (.slice e)) (hsz : sizeIs P e = some sz)
    (hx : ev S x = some (.slice p len cap)) (hlo : ∃ k, ∃ z : Int, ev S lo = some (.int k z) ∧ z = a) (hhi : ∃ k, ∃ z : Int, ev S hi = some (.int k z) ∧ z = b) (hmx : ∃ k, ∃ z : Int, ev S mx = some (.int k z) ∧ z = m) (hab : a ≤ b) (hbm : b ≤ m) (hm : m ≤ cap)
    (h : ∀ v, K v D B L) : opX P n ops i ⟨dst, .slice t x (some lo) (some hi) (some mx), ty, pos, after, g⟩ K S D B L :=
  opX_pure hg hd (fun ρ hρ Q F q => by
    obtain ⟨k1, z1, h1, rfl⟩ := hlo
    obtain ⟨k2, z2, h2, rfl⟩ := hhi
    obtain ⟨k3, z3, h3, rfl⟩ := hmx
    simp only [execOp, Instr.sliceAt, Instr.slice, hρ x _ hx, hρ lo _ h1, hρ hi _ h2, hρ mx _ h3, hb_bind, hb_pure, hb_underlying hu, Option.map_some, Instr.sliceBounds, if_true]
    rw [hb_sliceBound (by omega) (by omega)]
    simp only [Int.toNat_natCast, hb_bind]
    rw [hb_sliceBound (by omega) (by omega)]
    simp only [hb_bind, Int.toNat_natCast]
    rw [hb_sliceBound (by omega) (by omega)]
    simp only [hb_bind, hb_pure, Int.toNat_natCast, hb_sizeOf hsz]
    exact q) (h (.slice (if m = a then p else p.map (·.add (a * sz))) (b - a) (m - a)))
/-- append(s, x...), s being the code's own and wide enough. -/
theorem w_appIn {t u e : TypeId} {x y : Operand} {sz by_ m c d c2 b : Nat} {q : Option Addr} {arr ws : List Value} (j : Nat) (hj : L[j]? = some (box1 b arr e)) (ha : arr.length = c * sz) (hg : guardOk ops S g = some true) (hd : dstOk n dst = true)
    (he : elemOk P t e sz by_ = true) (hu : (match P.underlying u with | some (.slice _) => true | _ => false) = true) (hx : ev S x = some (.slice (some ⟨b, 0, none⟩) m c)) (hy : ev S y = some (.slice q d c2)) (hs : SrcAt B L.flatten q ws) (hl : ws.length = d * sz) (hone : ws.all oneC = true) (hfit : m + d ≤ c)
    (h : K (.slice (some ⟨b, 0, none⟩) (m + d) c) D B (L.set j (box1 b (setAt arr (m * sz) ws) e))) : opX P n ops i ⟨dst, .call ⟨.builtin .append, #[x, y], #[t, u]⟩, ty, pos, after, g⟩ K S D B L :=
  opX_hb hg hd fun ρ hρ F => by
    unfold elemOk at he
    split at he
    · rename_i e' inf hut hie
      simp only [Bool.and_eq_true, beq_iff_eq] at he
      obtain ⟨⟨⟨⟨rfl, hsz⟩, hby⟩, hpos⟩, hz⟩ := he
      have hsi : sizeIs P e' = some sz := by simp [sizeIs, hie, hsz]
      obtain ⟨du, hdu, hnoint⟩ : ∃ du, P.underlying u = some du ∧ (match du with | .slice _ => true | _ => false) = true := by
        cases hq : P.underlying u with
        | none => rw [hq] at hu; cases hu
        | some du => exact ⟨du, rfl, by rw [hq] at hu; cases du <;> simp_all⟩
      obtain ⟨e2, rfl⟩ : ∃ e2, du = .slice e2 := by cases du <;> first | exact ⟨_, rfl⟩ | cases hnoint
      obtain ⟨rr, hp1, _⟩ := set_perm F [] hj
      have hset : ∀ l', ((L.set j l').flatten ++ F).Perm (l' ++ rr) := fun l' => by
        obtain ⟨r2, a1, a2⟩ := set_perm F l' hj
        have : rr.Perm r2 := (List.perm_append_left_iff (box1 b arr e')).1 (hp1.symm.trans a1)
        exact a2.trans (List.Perm.append_left l' this.symm)
      simp only [execOp, resolve, hb_bind, hb_pure, invoke, builtin, Builtin.append_, List.map_toArray, List.map_cons, List.map_nil, hρ x _ hx, hρ y _ hy, List.getElem?_toArray, List.getElem?_cons_zero, List.getElem?_cons_succ, hb_underlying hut, hb_underlying hdu, hb_sizeOf hsi, Bool.false_eq_true, if_false, Builtin.lenOf, Bool.not_false, if_true]
      rw [if_pos hfit]
      simp only [hb_bind]
      refine hb_firstCells hs.app hl ?_
      simp only [hb_bind]
      have hoff : (Addr.add ⟨b, 0, none⟩ (m * sz)).off = m * sz := by unfold Addr.add; split <;> simp_all
      have hblk : (Addr.add ⟨b, 0, none⟩ (m * sz)).block = b := by unfold Addr.add; split <;> rfl
      have hspt : (Addr.add ⟨b, 0, none⟩ (m * sz)).spot = none := by unfold Addr.add; split <;> rfl
      have hlen : m * sz + ws.length ≤ arr.length := by rw [ha, hl, ← Nat.add_mul]; exact Nat.mul_le_mul_right sz hfit
      refine hb_storeCells (T := e') (L₁ := rr) hspt ws 0 arr _ hone (by rw [hblk]; exact hp1) (by rw [hoff, Nat.add_zero]; exact hlen) fun L' hp => ?_
      simp only [hb_pure]
      rw [hblk, hoff, Nat.add_zero] at hp
      exact ⟨L.set j (box1 b (setAt arr (m * sz) ws) e'), (Sup.of (hp.trans (hset (box1 b (setAt arr (m * sz) ws) e')).symm)), h⟩
    · cases he
def zeroOne (P : Program) (e : TypeId) : Bool := match zeroOf P e with
  | some z => z.cells.toList.all oneC && Nat.blt 0 z.cells.size
  | none => false
/-- clear(s[a:b]) of a slice of the code's own. -/
theorem w_clear {t e T : TypeId} {x : Operand} {d c2 off b : Nat} {q : Option Addr} {arr : List Value} {sz : Nat} (j : Nat) (hj : L[j]? = some (box1 b arr T)) (hg : guardOk ops S g = some true) (hd : dstOk n dst = true) (hut : P.underlying t = some (.slice e)) (hsz : sizeIs P e = some sz) (hzo : ∃ z, zeroOf P e = some z ∧ z.cells.size = sz ∧ z.cells.toList.all oneC = true)
    (hx : ev S x = some (.slice q d c2)) (hq : 0 < d → q = some ⟨b, off, none⟩) (hfit : off + d * sz ≤ arr.length)
    (h : ∀ zs, zs.length = d * sz → K (.tuple #[]) D B (L.set j (box1 b (setAt arr off zs) T))) : opX P n ops i ⟨dst, .call ⟨.builtin .clear, #[x], #[t]⟩, ty, pos, after, g⟩ K S D B L :=
  opX_hb hg hd fun ρ hρ F => by
    obtain ⟨z, hz1, hz2, hz3⟩ := hzo
    obtain ⟨rr, hp1, _⟩ := set_perm F [] hj
    have hset : ∀ l', ((L.set j l').flatten ++ F).Perm (l' ++ rr) := fun l' => by
      obtain ⟨r2, a1, a2⟩ := set_perm F l' hj
      have : rr.Perm r2 := (List.perm_append_left_iff (box1 b arr T)).1 (hp1.symm.trans a1)
      exact a2.trans (List.Perm.append_left l' this.symm)
    simp only [execOp, resolve, hb_bind, hb_pure, invoke, builtin, Builtin.clear_, List.map_toArray, List.map_cons, List.map_nil, hρ x _ hx, List.getElem?_toArray, List.getElem?_cons_zero, hb_underlying hut]
    cases d with
    | zero =>
      have := h [] (by simp)
      rw [setAt_nil, set_self hj] at this
      cases q <;> (simp only [hb_pure, hb_bind]; exact ⟨L, .of (.refl _), this⟩)
    | succ d =>
      obtain rfl := hq (Nat.succ_pos d)
      simp only [hb_bind, hb_zeroValue hz1]
      have hone : (Builtin.zeroCells z.cells (d + 1)).toList.all oneC = true := by
        rw [List.all_eq_true]
        intro u hu
        simp only [Builtin.zeroCells, Array.toList_map, List.mem_map] at hu
        obtain ⟨k, hk, rfl⟩ := hu
        have hk' : k < (d + 1) * z.cells.size := by simpa using hk
        have hpos : 0 < z.cells.size := by
          rcases Nat.eq_zero_or_pos z.cells.size with e0 | e0
          · rw [e0] at hk'; simp at hk'
          · exact e0
        have hlt : k % z.cells.size < z.cells.size := Nat.mod_lt _ hpos
        rw [getElem!_pos z.cells _ hlt]
        exact List.all_eq_true.1 hz3 _ (by simp)
      have hlen : (Builtin.zeroCells z.cells (d + 1)).toList.length = (d + 1) * sz := by rw [Array.length_toList, zeroCells_size, hz2]
      refine hb_storeCells (T := T) (L₁ := rr) rfl _ 0 arr _ hone hp1 (by rw [Nat.add_zero, hlen]; exact hfit) fun L' hp => ?_
      simp only [hb_pure, hb_bind]
      rw [Nat.add_zero] at hp
      exact ⟨L.set j (box1 b (setAt arr off (Builtin.zeroCells z.cells (d + 1)).toList) T), (Sup.of (hp.trans (hset (box1 b (setAt arr off (Builtin.zeroCells z.cells (d + 1)).toList) T)).symm)), h _ hlen⟩
end
theorem setAt_keep : ∀ (l : List Value) (i : Nat) (vs : List Value) (k : Nat), k ≤ i → (setAt l i vs).take k = l.take k
  | l, i, [], k, _ => by rw [setAt_nil]
  | [], i, v :: vs, k, _ => by simp [setAt]
  | x :: l, 0, v :: vs, k, h => by obtain rfl : k = 0 := by omega
                                   rfl
  | x :: l, i + 1, v :: vs, 0, h => rfl
  | x :: l, i + 1, v :: vs, k + 1, h => by
    have := setAt_keep l i (v :: vs) k (by omega)
    simp only [setAt, List.take_succ_cons] at this ⊢
    rw [this]
/-- The place that leads to the node at hand: whatever list is put there, the whole is the list of what is past and that list. -/
def LinkD (T Tn Tb : TypeId) (b9 bl o : Nat) (cs : List Value) (Tc : TypeId) (rest : Cells) (pre : List DItem) : Prop :=
  ∀ v xs s, ListD T Tn v xs s → ∃ v0 s0, ListD T Tn v0 (pre ++ xs) s0 ∧ (box1 bl (cs.set o v) Tc ++ (rest ++ s)).Perm (box1 b9 [v0] Tb ++ s0)
theorem LinkD.init {T Tn Tb : TypeId} {b9 : Nat} {v0 : Value} : LinkD T Tn Tb b9 b9 0 [v0] Tb [] [] := fun v xs s h => ⟨v, s, h, .refl _⟩
theorem LinkD.step {T Tn Tb Tc : TypeId} {b9 bl o b8 : Nat} {cs row : List Value} {rest ins : Cells} {pre : List DItem} {y : DItem} {np : Value} (h : LinkD T Tn Tb b9 bl o cs Tc rest pre) (hl : row.length = 4) (hr : ItemO T row y ins) :
    LinkD T Tn Tb b9 b8 4 (row ++ [np]) Tn (rest ++ (box1 bl (cs.set o (ptr ⟨b8, 0, Option.none⟩)) Tc ++ ins)) (pre ++ [y]) := fun v xs s hs => by
  obtain ⟨v0, s0, h1, h2⟩ := h (ptr ⟨b8, 0, Option.none⟩) (y :: xs) (box1 b8 (row ++ [v]) Tn ++ (ins ++ s)) ⟨b8, row, v, ins, s, rfl, .refl _, hr, hs⟩
  refine ⟨v0, s0, by simpa using h1, ?_⟩
  have e : (row ++ [np]).set 4 v = row ++ [v] := by rw [← hl]; simp
  rw [e]
  refine List.Perm.trans ?_ h2
  exact permC fun f g h0 ha hc => by simp only [ha]; omega
/-- What the walk of such a list has at hand. -/
structure QTk where
  pre : List DItem
  xs : List DItem
  p : Option Addr
  bl : Nat
  o : Nat
  cs : List Value
  Tc : TypeId
  rest : Cells
  cells : Cells
end Go.BL
namespace Go.BL
open Go.Conc (G)
theorem All2.drop {α : Type} {R : List Value → α → Prop} {rows : List (List Value)} {xs : List α} (h : All2 R rows xs) : ∀ k, All2 R (rows.drop k) (xs.drop k) := by
  induction h with
  | nil => intro k; simp; exact .nil
  | cons h1 h2 ih =>
    intro k
    cases k with
    | zero => exact .cons h1 h2
    | succ k => exact ih k
theorem flatten_drop {w : Nat} : ∀ {rows : List (List Value)}, wide w rows → ∀ k, (rows.drop k).flatten = rows.flatten.drop (k * w)
  | [], _, k => by simp
  | r :: rows, h, 0 => by simp
  | r :: rows, h, k + 1 => by
    have e := h r (List.mem_cons_self ..)
    rw [List.drop_succ_cons, List.flatten_cons, flatten_drop (fun r hr => h r (List.mem_cons_of_mem _ hr)) k, show (k + 1) * w = r.length + k * w from by rw [e, Nat.succ_mul, Nat.add_comm], List.drop_length_add_append]
/-- An element of one cell is taken out, in place. -/
theorem VecR.del {α : Type} {BV : Kn} {rows : List (List Value)} {xs : List α} {R : Rel α} {arr zs : List Value} {b c i : Nat} {T : TypeId} (h1 : All2 (R BV) rows xs) (h2 : wide 1 rows) (ha : arr.length = c * 1) (ht : arr.take (xs.length * 1) = rows.flatten) (hi : i < xs.length) (hmc : xs.length ≤ c) {k : Nat} (hk : k = i + (xs.length - (i + 1))) :
    VecR BV (box1 b (setAt (setAt arr (i * 1) ((arr.take xs.length).drop (i + 1))) k zs) T) (some ⟨b, 0, none⟩) c T 1 R (xs.take i ++ xs.drop (i + 1)) := by
  have hl := h1.len
  have hlen : (xs.take i ++ xs.drop (i + 1)).length = k := by rw [List.length_append, List.length_take, List.length_drop]; omega
  rw [Nat.mul_one] at ht ha ⊢
  have hws : ((arr.take xs.length).drop (i + 1)).length = xs.length - (i + 1) := by rw [List.length_drop, List.length_take]; omega
  refine ⟨rows.take i ++ rows.drop (i + 1), (h1.take i).app (h1.drop (i + 1)), fun r hr => ?_, ?_, .inr ⟨b, _, rfl, ?_, ?_, rfl, by rw [hlen]; omega⟩⟩
  · rcases List.mem_append.1 hr with hr | hr
    · exact h2 r (List.mem_of_mem_take hr)
    · exact h2 r (List.mem_of_mem_drop hr)
  · rw [List.flatten_append, flatten_take h2, flatten_drop h2, List.length_append, List.length_take, List.length_drop, wide_flat h2, List.length_append, List.length_take, List.length_drop]; omega
  · rw [setAt_length, setAt_length, ha, Nat.mul_one]
  · rw [hlen, Nat.mul_one, setAt_keep _ _ _ _ (Nat.le_refl _)]
    have := setAt_take arr i ((arr.take xs.length).drop (i + 1)) (by rw [hws, ha]; omega)
    rw [hws, ← hk] at this
    rw [this, List.flatten_append, flatten_take h2, flatten_drop h2, Nat.mul_one, Nat.mul_one, ← ht, List.take_take, Nat.min_eq_left (by omega)]
end Go.BL
namespace Go.BL
open Go.Conc (G)
/-- Some segments are seen as others. -/
theorem w_re {P : Program} {n : Nat} {Q : Exit → Post4} {S : Env} {D : List Deferred} {B : Kn} {L : List Cells} {c : Code} (js : List Nat) {ss r ss' : List Cells} (hp : pickAll L js = some (ss, r)) (hn : nodupB js = true) (hs : ss.flatten.Perm ss'.flatten) (h : wpS P n c Q S D B (putAll r js ss')) : wpS P n c Q S D B L :=
  w_segs ((pickAll_perm js L ss r hp).trans ((hs.append_right _).trans (putAll_perm ss' r js (nodupB_spec hn) (fun j hj => pickAll_len js L ss r hp j (.inr hj))))) h
theorem set_same {l : List Value} {i : Nat} {v : Value} (h : l[i]? = some v) : l.set i v = l := by
  obtain ⟨hi, rfl⟩ := List.getElem?_eq_some_iff.1 h
  exact List.set_getElem_self hi
theorem setAt_one {l : List Value} {i : Nat} {v : Value} (h : i < l.length) : setAt l i [v] = l.set i v := by
  induction l generalizing i with
  | nil => simp at h
  | cons x l ih =>
    cases i with
    | zero => simp [setAt]
    | succ i => simp only [setAt, List.set_cons_succ]; rw [ih (by simpa using h)]
end Go.BL
namespace Go.BL
open Go.Conc (G)
theorem srcTail {B : Kn} {L : List Cells} {b n c i : Nat} {arr : List Value} {T : TypeId} (hi : i + 1 ≤ n) (hc : n ≤ c) {k : Nat} (hk : k = i + 1) (hL : L[0]? = some (box1 b arr T) := by rfl) : SrcAt B L.flatten (if c = k then some ⟨b, 0, none⟩ else (some ⟨b, 0, none⟩ : Option Addr).map (·.add (k * 1))) ((arr.take n).drop (i + 1)) := by
  subst hk
  by_cases e : c = i + 1
  · rw [if_pos e]
    intro j v hj
    rw [List.drop_eq_nil_of_le (by rw [List.length_take]; omega)] at hj
    simp at hj
  · rw [if_neg e]
    intro j v hj
    rw [List.getElem?_drop, List.getElem?_take] at hj
    split at hj
    · have e1 : Addr.add (Addr.add ⟨b, 0, none⟩ ((i + 1) * 1)) j = ⟨b, i + 1 + j, none⟩ := by
        rw [Addr.add_off ⟨b, 0, none⟩ _ rfl, Addr.add_off _ _ rfl]; simp
      show CellAt B L.flatten (Addr.add (Addr.add ⟨b, 0, none⟩ ((i + 1) * 1)) j) v
      rw [e1]
      exact ⟨rfl, arr.toArray, T, (0, 0), .inr (List.mem_flatten.2 ⟨_, List.mem_of_getElem? hL, List.mem_cons_self ..⟩), by simpa using hj⟩
    · cases hj
theorem oneTail {BV : Kn} {rows : List (List Value)} {xs : List Str} {arr : List Value} {i : Nat} (h : All2 (StrR BV) rows xs) (ht : arr.take (xs.length * 1) = rows.flatten) : ((arr.take xs.length).drop i).all oneC = true := by
  have h1 : ∀ {rows : List (List Value)} {xs : List Str}, All2 (StrR BV) rows xs → rows.flatten.all oneC = true := by
    intro rows xs h
    induction h with
    | nil => rfl
    | cons h1 _ ih => rw [List.flatten_cons, List.all_append, ih, h1.1]; rfl
  rw [Nat.mul_one] at ht
  rw [ht, List.all_eq_true]
  intro x hx
  exact List.all_eq_true.1 (h1 h) x (List.mem_of_mem_drop hx)
end Go.BL
