/-
  BL: slices that the code makes itself: append, literals, make.
-/
import Derived.Test.YtnhgfdfmfhkcmaaBLDraw
namespace Go.BL
open Go.Conc (G)
set_option linter.unusedVariables false

/-- 'l' is the storage of the slice (p, n, c), whose elements' cells are 'vs' ('sz' cells each). -/
def VecL (l : Cells) (p : Option Addr) (n c : Nat) (T : TypeId) (sz : Nat) (vs : List Value) : Prop :=
  vs.length = n * sz ∧ ((p = none ∧ n = 0 ∧ c = 0 ∧ l = []) ∨ ∃ (b : Nat) (arr : List Value), p = some ⟨b, 0, none⟩ ∧ arr.length = c * sz ∧ arr.take (n * sz) = vs ∧ l = box1 b arr T ∧ n ≤ c)
theorem VecL.nil (T : TypeId) (sz : Nat) : VecL [] none 0 0 T sz [] := ⟨by simp, .inl ⟨rfl, rfl, rfl, rfl⟩⟩
theorem VecL.lit {b : Nat} {arr : List Value} {T : TypeId} {sz n : Nat} (h : arr.length = n * sz) : VecL (box1 b arr T) (some ⟨b, 0, none⟩) n n T sz arr :=
  ⟨h, .inr ⟨b, arr, rfl, h, by rw [← h]; simp, rfl, Nat.le_refl _⟩⟩

theorem growBy_le (m : Nat) : ∀ (r c : Nat), 256 ≤ c → c ≤ 2 * m → Builtin.growBy m r c ≤ 2 * m
  | 0, c, _, h => h
  | r + 1, c, h0, h => by
    simp only [Builtin.growBy]
    split
    · exact h
    · exact growBy_le m r _ (by omega) (by omega)
theorem nextslicecap_le {need cap : Nat} (h : cap < need) : Builtin.nextslicecap need cap ≤ 2 * need := by
  unfold Builtin.nextslicecap
  split
  · omega
  · split
    · omega
    · exact growBy_le need 4 cap (by omega) (by omega)

/-- What an append reads of a slice. -/
def SrcAt (B : Kn) (L : Cells) (q : Option Addr) (ws : List Value) : Prop := match q with
  | none => ws = []
  | some a => ∀ j v, ws[j]? = some v → CellAt B L (a.add j) v
theorem SrcAt.app {B : Kn} {L F : Cells} {q : Option Addr} {ws : List Value} (h : SrcAt B L q ws) : SrcAt B (L ++ F) q ws := by
  cases q with
  | none => exact h
  | some a => exact fun j v hj => (h j v hj).app
theorem hb_firstCells {P : Program} {B : Kn} {L : Cells} {q : Option Addr} {ws : List Value} {sz m c : Nat} (hs : SrcAt B L q ws) (hl : ws.length = m * sz) {Q : Array Value → Kn → Cells → Prop} (h : Q ws.toArray B L) : hb P (Builtin.firstCells sz m (.slice q m c)) Q B L := by
  cases q with
  | none =>
    obtain rfl : ws = [] := hs
    exact h
  | some a =>
    simp only [Builtin.firstCells, loadCells]
    rw [← hl]
    exact hb_loadCellsFrom ws 0 #[] (fun j v hj => by simpa using hs j v hj) (by simpa using h)

theorem setAt_length : ∀ (l : List Value) (i : Nat) (vs : List Value), (setAt l i vs).length = l.length
  | [], i, [] => by cases i <;> rfl
  | [], i, v :: vs => by cases i <;> rfl
  | x :: l, 0, [] => rfl
  | x :: l, i + 1, [] => rfl
  | x :: l, 0, v :: vs => by simp [setAt, setAt_length l 0 vs]
  | x :: l, i + 1, v :: vs => by simp [setAt, setAt_length l i (v :: vs)]
theorem setAt_take : ∀ (l : List Value) (i : Nat) (vs : List Value), i + vs.length ≤ l.length → (setAt l i vs).take (i + vs.length) = l.take i ++ vs
  | l, i, [], h => by simp [setAt_nil]
  | [], i, v :: vs, h => by simp at h
  | x :: l, 0, v :: vs, h => by
    have := setAt_take l 0 vs (by simpa using h)
    simp only [Nat.zero_add] at this
    simp [setAt, this]
  | x :: l, i + 1, v :: vs, h => by
    have := setAt_take l i (v :: vs) (by simp only [List.length_cons] at h ⊢; omega)
    simp only [setAt, List.take_succ_cons, List.cons_append, List.length_cons] at this ⊢
    rw [show i + 1 + (vs.length + 1) = (i + (vs.length + 1)) + 1 from by omega, List.take_succ_cons, this]

section
variable {P : Program} {n : Nat} {ops : Array Oper} {i : Nat} {K : PostV} {S : Env} {D : List Deferred} {B : Kn} {L : List Cells}
variable {dst : Option Tmp} {ty : TypeId} {pos : String} {after : Array Edge} {g : Option (Nat × Bool)}

def bytesIs (P : Program) (t : TypeId) : Option Nat := (P.info? t).map (·.bytes)
/-- What an append asks of the element's type: cells, bytes, zero. -/
def elemOk (P : Program) (t e : TypeId) (sz by_ : Nat) : Bool := match P.underlying t, P.info? e with
  | some (.slice e'), some i => e' == e && i.size == sz && i.bytes == by_ && Nat.blt 0 by_ && (match i.zero with | some z => z.cells.size == sz | none => false)
  | _, _ => false

theorem hb_askRoom {k : Nat} {Q : Unit → Kn → Cells → Prop} {B : Kn} {L : Cells} (h : Q () B L) : hb P (askRoom k) Q B L := by
  unfold askRoom
  split
  · exact ⟨rfl, h⟩
  · exact h

theorem zeroCells_size (z : Array Value) (k : Nat) : (Builtin.zeroCells z k).size = k * z.size := by simp [Builtin.zeroCells]

/-- append(s, x...), s being the code's own. -/
theorem w_append {t u e : TypeId} {x y : Operand} {sz by_ m c d c2 : Nat} {p q : Option Addr} {vs ws : List Value} {l : Cells} (j : Nat) (hj : L[j]? = some l) (hv : VecL l p m c e sz vs) (hg : guardOk ops S g = some true) (hd : dstOk n dst = true)
    (he : elemOk P t e sz by_ = true) (hu : (match P.underlying u with | some (.slice _) => true | _ => false) = true) (hx : ev S x = some (.slice p m c)) (hy : ev S y = some (.slice q d c2)) (hs : SrcAt B L.flatten q ws) (hl : ws.length = d * sz) (hone : ws.all oneC = true) (hb1 : (m + d) * by_ ≤ 140737488355328)
    (h : ∀ l' p' c', VecL l' p' (m + d) c' e sz (vs ++ ws) → K (.slice p' (m + d) c') D B (L.set j l')) : opX P n ops i ⟨dst, .call ⟨.builtin .append, #[x, y], #[t, u]⟩, ty, pos, after, g⟩ K S D B L :=
  opX_hb hg hd fun ρ hρ F => by
    unfold elemOk at he
    split at he
    · rename_i e' inf hut hie
      simp only [Bool.and_eq_true, beq_iff_eq] at he
      obtain ⟨⟨⟨⟨rfl, hsz⟩, hby⟩, hpos⟩, hz⟩ := he
      cases hzo : inf.zero with
      | none => rw [hzo] at hz; cases hz
      | some z =>
        rw [hzo] at hz
        have hz' : z.cells.size = sz := by simpa using hz
        have hsi : sizeIs P e' = some sz := by simp [sizeIs, hie, hsz]
        have hzi : zeroOf P e' = some z := by simp [zeroOf, hie, hzo]
        obtain ⟨du, hdu, hnoint⟩ : ∃ du, P.underlying u = some du ∧ (match du with | .slice _ => true | _ => false) = true := by
          cases hq : P.underlying u with
          | none => rw [hq] at hu; cases hu
          | some du => exact ⟨du, rfl, by rw [hq] at hu; cases du <;> simp_all⟩
        obtain ⟨e2, rfl⟩ : ∃ e2, du = .slice e2 := by cases du <;> first | exact ⟨_, rfl⟩ | cases hnoint
        obtain ⟨rr, hp1, _⟩ := set_perm F [] hj
        have hset : ∀ l', ((L.set j l').flatten ++ F).Perm (l' ++ rr) := fun l' => by
          obtain ⟨r2, a1, a2⟩ := set_perm F l' hj
          have : rr.Perm r2 := (List.perm_append_left_iff l).1 (hp1.symm.trans a1)
          exact a2.trans (List.Perm.append_left l' this.symm)
        obtain ⟨hvl, hcase⟩ := hv
        simp only [execOp, resolve, hb_bind, hb_pure, invoke, builtin, Builtin.append_, List.map_toArray, List.map_cons, List.map_nil, hρ x _ hx, hρ y _ hy, List.getElem?_toArray, List.getElem?_cons_zero, List.getElem?_cons_succ, hb_underlying hut, hb_underlying hdu, hb_sizeOf hsi, Bool.false_eq_true, if_false, Builtin.lenOf, Bool.not_false, if_true]
        by_cases hfit : m + d ≤ c
        · rw [if_pos hfit]
          simp only [hb_bind]
          refine hb_firstCells hs.app hl ?_
          rcases hcase with ⟨rfl, rfl, rfl, rfl⟩ | ⟨b, arr, rfl, ha, ht, rfl, hmc⟩
          · simp only [hb_pure]
            obtain rfl : d = 0 := by omega
            have hw : ws = [] := List.eq_nil_of_length_eq_zero (by simpa using hl)
            have hvn : vs = [] := List.eq_nil_of_length_eq_zero (by simpa using hvl)
            refine ⟨L, .of (.refl _), ?_⟩
            have := h [] none 0 ⟨by simp [hw, hvn], .inl ⟨rfl, rfl, rfl, rfl⟩⟩
            rwa [set_self hj] at this
          · simp only [hb_bind]
            have hoff : (Addr.add ⟨b, 0, none⟩ (m * sz)).off = m * sz := by unfold Addr.add; split <;> simp_all
            have hblk : (Addr.add ⟨b, 0, none⟩ (m * sz)).block = b := by unfold Addr.add; split <;> rfl
            have hspt : (Addr.add ⟨b, 0, none⟩ (m * sz)).spot = none := by unfold Addr.add; split <;> rfl
            have hlen : m * sz + ws.length ≤ arr.length := by rw [ha, hl, ← Nat.add_mul]; exact Nat.mul_le_mul_right sz hfit
            refine hb_storeCells (T := e') (L₁ := rr) hspt ws 0 arr _ hone (by rw [hblk]; exact hp1) (by rw [hoff, Nat.add_zero]; exact hlen) fun L' hp => ?_
            simp only [hb_pure]
            rw [hblk, hoff, Nat.add_zero] at hp
            refine ⟨L.set j (box1 b (setAt arr (m * sz) ws) e'), (Sup.of (hp.trans (hset (box1 b (setAt arr (m * sz) ws) e')).symm)), h _ _ _ ⟨?_, .inr ⟨b, _, rfl, by rw [setAt_length, ha], ?_, rfl, hfit⟩⟩⟩
            · rw [List.length_append, hvl, hl, Nat.add_mul]
            · rw [Nat.add_mul, ← hl, setAt_take _ _ _ hlen, ht]
        · rw [if_neg hfit]
          have hcap : c < m + d := by omega
          have hbig : ¬ (Builtin.nextslicecap (m + d) c * by_ > 2 ^ 48) := by
            have h1 := nextslicecap_le hcap
            have h2 : Builtin.nextslicecap (m + d) c * by_ ≤ 2 * (m + d) * by_ := Nat.mul_le_mul_right _ h1
            have h3 : 2 * (m + d) * by_ = 2 * ((m + d) * by_) := by rw [Nat.mul_assoc]
            omega
          have hby0 : inf.bytes ≠ 0 := by rw [hby]; have := hpos; simp at this; omega
          have hby1 : by_ ≠ 0 := by rw [← hby]; exact hby0
          simp only [hb_bind, hb_typeInfo hie, hby, hbig, if_false, false_or, hby1, and_false]
          intro nc hf1 hf2
          obtain ⟨tt, rfl⟩ := hf2 rfl
          have hnc : m + d ≤ Question.cut (.appendCap (m + d) c e') tt := by simp only [Question.cut]; omega
          generalize Question.cut (.appendCap (m + d) c e') tt = nc at *
          simp only [hb_bind, hb_spure, hb_typeInfo hie]
          refine hb_askRoom ?_
          have hold : SrcAt B (L.flatten ++ F) p vs := by
            rcases hcase with ⟨rfl, rfl, rfl, rfl⟩ | ⟨b, arr, rfl, ha, ht, rfl, hmc⟩
            · exact List.eq_nil_of_length_eq_zero (by simpa using hvl)
            · intro k v hk
              have hv' : arr[k]? = some v := by
                rw [← ht, List.getElem?_take] at hk
                split at hk
                · exact hk
                · cases hk
              rw [Addr.add_off _ _ rfl, Nat.zero_add]
              exact ⟨rfl, arr.toArray, e', (0, 0), .inr (List.mem_append.2 (.inl (List.mem_flatten.2 ⟨_, List.mem_of_getElem? hj, List.mem_cons_self ..⟩))), by simpa using hv'⟩
          rw [hb_bind]
          refine hb_firstCells hold hvl ?_
          rw [hb_bind]
          refine hb_firstCells hs.app hl ?_
          rw [hb_bind, hb_zeroValue hzi, hb_bind]
          refine ⟨rfl, fun b _ _ => ?_⟩
          have hzs : (Builtin.zeroCells z.cells (nc - (m + d))).size = (nc - (m + d)) * sz := by rw [zeroCells_size, hz']
          have harr : vs.toArray ++ ws.toArray ++ Builtin.zeroCells z.cells (nc - (m + d)) = (vs ++ ws ++ (Builtin.zeroCells z.cells (nc - (m + d))).toList).toArray := by
            apply Array.ext'; simp
          simp only [hb_spure, hb_pure]
          rw [harr]
          let r0 : List Value := (Builtin.zeroCells z.cells (nc - (m + d))).toList
          have hr0 : r0.length = (nc - (m + d)) * sz := by simp only [r0, Array.length_toList]; exact hzs
          refine ⟨L.set j (box1 b (vs ++ ws ++ r0) e'), ⟨l, ?_⟩, h _ _ _ ⟨?_, .inr ⟨b, vs ++ ws ++ r0, rfl, ?_, ?_, rfl, hnc⟩⟩⟩
          · refine (List.Perm.cons _ hp1).trans (List.Perm.trans ?_ (List.Perm.append_right l (hset (box1 b (vs ++ ws ++ r0) e')).symm))
            show ((b, _) :: (l ++ rr)).Perm (((b, _) :: rr) ++ l)
            exact List.Perm.cons _ List.perm_append_comm
          · rw [List.length_append, hvl, hl, Nat.add_mul]
          · rw [List.length_append, List.length_append, hvl, hl, hr0, ← Nat.add_mul, ← Nat.add_mul, Nat.add_sub_cancel' hnc]
          · rw [List.take_append_of_le_length (by rw [List.length_append, hvl, hl, Nat.add_mul]; exact Nat.le_refl _), List.take_of_length_le (by rw [List.length_append, hvl, hl, Nat.add_mul]; exact Nat.le_refl _)]
    · cases he
end
end Go.BL
