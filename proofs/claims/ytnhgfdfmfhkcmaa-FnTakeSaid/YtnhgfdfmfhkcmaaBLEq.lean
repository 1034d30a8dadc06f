/-
  BL: '==' and '!=' of structs whose fields are numbers, strings and truth values.
-/
import Derived.Test.YtnhgfdfmfhkcmaaBLKit
namespace Go.BL
open Go.Conc (G)
set_option linter.unusedVariables false
section
variable {P : Program}
/-- '==' of a type at a depth. -/
def eqIn (P : Program) (d : Nat) (t : TypeId) (a b : Value) (r : Bool) : Prop := ∀ (B : Kn) (L : Cells) (Q : Bool → Kn → Cells → Prop), Q r B L → hb P (Op.equalIn d t a b) Q B L
theorem eqIn_str {d : Nat} {t : TypeId} {a b : List UInt8} (hu : P.underlying t = some .string) : eqIn P (d + 1) t (str a) (str b) (decide (a = b)) := fun B L Q q => by
  have e : ((⟨a.toArray⟩ : ByteArray) == ⟨b.toArray⟩) = decide (a = b) := by
    show ((⟨a⟩ : Array UInt8) == ⟨b⟩) = _
    rw [Bool.eq_iff_iff]; simp
  rw [Op.equalIn, hb_bind, hb_underlying hu]
  simp only [str, hb_pure]
  first | exact e ▸ q | (rw [e]; exact q)
theorem eqIn_int {d : Nat} {t : TypeId} {k k' : IntKind} {a b : Int} (hu : P.underlying t = some (.int k')) : eqIn P (d + 1) t (.int k a) (.int k b) (decide (a = b)) := fun B L Q q => by
  have e : (a == b) = decide (a = b) := by rw [Bool.eq_iff_iff]; simp
  rw [Op.equalIn, hb_bind, hb_underlying hu]
  simp only [if_true, hb_pure, e]; exact q
theorem eqIn_bool {d : Nat} {t : TypeId} {a b : Bool} (hu : P.underlying t = some .bool) : eqIn P (d + 1) t (.bool a) (.bool b) (decide (a = b)) := fun B L Q q => by
  have e : (a == b) = decide (a = b) := by cases a <;> cases b <;> rfl
  rw [Op.equalIn, hb_bind, hb_underlying hu]
  simp only [hb_pure, e]; exact q
def flatOk (P : Program) (t : TypeId) (ts : List (Nat × TypeId)) : Bool :=
  match P.underlying t with
  | some (.struct fs) => fs.toList.all (fun f => f.name != "_" && (lk P f.type == some none)) && (fs.toList.map (fun f => (f.offset, f.type)) == ts) && !P.stoodInHeld t && !P.eqGuardType P.depth t
  | _ => false
def FlatE (P : Program) (d : Nat) (xs ys : Array Value) : List (Nat × TypeId) → List Bool → Prop
  | [], [] => True
  | (o, t) :: fs, r :: rs => (∃ a b, xs[o]? = some a ∧ ys[o]? = some b ∧ eqIn P d t a b r) ∧ FlatE P d xs ys fs rs
  | _, _ => False
theorem hb_part {t : TypeId} {cs : Array Value} {o : Nat} {a : Value} (hl : lk P t = some none) (ha : cs[o]? = some a) {Q : Value → Kn → Cells → Prop} {B : Kn} {L : Cells} : hb P (part t cs o) Q B L = Q a B L := by
  unfold part
  rw [hb_bind, lk_none hl]
  simp only [Bool.false_eq_true, if_false, ha, hb_pure]
theorem eqIn_flat {d : Nat} {t : TypeId} {ts : List (Nat × TypeId)} {xs ys : Array Value} {rs : List Bool} (ht : flatOk P t ts = true) (h : FlatE P d xs ys ts rs) : eqIn P (d + 1) t (.agg xs) (.agg ys) (rs.all id) := fun B L Q q => by
  unfold flatOk at ht
  split at ht
  · rename_i fs hu
    simp only [Bool.and_eq_true, Bool.not_eq_true', beq_iff_eq] at ht
    obtain ⟨⟨⟨h1, h2⟩, h3⟩, h4⟩ := ht
    rw [Op.equalIn, hb_bind, hb_underlying hu]
    simp only [hb_bind, hb_program, h3, Bool.false_eq_true, if_false]
    rw [← Array.forIn_toList]
    subst h2
    clear hu h3 h4
    generalize fs.toList = l at h h1 ⊢
    induction l generalizing rs with
    | nil =>
      cases rs with
      | nil => simpa [hb_pure] using q
      | cons r rs => exact h.elim
    | cons f l ih =>
      cases rs with
      | nil => exact h.elim
      | cons r rs =>
        simp only [List.map_cons, FlatE] at h
        obtain ⟨⟨a, b, ha, hb', he⟩, ht⟩ := h
        simp only [List.all_cons, Bool.and_eq_true, bne_iff_ne, beq_iff_eq] at h1
        obtain ⟨⟨hn, hl⟩, h1'⟩ := h1
        simp only [List.forIn_cons, hb_bind, ne_eq, hn, not_false_eq_true, if_true, hb_part hl ha, hb_part hl hb']
        apply he
        cases r with
        | true =>
          simp only [Bool.not_true, Bool.false_eq_true, if_false, hb_pure]
          exact ih (by simpa using q) ht h1'
        | false =>
          simp only [Bool.not_false, if_true, hb_pure]
          simpa using q
  · cases ht
theorem hb_eqGuardF {op : BinOp} {t : TypeId} {ts : List (Nat × TypeId)} {x y : Operand} {a b : Array Value} {Q : Unit → Kn → Cells → Prop} {B : Kn} {L : Cells} (ht : flatOk P t ts = true) : hb P (eqGuard op t x y (.agg a) (.agg b)) Q B L = Q () B L := by
  have h4 : P.eqGuardType P.depth t = false := by
    unfold flatOk at ht
    split at ht
    · simp only [Bool.and_eq_true, Bool.not_eq_true'] at ht
      exact ht.2
    · cases ht
  cases op <;> simp [eqGuard, hb_bind, hb_program, h4, hb_pure]
end
section
variable {P : Program} {n : Nat} {ops : Array Oper} {i : Nat} {K : PostV} {S : Env} {D : List Deferred} {B : Kn} {L : List Cells}
variable {dst : Option Tmp} {ty : TypeId} {pos : String} {after : Array Edge} {g : Option (Nat × Bool)}
theorem w_eqlF {t u : TypeId} {ts : List (Nat × TypeId)} {x y : Operand} {a b : Array Value} {rs : List Bool} (hg : guardOk ops S g = some true) (hd : dstOk n dst = true) (hx : ev S x = some (.agg a)) (hy : ev S y = some (.agg b)) (ht : flatOk P t ts = true) (he : FlatE P 9999 a b ts rs) (h : K (.bool (rs.all id)) D B L) : opX P n ops i ⟨dst, .binOp .eql t x y u, ty, pos, after, g⟩ K S D B L :=
  opX_pure hg hd (fun ρ hρ Q F q => by
    simp only [execOp, hρ x _ hx, hρ y _ hy, hb_bind, hb_eqGuardF ht, binOp_eql (.inr ⟨_, _, rfl, rfl⟩), hb_pure]
    exact eqIn_flat ht he _ _ (fun r B' L' => Q (.value (.bool r)) B' L') q) h
theorem w_neqF {t u : TypeId} {ts : List (Nat × TypeId)} {x y : Operand} {a b : Array Value} {rs : List Bool} (hg : guardOk ops S g = some true) (hd : dstOk n dst = true) (hx : ev S x = some (.agg a)) (hy : ev S y = some (.agg b)) (ht : flatOk P t ts = true) (he : FlatE P 9999 a b ts rs) (h : K (.bool (!rs.all id)) D B L) : opX P n ops i ⟨dst, .binOp .neq t x y u, ty, pos, after, g⟩ K S D B L :=
  opX_pure hg hd (fun ρ hρ Q F q => by
    simp only [execOp, hρ x _ hx, hρ y _ hy, hb_bind, hb_eqGuardF ht, binOp_neq (.inr ⟨_, _, rfl, rfl⟩), hb_pure]
    exact eqIn_flat ht he _ _ (fun r B' L' => Q (.value (.bool (!r))) B' L') q) h
end
end Go.BL
